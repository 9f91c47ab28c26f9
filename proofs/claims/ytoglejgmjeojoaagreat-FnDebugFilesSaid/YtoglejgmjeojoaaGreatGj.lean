import Derived.Test.YtoglejgmjeojoaaGreatGi
set_option maxRecDepth 100000
set_option maxHeartbeats 4000000
namespace Go.Proofs.P
open Go.Sim Tryz
theorem PsOk.sep {P:List Om}(h:PsOk P){i j:Nat}{x y:Om}(P5:i<j)(hx:P[i]?=some x)(hy:P[j]?=some y):mD x<=y.J7:=by have:=h.lt (n:=j-i-1) (k:=i) hx (y:=y) (by rw[show i+(j-i-1)+1=j by omega];exact hy);exact this
theorem PsOk.mono {P:List Om}(h:PsOk P){i j:Nat}{x y:Om}(P5:i<=j)(hx:P[i]?=some x)(hy:P[j]?=some y):x.J7<=y.J7/\mD x<=mD y:=by
 rcases D1 P5 with rfl|N2
 ·rw[hx]at hy;injection hy with hy;subst hy;exact⟨v7 _,v7 _⟩
 ·have h1:=h.sep N2 hx hy;have h2:=h.rng i x hx;have h3:=h.rng j y hy
  unfold mD at *
  omega
theorem EF {p:List Oj}{ch:List Int}{lv:Nat}{nm:List UInt8}{l:List Om}:∀{n m j:Nat} {y:Om},l.length-m<=n->m<=j->j<gT p ch lv nm (l.drop m) m->l[j]?=some y->qV p ch lv nm y=true
 | n,m,j,y,hn,h1,h2,hy=>by
  have hj:=aw hy;rcases l9 m l.length with hm|hm
  ·obtain⟨z,hz⟩:=ab hm;rw[Ch hz]at h2;split at h2
   ·rename_i Tv;rcases D1 h1 with rfl|N2
    ·rw[hz]at hy;injection hy with hy;subst hy;exact Tv
    ·cases n with|zero=>omega|succ n=>exact EF (n:=n) (m:=m+1) o_ o_ h2 hy
   ·omega
  ·rw[EV hm]at h2;omega
theorem GI {p:List Oj}{ch:List Int}{lv:Nat}{nm:List UInt8}{l:List Om}:∀{n m j:Nat},j+1-m<=n->m<=j+1->j<l.length->(∀(q:Nat) (y:Om),m<=q->q<=j->l[q]?=some y->qV p ch lv nm y=true)->j<gT p ch lv nm (l.drop m) m
 | 0,m,j,hn,hm,hj,h=>by
  have:=(kb (p:=p) (ch:=ch) (lv:=lv) (nm:=nm) (l:=l.drop m) (k:=m)).1
  omega
 | n+1,m,j,hn,hm,hj,h=>by
  rcases D1 hm with rfl|N2
  ·have:=(kb (p:=p) (ch:=ch) (lv:=lv) (nm:=nm) (l:=l.drop (j+1)) (k:=j+1)).1;omega
  ·obtain⟨z,hz⟩:=ab (l:=l) (k:=m) o_;rw[Ch hz,d5 (h m z (d7 _) o_ hz)];exact GI (n:=n) (m:=m+1) o_ o_ hj fun q y h1 h2=>h q y o_ h2
theorem joinsI_iff {p:List Oj}{ch:List Int}{lv:Nat}{nm:List UInt8}{y:Om}:qV p ch lv nm y=true↔lv<y.I8.J3.length/\y.I8.J3.take (lv+1)=ch.take (lv+1)/\aT p y.I8 lv=nm:=by unfold qV;simp only[c9,j7,x7]
structure RunI (p:List Oj) (l:List Om) (lv i k:Nat) (x y:Om):Prop where
 lt:i<k
 le:k<=l.length
 last:l[k-1]?=some y
 all:∀(j:Nat) (z:Om),i<=j->j<k->l[j]?=some z->lv<z.I8.J3.length/\z.I8.J3.take (lv+1)=x.I8.J3.take (lv+1)/\aT p z.I8 lv=aT p x.I8 lv
 far:∀(j:Nat),j<l.length->(∀(q:Nat) (z:Om),i<=q->q<=j->l[q]?=some z->lv<z.I8.J3.length/\z.I8.J3.take (lv+1)=x.I8.J3.take (lv+1)/\aT p z.I8 lv=aT p x.I8 lv)->j<k
theorem Fw {p:List Oj}{l:List Om}{lv i:Nat}{x:Om}(hx:l[i]?=some x)(hl:lv<x.I8.J3.length):∃y,RunI p l lv i (gT p x.I8.J3 lv (aT p x.I8 lv) (l.drop (i+1)) (i+1)) x y:=by
 have hi:=aw hx;have h1:=kb (p:=p) (ch:=x.I8.J3) (lv:=lv) (nm:=aT p x.I8 lv) (l:=l.drop (i+1)) (k:=i+1);rw[t8]at h1;obtain⟨y,hy⟩:=ab (l:=l) (k:=gT p x.I8.J3 lv (aT p x.I8 lv) (l.drop (i+1)) (i+1)-1) o_;refine⟨y,o_,o_,hy,fun j z Xl Ua hz=>?_,fun j hj h=>?_⟩
 ·rcases D1 Xl with rfl|N2
  ·rw[hx]at hz;injection hz with hz;subst hz;exact⟨hl,rfl,rfl⟩
  ·exact joinsI_iff.1 (EF (d7 _) o_ Ua hz)
 ·rcases l9 j i with N2|OK
  ·omega
  ·exact GI (d7 _) o_ hj fun q z h1 h2 hz=>joinsI_iff.2 (h q z o_ h2 hz)
theorem pQ {p:List Oj}{l:List Om}{lv i n:Nat}{x:Om}(hx:l[i]?=some x):lvN p l lv (n+1) i=match x.I8.J3[lv]? with
   | none=>lvN p l lv n (i+1)
   | some c=>match l[gT p x.I8.J3 lv (aT p x.I8 lv) (l.drop (i+1)) (i+1)-1]? with
    | none=>[]
    | some y=>dh p lv x c y::lvN p l lv n (gT p x.I8.J3 lv (aT p x.I8 lv) (l.drop (i+1)) (i+1)):=by
 rw[lvN,hx];all_goals rfl
abbrev MS:=Int×Int×List UInt8
def Fc (r:Oh):MS:=(r.L8,r.J9,r.J0)
def uA (p:List Oj)(x:Oi)(lv:Nat):List MS:=match x.J3[lv]? with
 | some c=>[((lv:Int),c,aT p x lv)]
 | none=>[]
theorem Gn {p:List Oj}{l:List Om}(h:PsOk l){lv:Nat}:∀{n i:Nat} {x:Om},l[i]?=some x->∀r∈lvN p l lv n i,x.J7<=r.J8
 | 0,_,_,_,r,hr=>by rw[lvN]at hr;cases hr
 | n+1,i,x,hx,r,hr=>by
  rw[pQ hx]at hr
  have next:∀k,i<k->r∈lvN p l lv n k->x.J7<=r.J8:=fun k hk hm=>by
   rcases l9 k l.length with OZ|OZ
   ·obtain⟨y,hy⟩:=ab OZ;have:=Gn h hy r hm;have:=h.mono (Nat.le_of_lt hk) hx hy;omega
   ·rw[wD OZ]at hm;cases hm
  split at hr
  ·exact next _ o_ hr
  ·rename_i c hc;split at hr
   ·cases hr
   ·rename_i y hy;rcases d6.1 hr with rfl|hr
    ·exact v7 _
    ·have:=(kb (p:=p) (ch:=x.I8.J3) (lv:=lv) (nm:=aT p x.I8 lv) (l:=l.drop (i+1)) (k:=i+1)).1;exact next _ o_ hr
theorem oK {α:Type}{q:α->Bool}:∀{l:List α},(∀r∈l,q r=false)->l.filter q=[]
 | [],_=>rfl
 | a::l,h=>by
  rw[B2,c8 (by rw[h a s_];simp),oK fun r hr=>h r aaw]
theorem yT {p:List Oj}{l:List Om}(h:PsOk l){lv j:Nat}{x:Om}(hx:l[j]?=some x):∀{n i:Nat},l.length-i<=n->i<=j->((lvN p l lv n i).filter (pX x.J7)).map Fc=uA p x.I8 lv
 | 0,i,hn,hi=>by have:=aw hx;omega
 | n+1,i,hn,hi=>by
  have hj:=aw hx;obtain⟨z,hz⟩:=ab (l:=l) (k:=i) o_;rw[pQ hz];have Up:=h.rng j x hx
  cases hc:z.I8.J3[lv]? with
  | none=>
   dsimp only;rcases D1 hi with rfl|N2
   ·rw[hz]at hx;injection hx with hx;subst hx;rw[uA,hc,oK,A4];intro r hr;rcases l9 (i+1) l.length with O3|O3
    ·obtain⟨w,hw⟩:=ab O3;have h1:=Gn h hw r hr;have h2:=h.sep (Nat.lt_succ_self i) hz hw;unfold pX;rw[z8];left;rw[n7];unfold mD at h2;omega
    ·rw[wD O3]at hr;cases hr
   ·exact yT h hx o_ N2
  | some c=>
   have RG:=aw hc;obtain⟨y,hR⟩:=Fw (p:=p) hz RG
   generalize gT p z.I8.J3 lv (aT p z.I8 lv) (l.drop (i+1)) (i+1)=k at *
   rw[hR.last];dsimp only;rw[B2];rcases l9 j k with Qq|Qq
   ·obtain⟨a1,a2,a3⟩:=hR.all j x hi Qq hx
    have hin:pX x.J7 (dh p lv z c y)=true:=by
     have h1:=h.mono hi hz hx;have h2:=h.mono (show j<=k-1 by omega) hx hR.last;unfold pX dh;simp only[c9,j7]
     unfold mD at *
     omega
    rw[d5 hin,oK (l:=lvN p l lv n k),n9,A4,uA]
    ·have VI:x.I8.J3[lv]?=some c:=by have e1:(x.I8.J3.take (lv+1))[lv]?=x.I8.J3[lv]?:=(by rw[l4,d5 o_]);have e2:(z.I8.J3.take (lv+1))[lv]?=z.I8.J3[lv]?:=(by rw[l4,d5 o_]);rw[<-e1,a2,e2,hc]
     rw[VI];dsimp only;rw[a3];rfl
    ·intro r hr;rcases l9 k l.length with O3|O3
     ·obtain⟨w,hw⟩:=ab O3;have h1:=Gn h hw r hr;have h2:=h.sep Qq hx hw;unfold pX;rw[z8];left;rw[n7];unfold mD at h2;omega
     ·rw[wD O3]at hr;cases hr
   ·have hin:pX x.J7 (dh p lv z c y)=false:=by have h2:=h.sep (show k-1<j by have:=hR.lt;omega) hR.last hx;unfold pX dh;rw[z8];right;rw[n7];dsimp only;omega
    rw[c8 (by rw[hin];simp)];exact yT h hx (by have:=hR.lt;omega) Qq
def vp (p:List Oj)(x:Oi):Nat->Nat->List MS
 | 0,_=>[]
 | n+1,lv=>uA p x lv++vp p x n (lv+1)
theorem AE {p:List Oj}{l:List Om}(h:PsOk l){j:Nat}{x:Om}(hx:l[j]?=some x):∀(n lv:Nat),((oO p l n lv).filter (pX x.J7)).map Fc=vp p x.I8 n lv
 | 0,_=>by rw[oO,vp];rfl
 | n+1,lv=>by rw[oO,vp,H7,ne,yT h hx o_ (v4 _),AE h hx n (lv+1)]
theorem Ds:∀{l:List Om} {d:Nat},d<=jN l d/\∀x∈l,x.I8.J3.length<=jN l d
 | [],d=>⟨d7 _,fun x h=>by cases h⟩
 | a::l,d=>by
  have h:=Ds (l:=l) (d:=max d a.I8.J3.length);rw[jN];refine⟨o_,fun x hx=>?_⟩;rcases d6.1 hx with rfl|hx
  ·omega
  ·exact h.2 x hx
theorem Bc {p:List Oj}{x:Oi}:∀(n lv:Nat),x.J3.length<=lv+n->(vp p x n lv).length=x.J3.length-lv/\∀(i:Nat) (c:Int),x.J3[lv+i]?=some c->(vp p x n lv)[i]?=some (((lv+i:Nat):Int),c,aT p x (lv+i))
 | 0,lv,h=>by
  refine⟨by rw[vp];simp;omega,fun i c hc=>?_⟩
  rw[e9 o_]at hc;cases hc
 | n+1,lv,h=>by
  obtain⟨h1,h2⟩:=Bc (p:=p) (x:=x) n (lv+1) o_;rw[vp]
  cases hc:x.J3[lv]? with
  | none=>
   have hl:x.J3.length<=lv:=by
    rcases l9 lv x.J3.length with h'|h'
    ·rw[f9 h']at hc;cases hc
    ·exact h'
   rw[show uA p x lv=[] by rw[uA,hc],p8];refine⟨o_,fun i c hi=>?_⟩
   rw[e9 o_]at hi;cases hi
  | some c0=>
   have hl:=aw hc;rw[show uA p x lv=[((lv:Int),c0,aT p x lv)] by rw[uA,hc],D6];refine⟨by rw[c7];omega,fun i c hi=>?_⟩
   cases i with
   | zero=>
    rw[w9,hc]at hi;injection hi with hi;subst hi
    rfl
   | succ i=>rw[m5,h2 i c (by rw[<-hi];congr 1;omega),show lv+1+i=lv+(i+1) by omega]
theorem lx:∀{A B pre:List Oh},bS pre A=true->bS (pre++A) B=true->bS pre (A++B)=true
 | [],B,pre,_,h=>by rw[i9]at h;exact h
 | a::A,B,pre,h1,h2=>by
  rw[bS]at h1;split at h1
  ·rename_i ha;rw[p0,bS,d5 ha];exact lx h1 (by rw[j9];exact h2)
  ·cases h1
def Cover (p:List Oj)(l:List Om)(lv:Nat)(pre:List Oh):Prop:=lv=0\/∀(i j:Nat) (x y:Om),i<=j->l[i]?=some x->l[j]?=some y->
 (∀(q:Nat) (z:Om),i<=q->q<=j->l[q]?=some z->lv-1<z.I8.J3.length/\z.I8.J3.take (lv-1+1)=x.I8.J3.take (lv-1+1)/\aT p z.I8 (lv-1)=aT p x.I8 (lv-1))->
 ∃r∈pre,r.L8=(lv:Int)-1/\r.J8<=x.J7/\mD y<=r.L5
theorem Cover.more {p:List Oj}{l:List Om}{lv:Nat}{pre:List Oh}(h:Cover p l lv pre)(A:List Oh):Cover p l lv (pre++A):=by
 rcases h with h|h
 ·exact .inl h
 ·refine .inr fun i j x y h1 h2 h3 h4=>?_;obtain⟨r,r1,r2⟩:=h i j x y h1 h2 h3 h4;exact⟨r,by simp[r1],r2⟩
theorem tD {p:List Oj}{l:List Om}(h:PsOk l){lv:Nat}{i j:Nat}{x y:Om}(P5:i<=j)(hx:l[i]?=some x)(hy:l[j]?=some y)
  (ha:∀(q:Nat) (z:Om),i<=q->q<=j->l[q]?=some z->lv<z.I8.J3.length/\z.I8.J3.take (lv+1)=x.I8.J3.take (lv+1)/\aT p z.I8 lv=aT p x.I8 lv):
  ∀{n m:Nat},l.length-m<=n->m<=i->∃r∈lvN p l lv n m,r.L8=(lv:Int)/\r.J8<=x.J7/\mD y<=r.L5
 | 0,m,hn,hm=>by have:=aw hx;omega
 | n+1,m,hn,hm=>by
  have Pg:=aw hy;obtain⟨z,hz⟩:=ab (l:=l) (k:=m) o_;rw[pQ hz]
  cases hc:z.I8.J3[lv]? with
  | none=>
   dsimp only
   have Ow:m≠i:=fun e=>by
    subst e;rw[hz]at hx;injection hx with hx;subst hx;have:=(ha m z (d7 _) P5 hz).1;rw[f9 this]at hc
    cases hc
   exact tD h P5 hx hy ha o_ o_
  | some c=>
   have RG:=aw hc;obtain⟨w,hR⟩:=Fw (p:=p) hz RG
   generalize gT p z.I8.J3 lv (aT p z.I8 lv) (l.drop (m+1)) (m+1)=k at *
   rw[hR.last];dsimp only;rcases l9 i k with Ph|Ph
   ·obtain⟨b1,b2,b3⟩:=hR.all i x hm Ph hx
    have Qq:=hR.far j Pg fun q u h1 h2 hu=>by
     rcases l9 q i with hq|hq
     ·exact hR.all q u h1 o_ hu
     ·obtain⟨c1,c2,c3⟩:=ha q u hq h2 hu;exact⟨c1,c2.trans b2,c3.trans b3⟩
    refine⟨_,List.mem_cons_self ..,rfl,(h.mono hm hz hx).1,(h.mono (show j<=k-1 by omega) hy hR.last).2⟩
   ·obtain⟨r,r1,r2⟩:=tD h P5 hx hy ha (n:=n) (m:=k) (by have:=hR.lt;omega) Ph;exact⟨r,by simp[r1],r2⟩
def JH (l:List Om)(lv i:Nat)(pre:List Oh):Prop:=∀r,pre.getLast?=some r->r.L8<(lv:Int)\/(r.L8=(lv:Int)/\∀(j:Nat) (x:Om),i<=j->l[j]?=some x->r.L5<=x.J7)
theorem V123{p:Prop}(h:p:=by
 refine⟨rfl,fun r hr=>?_⟩;rcases Sb r hr with h1|⟨h1,_⟩
 ·exact .inl h1
 ·exact .inr ⟨h1,fun j x hj hx=>by have:=aw hx;omega⟩):p:=h
theorem Fy {p:List Oj}(hp:aj p=true){l:List Om}(h:PsOk l)(ON:∀x∈l,ChP p x){lv:Nat}:∀{n i:Nat} {pre:List Oh},Cover p l lv pre->JH l lv i pre->bS pre (lvN p l lv n i)=true/\JH l lv l.length (pre++lvN p l lv n i)
 | 0,i,pre,T4,Sb=>by
  rw[lvN,i9]
  exact V123
 | n+1,i,pre,T4,Sb=>by
  rcases l9 i l.length with hi|hi
  ·obtain⟨x,hx⟩:=ab hi;rw[pQ hx]
   cases hc:x.I8.J3[lv]? with
   | none=>
    dsimp only;refine Fy hp h ON T4 fun r hr=>?_;rcases Sb r hr with h1|⟨h1,h2⟩
    ·exact .inl h1
    ·exact .inr ⟨h1,fun j y hj hy=>h2 j y o_ hy⟩
   | some c=>
    have RG:=aw hc;obtain⟨y,hR⟩:=Fw (p:=p) hx RG
    generalize gT p x.I8.J3 lv (aT p x.I8 lv) (l.drop (i+1)) (i+1)=k at *
    rw[hR.last];dsimp only;have Ph:=hR.lt;have Vk:=ON x (b9 hx);have hrx:=h.rng i x hx;have hry:=h.rng (k-1) y hR.last;have hxy:=h.mono (show i<=k-1 by omega) hx hR.last;have Uc:=Vk.I5.2 c (b9 hc);have PW:=(eH hp).2;have XJ:=Vk.I5.1
    have Pm:bW (aT p x.I8 lv)=true:=by
     unfold aT;split
     ·rename_i c' N6;have:=Vk.I5.2 c' (b9 N6);exact uB hp this.1 this.2
     ·exact uB hp Vk.line.1 Vk.line.2
    have O9:ip (dh p lv x c y)=true:=by
     unfold ip dh;dsimp only;simp only[c9,j7,within_iff]
     unfold mD at *
     refine⟨⟨⟨⟨⟨?_,?_⟩,?_⟩,?_⟩,?_⟩,Pm⟩<;>omega
    have Yy:behind pre.getLast? (dh p lv x c y):=by
     cases hg:pre.getLast? with
     | none=>exact trivial
     | some r=>
      rcases Sb r hg with h1|⟨h1,h2⟩
      ·exact⟨by show r.L8<=(lv:Int);omega,fun e=>by have e':r.L8=(lv:Int):=e;omega⟩
      ·exact⟨by show r.L8<=(lv:Int);omega,fun _=>h2 i x (d7 _) hx⟩
    have WI:((dh p lv x c y).L8==0||pre.any (holds (dh p lv x c y)))=true:=by
     rcases T4 with h0|T4
     ·rw[show(dh p lv x c y).L8=(lv:Int) from rfl,h0];rfl
     ·by_cases h0:lv=0
      ·rw[show(dh p lv x c y).L8=(lv:Int) from rfl,h0];rfl
      ·obtain⟨r,r1,r2,r3,r4⟩:=T4 i (k-1) x y o_ hx hR.last fun q z h1 h2 hz=>by
        obtain⟨a1,a2,a3⟩:=hR.all q z h1 o_ hz
        have ht:z.I8.J3.take (lv-1+1)=x.I8.J3.take (lv-1+1):=by have:=congrArg (List.take lv) a2;rw[E0,E0,x6 o_]at this;rw[show lv-1+1=lv by omega];exact this
        refine⟨o_,ht,?_⟩
        have hzc:z.I8.J3[lv]?=some c:=by have e1:(z.I8.J3.take (lv+1))[lv]?=z.I8.J3[lv]?:=(by rw[l4,d5 o_]);have e2:(x.I8.J3.take (lv+1))[lv]?=x.I8.J3[lv]?:=(by rw[l4,d5 o_]);rw[<-e1,a2,e2,hc]
        unfold aT;rw[show lv-1+1=lv by omega,hzc,hc]
       rw[w7];right;rw[B0];refine⟨r,r1,?_⟩;unfold holds dh;simp only[c9,j7,x7];exact⟨⟨r2,r3⟩,r4⟩
    have QU:ke pre (dh p lv x c y)=true:=by unfold ke;rw[O9,r7 Yy,WI];rfl
    have ih:=Fy hp h ON (n:=n) (i:=k) (pre:=pre++[dh p lv x c y]) (T4.more _) (fun r hr=>by
     rw[List.getLast?_append,List.getLast?_singleton,Option.some_or]at hr;injection hr with hr;subst hr
     exact .inr ⟨rfl,fun j z hj hz=>h.sep (show k-1<j by omega) hR.last hz⟩)
    rw[bS,d5 QU];refine⟨ih.1,?_⟩;have:=ih.2;rwa [j9,D6]at this
  ·rw[wD hi,i9];exact V123
theorem GU {p:List Oj}(hp:aj p=true){l:List Om}(h:PsOk l)(ON:∀x∈l,ChP p x):∀{n lv:Nat} {pre:List Oh},Cover p l lv pre->JH l lv 0 pre->bS pre (oO p l n lv)=true
 | 0,_,_,_,_=>by rw[oO];rfl
 | n+1,lv,pre,T4,Sb=>by
  rw[oO];obtain⟨h1,h2⟩:=Fy hp h ON (n:=l.length) (i:=0) T4 Sb;refine lx h1 (GU hp h ON ?_ ?_)
  ·refine .inr fun i j x y P5 hx hy ha=>?_;rw[E7]at ha;obtain⟨r,r1,r2,r3,r4⟩:=tD h P5 hx hy ha (n:=l.length) (m:=0) o_ (v4 _);exact⟨r,by simp[r1],o_,r3,r4⟩
  ·intro r hr;rcases h2 r hr with h3|⟨h3,_⟩
   ·exact .inl o_
   ·exact .inl o_
theorem Hi {l:List Om}(h:PsOk l):near l=true:=by unfold near;rw[q7];intro x hx;obtain⟨k,hk⟩:=y6.1 hx;have:=h.rng k x hk;rw[within_iff];omega
theorem rP {p:List Oj}(hp:aj p=true){l:List Om}(h:PsOk l)(ON:∀x∈l,ChP p x):dV (bD p l)=true:=by rw[bD,d5 ⟨hp,Hi h⟩];exact GU hp h ON (.inl rfl) (fun r hr=>by simp at hr)
theorem Bq {p:List Oj}(hp:aj p=true){l:List Om}(h:PsOk l)(ON:∀x∈l,ChP p x){j:Nat}{x:Om}(hx:l[j]?=some x):
  (eY (bD p l) x.J7).length=x.I8.J3.length/\∀(i:Nat) (c:Int) (r:Oh),x.I8.J3[i]?=some c->(eY (bD p l) x.J7)[i]?=some r->r.L8=(i:Int)/\r.J9=c/\r.J0=aT p x.I8 i:=by
 rw[eY,d5 (rP hp h ON),bD,d5 ⟨hp,Hi h⟩];have h1:=AE (p:=p) h hx (jN l 0) 0;obtain⟨h2,h3⟩:=Bc (p:=p) (x:=x.I8) (jN l 0) 0 (by have:=(Ds (l:=l) (d:=0)).2 x (b9 hx);omega);rw[<-h1]at h2 h3;rw[d9]at h2;refine⟨h2,fun i c r hc hr=>?_⟩;have h4:=h3 i c (by rw[q8];exact hc);rw[l6,hr,s6,q8]at h4;injection h4 with h4;unfold Fc at h4;simp only[Prod.mk.injEq]at h4;exact h4
structure InlR (x:Oh):Prop where
 a:0<=x.J8/\x.J8<=1000000
 b:0<=x.L5/\x.L5<=1000000
 c:0<=x.L8/\x.L8<=2
 d:0<=x.J9/\x.J9<=59
 n:x.J0.length<=8
theorem LY {x:Oh}(h:ip x=true):InlR x:=by unfold ip bW at h;simp only[c9,j7,within_iff]at h;obtain⟨⟨⟨⟨⟨h1,h2⟩,h3⟩,h4⟩,h5⟩,_,h6⟩:=h;exact⟨o_,o_,h4,h5,o_⟩
theorem gQ:∀{l pre:List Oh},bS pre l=true->∀x∈l,InlR x
 | [],_,_,x,hx=>by cases hx
 | y::l,pre,h,x,hx=>by
  rw[bS]at h;split at h
  ·rename_i ha;rcases d6.1 hx with rfl|hx
   ·unfold ke at ha;simp only[c9]at ha;exact LY ha.1.1
   ·exact gQ h x hx
  ·cases h
theorem Iy {x:Oh}(h:InlR x):∀n∈[x.J8,x.L5,x.L8,x.J9],mR n:=by obtain⟨h1,h2,h3,h4,h5⟩:=h;intro n hn;unfold mR;simp only[d6,j6,or_false]at hn;omega
theorem yk {s rest:List UInt8}:∀{l:List Oh} {p:Nat},(∀x∈l,InlR x)->s.drop p=l.flatMap fd++rest->dy s l.length p=some l
 | [],p,_,_=>rfl
 | x::l,p,h,hs=>by
  have hx:=h x s_;rw[s8,fd,j9,j9]at hs;have hu:=mw (Iy hx) s_ hs;have hd:=congrArg (List.drop (bt [x.J8,x.L5,x.L8,x.J9]).length) hs;rw[y9,A6]at hd;have ht:=kz (s:=s) (p:=p+(bt [x.J8,x.L5,x.L8,x.J9]).length) (t:=x.J0) (rest:=l.flatMap fd++rest) (by have:=hx.n;omega) hd;have UJ:=congrArg (List.drop (enc x.J0.length++x.J0).length) hd;rw[y9,A6]at UJ;rw[c7,Eu hu ht,yk (fun y hy=>h y aao) UJ];rfl
theorem BC {l:List Oh}(h:dV l=true)(hl:l.length<=1048576):cZ (aG l)=some l:=by
 have hd:=tM (s:=aG l) (rest:=l.flatMap fd) (p:=0) (n:=(l.length:Int)) o_ o_ (by rw[v6,aG,d5 h]);have hr:=yk (s:=aG l) (rest:=[]) (l:=l) (p:=(enc (l.length:Int)).length) (gQ h) (by rw[aG,d5 h,A6,i9])
 have e:sI (aG l)=some l:=by have Qo:dec (aG l) 0=some ((l.length:Int).toNat,(enc (l.length:Int)).length):=hd;rw[sI,Qo];dsimp only;rw[e8];exact hr
 rw[cZ,e];dsimp only;rw[d5 rfl]
theorem oE {n:Int}(h:n<128):(enc n).length<=1:=by
 unfold enc;split
 ·rename_i h';have:=within_iff.1 h';exact tz 0 _ o_
 ·simp
theorem yq {n:Int}(h:n<2097152):(enc n).length<=3:=by
 unfold enc;split
 ·rename_i h';have:=within_iff.1 h';exact tz 2 _ o_
 ·simp
theorem BO {x:Oh}(h:InlR x):(fd x).length<=18:=by
 obtain⟨h1,h2,h3,h4,h5⟩:=h;have sg:∀{n:Int},0<=n->n<=1000000->bJ n=2*n:=fun{n} a b=>by rw[bJ,d5 (within_iff.2 ⟨o_,o_⟩),c8 o_]
 have hp:cT [x.J8,x.L5,x.L8,x.J9]=some (enc (2*x.J8)++(enc (2*x.L5)++(enc (2*x.L8)++(enc (2*x.J9)++[])))):=by rw[cT,cT,cT,cT,cT,sg o_ o_,sg o_ o_,sg o_ o_,sg o_ o_,c8 o_,c8 o_,c8 o_,c8 o_];rfl
 have a1:=yq (n:=2*x.J8) o_;have a2:=yq (n:=2*x.L5) o_;have a3:=oE (n:=2*x.L8) o_;have a4:=oE (n:=2*x.J9) o_;have a5:=oE (n:=(([x.J8,x.L5,x.L8,x.J9].length:Nat):Int)) s_;have a6:=oE (n:=(x.J0.length:Int)) o_;rw[fd,bt,hp]
 simp only[b8,e7]at *
 omega
theorem xA:∀{l:List Oh},(∀x∈l,InlR x)->(l.flatMap fd).length<=18*l.length
 | [],_=>s_
 | x::l,h=>by
  have h1:=BO (h x s_);have h2:=xA fun y hy=>h y (s5 x hy);rw[s8,b8,c7];omega
theorem qG:∀{l:List Om},(∀x∈l,x.I8.J3.length<=3)->pp l<=3*l.length
 | [],_=>by simp[pp]
 | x::l,h=>by
  have h1:=h x s_;have h2:=qG fun y hy=>h y (s5 x hy);rw[pp,c7];omega
theorem zn {p:List Oj}{l:List Om}:(bD p l).length<=pp l:=by
 rw[bD];split
 ·rw[<-jB];exact EZ
 ·simp
def Dc (s:List UInt8):Nat:=s.foldl (fun a b=>a+b.toNat) 0
theorem vG (s:List UInt8)(hs:s.length<=1125899906842624):Sim.Spec prog 112 [tvS s] (rI (Dc s:Nat)):=by
 refine ag hΓ ay func112 rfl d_ rfl ?_;repeat' ((conv=>whnf);first|refine Or.inl ?_|apply oi|apply fi|intro h|exact Y1|refine e_ rfl ?_)
 conv=>whnf
 refine⟨{q:Nat×Nat//q.1<=s.length/\q.2<=256*q.1/\(s.drop q.1).foldl (fun a b=>a+b.toNat) q.2=Dc s},fun q=>⟨[(0,tS s),(3,tI .i64 (q.1.2:Int)),(4,tI .i64 (q.1.1:Int))],[],[]⟩,fun q=>s.length-q.1.1,⟨(0,0),s_,s_,by simp[Dc]⟩,?_,?_⟩
 ·exact Z1
 intro⟨⟨k,x⟩,hk,h0,hf⟩;dsimp only at hk h0 hf⊢;by_cases N2:k<s.length
 ·obtain⟨b,hb⟩:=ab N2;rw[aP hb,B5]at hf;have hb8:=b.toNat_lt;repeat' ((conv=>whnf);first|refine Or.inl ?_|apply oi|apply fi|intro h|refine⟨k,b,rfl,hb,?_⟩|exact Y3|refine e_ rfl ?_)
  conv=>whnf
  refine⟨⟨(k+1,x+b.toNat),g_,g_,hf⟩,?_,KD⟩;repeat' ((conv=>whnf);first|refine Or.inl ?_|apply oi|apply fi|intro h|exact Y2|refine e_ rfl ?_)
  all_goals exact⟨by dsimp only;rw[c6 (b.toNat:Int) o_,c6 _ o_];rfl⟩
 ·have OK:s.length<=k:=o_;rw[d8 OK]at hf;repeat' ((conv=>whnf);first|refine Or.inl ?_|apply oi|apply fi|intro h|exact Y3|refine e_ rfl ?_)
  all_goals exact⟨congrArg (fun n:Nat=>Tr.int .i64 n) hf⟩
theorem iQ (s:List UInt8)(hs:s.length<=1125899906842624):Sim.Spec prog 107 [tvS s] (rS (enc s.length++s)):=by exact V68
def lT (x:Ot):List UInt8:=(enc x.J0.length++x.J0)++bt [x.J8,x.M0]
def gk (x:Ot):Bool:=af x.J8 0 1000000&&af x.M0 0 1000000
def dA:List Ot->Option (List UInt8)
 | []=>some []
 | x::l=>if gk x=true then(dA l).map (lT x++·)else none
def ez (s:List UInt8):List UInt8:=enc s.length++s
def wx (d:Od):Option (List UInt8)->List UInt8
 | some s=>(((s++ez (aK d.M3))++ez (aR d.M1))++ez (aG d.M2))++enc (Dc (((s++ez (aK d.M3))++ez (aR d.M1))++ez (aG d.M2)))
 | none=>[]
def mH (d:Od):List UInt8:=enc d.M6++enc d.L7.length
def bi (d:Od):List UInt8:=
 if af d.M6 0 1099511627775=true then if fI d.M3=true then if gq d.M1=true then if dV d.M2=true then wx d ((dA d.L7).map (mH d++·))else []else []else []else []
structure DbgFits (d:Od):Prop where
 syms:d.L7.length<=1048576
 names:∀x∈d.L7,x.J0.length<=1048576
 rules:d.M3.length<=1048576
 rows:d.M1.length<=1048576
 inl:d.M2.length<=1048576
 inls:∀x∈d.M2,x.J0.length<=1048576
theorem FC {x:Ot}(h:x.J0.length<=1048576):(lT x).length<=1048620:=by
 unfold lT;have h1:=iw [x.J8,x.M0];have h2:=cD x.J0.length
 simp only[b8,c7,e7]at *
 omega
theorem qd:∀(l:List Oo) (p:Int),(bh p l).length=4*l.length
 | [],_=>rfl
 | x::l,p=>by rw[bh];simp only[c7,qd l];omega
theorem nO {l:List Oo}(h:l.length<=1048576):(aK l).length<=33554432:=by
 unfold aK;split
 ·have:=iw (bh 0 l);rw[qd]at this;omega
 ·simp
theorem oS {l:List On}(h:l.length<=1048576):(aR l).length<=33554432:=by
 unfold aR;split
 ·have:=iw (bL iA l);rw[mS]at this;omega
 ·simp
theorem DS:∀(l:List Oh),(∀x∈l,x.J0.length<=1048576)->(l.flatMap fd).length<=1048620*l.length
 | [],_=>s_
 | x::l,h=>by
  have h1:=yW (h x s_);have h2:=DS l fun y hy=>h y aao;simp only[s8,b8,c7];omega
theorem rZ {l:List Oh}(h:l.length<=1048576)(hn:∀x∈l,x.J0.length<=1048576):(aG l).length<=1099558000000:=by
 unfold aG;split
 ·have h1:=DS l hn;have h2:=cD l.length;rw[b8];omega
 ·simp
theorem mt (s:List UInt8):(ez s).length<=s.length+6:=by unfold ez;have:=cD s.length;rw[b8];omega
theorem FO {l:List Ot}{k:Nat}{x:Ot}{acc:List UInt8}(hx:l[k]?=some x)(hn:gk x=true):(dA (l.drop k)).map (acc++·)=(dA (l.drop (k+1))).map ((acc++lT x)++·):=by
 rw[aP hx,dA,d5 hn]
 cases dA (l.drop (k+1))with|none=>rfl|some y=>simp
theorem uO {l:List Ot}{k:Nat}{x:Ot}{acc:List UInt8}(hx:l[k]?=some x)(hn:gk x=false):(dA (l.drop k)).map (acc++·)=none:=by rw[aP hx,dA,c8 (by simp[hn])];rfl
abbrev NR (d:Od)(R:Option (List UInt8)):={q:Nat×List UInt8//q.1<=d.L7.length/\q.2.length<=1048620*(q.1+1)/\(dA (d.L7.drop q.1)).map (q.2++·)=R}
theorem kX (d:Od)(hf:DbgFits d):Sim.Spec prog 45 [.agg d.tr] (rS (bi d)):=by
 refine ag hΓ ay func45 rfl d_ rfl ?_;have N1:(d.L7.map Ot.tr).length=d.L7.length:=s_;have c1:=ak d.M6 0 1099511627775;have c2:=ov d.M3 hf.rules;have c3:=lV d.M1 hf.rows;have c4:=fL d.M2 hf.inl fun x hx=>by have:=hf.inls x hx;omega
 have Tf:=hf.syms;have Pq:=cD ((d.L7.map Ot.tr).length:Int);have YI:=cD d.M6;unfold bi
 cases h1:af d.M6 0 1099511627775 with
 | false=>
  rw[h1]at c1
  repeat' ((conv=>whnf);first|refine Or.inl ?_|apply oi|apply fi|intro h|refine ci c1 (ai rfl (ai rfl (ai rfl trivial))) ?_|exact Y1|refine e_ rfl ?_)
 | true=>
 rw[h1]at c1;rw[d5 rfl]
 cases h2:fI d.M3 with
 | false=>
  rw[h2]at c2
  repeat' ((conv=>whnf);first|refine Or.inl ?_|apply oi|apply fi|intro h|refine ci c1 (ai rfl (ai rfl (ai rfl trivial))) ?_|refine ci c2 (ai rfl trivial) ?_|exact Y1|refine e_ rfl ?_)
 | true=>
 rw[h2]at c2;rw[d5 rfl]
 cases h3:gq d.M1 with
 | false=>
  rw[h3]at c3
  repeat' ((conv=>whnf);first|refine Or.inl ?_|apply oi|apply fi|intro h|refine ci c1 (ai rfl (ai rfl (ai rfl trivial))) ?_|refine ci c2 (ai rfl trivial) ?_|refine ci c3 (ai rfl trivial) ?_|exact Y1|refine e_ rfl ?_)
 | true=>
 rw[h3]at c3;rw[d5 rfl]
 cases h4:dV d.M2 with
 | false=>
  rw[h4]at c4
  repeat' ((conv=>whnf);first|refine Or.inl ?_|apply oi|apply fi|intro h|refine ci c1 (ai rfl (ai rfl (ai rfl trivial))) ?_|refine ci c2 (ai rfl trivial) ?_|refine ci c3 (ai rfl trivial) ?_|refine ci c4 (ai rfl trivial) ?_|exact Y1|refine e_ rfl ?_)
 | true=>
 rw[h4]at c4;rw[d5 rfl];obtain⟨R,hR⟩:∃R,(dA d.L7).map (mH d++·)=R:=⟨_,rfl⟩;rw[hR];repeat' ((conv=>whnf);first|refine Or.inl ?_|apply oi|apply fi|intro h|refine ci c1 (ai rfl (ai rfl (ai rfl trivial))) ?_|refine ci c2 (ai rfl trivial) ?_|refine ci c3 (ai rfl trivial) ?_|refine ci c4 (ai rfl trivial) ?_|refine ci (bb _) (ai rfl trivial) ?_|refine ci (bb _) (ai rfl trivial) ?_|exact Y1|refine e_ rfl ?_)
 ·exact⟨o_⟩
 conv=>whnf
 refine⟨NR d R,fun q=>⟨[(1,.r (.c (.ptr (1,0,0) 0))),(3,tS q.1.2),(37,.r (.c (.t (.lst 3 (d.L7.map Ot.tr))))),(38,tI .i64 ((d.L7.map Ot.tr).length:Int)),(39,tI .i64 (q.1.1:Int))],[((1,0,0),some (.box [.t (.int .i64 d.M6),.t (.lst 3 (d.L7.map Ot.tr)),.t (.lst 4 (d.M3.map Oo.tr)),.t (.lst 3 (d.M1.map On.tr)),.t (.lst 5 (d.M2.map Oh.tr))]))],[1]⟩,fun q=>d.L7.length-q.1.1,⟨(0,mH d),s_,by unfold mH;simp only[b8];rw[N1]at Pq;omega,hR⟩,?_,?_⟩
 ·repeat' ((conv=>whnf);first|refine Or.inl ?_|apply oi|apply fi|intro h|exact Y1|refine e_ rfl ?_)
  all_goals exact⟨congrArg Tr.str (show enc d.M6++enc ((d.L7.map Ot.tr).length:Int)=enc d.M6++enc (d.L7.length:Int) by rw[N1])⟩
 intro⟨⟨k,acc⟩,hk,OC,hr⟩;dsimp only at hk OC hr⊢;by_cases N2:k<d.L7.length
 ·obtain⟨x,hx⟩:=ab N2;have Us:=hf.names x (b9 hx);have e1:=ak x.J8 0 1000000;have e2:=ak x.M0 0 1000000
  cases m1:af x.J8 0 1000000 with
  | false=>
   rw[m1]at e1;rw[uO hx (by simp[gk,m1])]at hr;subst hr
   repeat' ((conv=>whnf);first|refine Or.inl ?_|apply oi|apply fi|intro h|refine⟨k,x.tr,rfl,aa hx,?_⟩|refine ci e1 (ai rfl (ai rfl (ai rfl trivial))) ?_|exact Y3|refine e_ rfl ?_)
  | true=>
  rw[m1]at e1
  cases m2:af x.M0 0 1000000 with
  | false=>
   rw[m2]at e2;rw[uO hx (by simp[gk,m2])]at hr;subst hr
   repeat' ((conv=>whnf);first|refine Or.inl ?_|apply oi|apply fi|intro h|refine⟨k,x.tr,rfl,aa hx,?_⟩|refine ci e1 (ai rfl (ai rfl (ai rfl trivial))) ?_|refine ci e2 (ai rfl (ai rfl (ai rfl trivial))) ?_|exact Y3|refine e_ rfl ?_)
  | true=>
   rw[m2]at e2;rw[FO hx (by simp[gk,m1,m2])]at hr;have Rv:=FC Us;have hP:=gh [x.J8,x.M0] s_;have hT:=nH x.J0 Us;have S2:=Rv;unfold lT at S2;simp only[b8]at S2;repeat' ((conv=>whnf);first|refine Or.inl ?_|apply oi|apply fi|intro h|refine⟨k,x.tr,rfl,aa hx,?_⟩|refine ci e1 (ai rfl (ai rfl (ai rfl trivial))) ?_|refine ci e2 (ai rfl (ai rfl (ai rfl trivial))) ?_|refine ci hP (ai rfl trivial) ?_|refine ci hT (ai rfl trivial) ?_|exact Y17|refine e_ rfl ?_)
   conv=>whnf
   refine⟨⟨(k+1,acc++lT x),g_,by rw[b8];dsimp only;omega,hr⟩,?_,KD⟩;exact Z3
 ·have OK:d.L7.length<=k:=o_;rw[d8 OK]at hr;simp only[dA,s6,i9]at hr;subst hr;have g1:=kZ d.M3 hf.rules;have g2:=lK d.M1 hf.rows;have g3:=jr d.M2 hf.inl hf.inls;have l1:=nO hf.rules;have l2:=oS hf.rows;have l3:=rZ hf.inl hf.inls;have p1:Sim.Spec prog 107 _ (rS (ez _)):=iQ (aK d.M3) o_;have p2:Sim.Spec prog 107 _ (rS (ez _)):=iQ (aR d.M1) o_;have p3:Sim.Spec prog 107 _ (rS (ez _)):=iQ (aG d.M2) o_;have n1:=mt (aK d.M3);have n2:=mt (aR d.M1);have n3:=mt (aG d.M2);have hX:acc++((ez (aK d.M3)++ez (aR d.M1))++ez (aG d.M2))=((acc++ez (aK d.M3))++ez (aR d.M1))++ez (aG d.M2):=s_
  have hD:wx d (some acc)=(acc++((ez (aK d.M3)++ez (aR d.M1))++ez (aG d.M2)))++enc (Dc (acc++((ez (aK d.M3)++ez (aR d.M1))++ez (aG d.M2)))):=by rw[hX];rfl
  rw[hD];clear hD hX
  generalize ez (aK d.M3)=A at *
  generalize ez (aR d.M1)=B at *
  generalize ez (aG d.M2)=C at *
  have hXl:(acc++((A++B)++C)).length<=1125899906842624:=by simp only[b8];omega
  have hXe:=cD (Dc (acc++((A++B)++C)));have hS:=vG _ hXl;repeat' ((conv=>whnf);first|refine Or.inl ?_|apply oi|apply fi|intro h|refine ci g1 (ai rfl trivial) ?_|refine ci p1 (ai rfl trivial) ?_|refine ci g2 (ai rfl trivial) ?_|refine ci p2 (ai rfl trivial) ?_|refine ci g3 (ai rfl trivial) ?_|refine ci p3 (ai rfl trivial) ?_|refine ci hS (ai rfl trivial) ?_|refine ci (bb _) (ai rfl trivial) ?_|exact Y18|refine e_ rfl ?_)
abbrev kM (s:List UInt8)(p:Int)(bad:Bool):AO:= .box [.t (.str s),.t (.int .i64 p),.t (.bool bad)]
abbrev rdP:AV:= .r (.c (.ptr (0,0,0) 0))
theorem lq (s:List UInt8)(p n:Int)(bad ok:Bool)(h:p+n<=9223372036854775807/\0<=p/\0<=n):bd prog 186 [rdP,tI .i64 n,tB ok] [((0,0,0),kM s p bad)] (.tup []) [((0,0,0),kM s (p+n) (bad||!ok))]:=by
 refine nc hΓ ay func186 rfl d_ rfl rfl ?_;have hw:IntKind.i64.wrap (p+n)=p+n:=c6 _ o_
 cases bad<;>cases ok
 all_goals
  repeat' ((conv=>whnf);first|refine Or.inl ?_|apply oi|apply fi|intro h|exact Y1|refine e_ rfl ?_)
  all_goals(first|(exact⟨by rw[hw]⟩)|skip)
theorem V111{p:Prop}(h:p:=by
 repeat' ((conv=>whnf);first|refine cg hS ?_|refine aM ?_|apply aB|apply oi|apply fi|intro h|refine cl hD ?_|exact Y1|refine e_ rfl ?_)):p:=h
theorem zD (s:List UInt8)(p:Nat)(bad:Bool)(hs:s.length<=1048576)(hp:p<=s.length):bd prog 113 [rdP] [((0,0,0),kM s p bad)] (tI .i64 (mh (dec s p))) [((0,0,0),kM s (p+np (dec s p)) (bad||!(dec s p).isSome))]:=by
 refine nc hΓ ay func113 rfl d_ rfl rfl ?_;have hD:=dn s p hs
 have hk:0<=np (dec s p)/\np (dec s p)<=6:=by match hd:dec s p with|none=>simp[np]|some (a,b)=>have:=dW hd;simp only[np];omega
 have hS:=lq s p (np (dec s p)) bad (dec s p).isSome o_;exact V111
theorem CW (s:List UInt8)(p:Nat)(bad:Bool)(hs:s.length<=1048576)(hp:p<=s.length):bd prog 114 [rdP] [((0,0,0),kM s p bad)] (tS (unS (bH s p))) [((0,0,0),kM s (p+unK (bH s p)) (bad||!(bH s p).isSome))]:=by
 refine nc hΓ ay func114 rfl d_ rfl rfl ?_;have hD:=iz s p hs o_
 have hk:0<=unK (bH s p)/\unK (bH s p)<=1048576:=by match hd:bH s p with|none=>simp[unK]|some (a,b)=>have:=vb hd;simp only[unK];omega
 have hS:=lq s p (unK (bH s p)) bad (bH s p).isSome o_;exact V111
def oQ (o:Option (List Int×Nat))(c:Nat):Bool:=o.isSome&&decide (((upL o).length:Int)=c)
theorem CM (s:List UInt8)(p:Nat)(bad:Bool)(c:Nat)(hc:c<=10)(hs:s.length<=1048576)(hp:p<=s.length):bd prog 115 [rdP,tI .i64 c] [((0,0,0),kM s p bad)] (.r (.c (.own (1,0,0)))) [((0,0,0),kM s (p+upZ (aD s p)) (bad||!(oQ (aD s p) c))),((1,0,0),.arr true 1 ((if(bad||!(oQ (aD s p) c))=true then List.replicate c 0 else upL (aD s p)).map ae))]:=by
 have hD:=fj s p hs o_;refine nc hΓ ay func115 rfl d_ rfl rfl ?_
 match hu:aD s p with
 | none=>
  rw[hu]at hD;dsimp only[BQ,upL,upZ,Option.isSome]at hD;have hS:=lq s p 0 bad false o_;have hb:(bad||!(oQ none c))=true:=by cases bad<;>rfl
  rw[hb,d5 rfl];rw[show(bad||!false)=true by cases bad<;>rfl]at hS;repeat' ((conv=>whnf);first|refine cg hS ?_|refine aM ?_|apply aB|apply oi|apply fi|intro h|refine cl hD ?_|exact Y1|refine e_ rfl ?_)
  all_goals first
   | exact⟨o_⟩
   | exact⟨by show c*8<=140737488355328;omega⟩
   | exact⟨by rw[E9];rfl⟩
   | exact⟨by rw[d5 h,E9];rfl⟩
   | exact⟨by rw[c8 (by rw[h];simp)];rfl⟩
 | some (ns,z)=>
  rw[hu]at hD;dsimp only[BQ,upL,upZ,Option.isSome]at hD;have hz:=JJ hu;have N1:(ns.map ae).length=ns.length:=s_;have hS:=lq s p z bad (((ns.map ae).length:Int)==(c:Int)) o_
  have hb:(bad||!(oQ (some (ns,z)) c))=(bad||!(((ns.map ae).length:Int)==(c:Int))):=by rw[N1];rfl
  rw[hb]
  generalize(bad||!(((ns.map ae).length:Int)==(c:Int)))=B at *
  repeat' ((conv=>whnf);first|refine cg hS ?_|refine aM ?_|apply aB|apply oi|apply fi|intro h|refine cl hD ?_|exact Y1|refine e_ rfl ?_)
  all_goals first
   | exact⟨o_⟩
   | exact⟨by show c*8<=140737488355328;omega⟩
   | exact⟨by rw[E9];rfl⟩
   | exact⟨by rw[d5 h,E9];rfl⟩
   | exact⟨by rw[c8 (by rw[h];simp)];rfl⟩
theorem xb (s:List UInt8)(p:Nat)(bad:Bool)(hs:s.length<=1048576)(hp:p<=s.length):∃(n k:Nat) (b:Bool),((dec s p=none/\n=0/\k=0/\b=true)\/(dec s p=some (n,k)/\b=false))/\p+k<=s.length/\n<=1099511627775/\
  bd prog 113 [rdP] [((0,0,0),kM s p bad)] (tI .i64 (n:Int)) [((0,0,0),kM s ((p+k:Nat):Int) (bad||b))]:=by
 have h:=zD s p bad hs hp
 match hd:dec s p with
 | none=>
  rw[hd]at h
  exact⟨0,0,true,.inl ⟨rfl,rfl,rfl,rfl⟩,o_,o_,by simpa [mh,np]using h⟩
 | some (n,k)=>rw[hd]at h;have:=dW hd;rw[e8]at this;exact⟨n,k,false,.inr ⟨rfl,rfl⟩,o_,o_,by simpa [mh,np]using h⟩
theorem ky (s:List UInt8)(p:Nat)(bad:Bool)(hs:s.length<=1048576)(hp:p<=s.length):∃(t:List UInt8) (k:Nat) (b:Bool),((bH s p=none/\b=true)\/(bH s p=some (t,k)/\b=false))/\p+k<=s.length/\t.length<=s.length/\
  bd prog 114 [rdP] [((0,0,0),kM s p bad)] (tS t) [((0,0,0),kM s ((p+k:Nat):Int) (bad||b))]:=by
 have h:=CW s p bad hs hp
 match hd:bH s p with
 | none=>
  rw[hd]at h
  exact⟨[],0,true,.inl ⟨rfl,rfl⟩,o_,s_,by simpa [unS,unK]using h⟩
 | some (t,k)=>rw[hd]at h;have:=vb hd;exact⟨t,k,false,.inr ⟨rfl,rfl⟩,o_,o_,by simpa [unS,unK]using h⟩
theorem JB (s:List UInt8)(p:Nat)(bad:Bool)(hs:s.length<=1048576)(hp:p<=s.length):∃(x y:Int) (k:Nat) (b:Bool),(((∀ns z,aD s p=some (ns,z)->ns.length≠2)/\b=true)\/(aD s p=some ([x,y],k)/\b=false/\1<=k))/\p+k<=s.length/\
  bd prog 115 [rdP,tI .i64 2] [((0,0,0),kM s p bad)] (.r (.c (.own (1,0,0)))) [((0,0,0),kM s ((p+k:Nat):Int) (bad||b)),((1,0,0),.arr true 1 [ae (if bad||b then 0 else x),ae (if bad||b then 0 else y)])]:=by
 have h:=CM s p bad 2 o_ hs hp
 match hd:aD s p with
 | none=>
  rw[hd]at h;refine⟨0,0,0,true,.inl ⟨fun ns z e=>(by cases e),rfl⟩,o_,?_⟩
  simpa [oQ,upL,upZ]using h
 | some (ns,z)=>
  rw[hd]at h;have hz:=JJ hd;by_cases h2:ns.length=2
  ·match ns,h2 with
   | [x,y],_=>
    refine⟨x,y,z,false,.inr ⟨rfl,rfl,hz.1⟩,o_,?_⟩
    cases bad<;>simpa [oQ,upL,upZ]using h
  ·refine⟨0,0,z,true,.inl ⟨fun ns' z' e=>by injection e with e;injection e with e1 e2;subst e1;exact h2,rfl⟩,o_,?_⟩
   have hf:oQ (some (ns,z)) 2=false:=by simp only[oQ,upL,Option.isSome,m7];exact y5 o_
   rw[hf]at h;simpa [upL,upZ]using h
def fM (s:List UInt8):Nat->Nat->Option (List Ot×Nat)
 | 0,p=>some ([],p)
 | c+1,p=>match bH s (p:Int)with
  | some (nm,y)=>(match aD s ((p+y:Nat):Int)with
   | some ([a,b],z)=>(fM s c (p+y+z)).map fun r=>(⟨nm,a,b⟩::r.1,r.2)
   | _=>none)
  | none=>none
def Im (s:List UInt8)(p:Nat):Option (List UInt8×List UInt8×List UInt8):=
 match bH s (p:Int)with
 | some (t1,y1)=>(match bH s ((p+y1:Nat):Int)with
  | some (t2,y2)=>(match bH s ((p+y1+y2:Nat):Int)with
   | some (t3,_)=>some (t1,t2,t3)
   | none=>none)
  | none=>none)
 | none=>none
def wt (s:List UInt8)(id:Int)(syms:List Ot)(p:Nat):Option Od:=match Im s p with
 | some (t1,t2,t3)=>(match ce t1,cL t2,cZ t3 with
  | some a,some b,some c=>some ⟨id,syms,a,b,c⟩
  | _,_,_=>none)
 | none=>none
def gn (s:List UInt8)(id:Int)(c p:Nat)(acc:List Ot):Option Od:=match fM s c p with
 | some (l,p')=>wt s id (acc++l) p'
 | none=>none
def jt (s:List UInt8):Option Od:=
 match dec s 0 with
 | some (id,k0)=>(match dec s (k0:Nat)with
  | some (n,k1)=>gn s id n (k0+k1) []
  | none=>none)
 | none=>none
def yR (s:List UInt8):Option Od->Option Od
 | some d=>if bi d=s then some d else none
 | none=>none
theorem rh {s:List UInt8}{d:Od}(h:bi d=s):yR s (some d)=some d:=by rw[yR,d5 h]
theorem AW {s:List UInt8}{d:Od}(h:¬bi d=s):yR s (some d)=none:=by rw[yR,c8 h]
def fB (s:List UInt8):Option Od:=yR s (jt s)
def MC:Od:=⟨0,[],[],[],[]⟩
def oD (o:Option Od):Od:=match o with|some d=>d|none=>MC
theorem Ji {s:List UInt8}{id:Int}{c p:Nat}{acc:List Ot}{nm:List UInt8}{y z:Nat}{a b:Int}(h1:bH s (p:Int)=some (nm,y))(h2:aD s ((p+y:Nat):Int)=some ([a,b],z)):gn s id (c+1) p acc=gn s id c (p+y+z) (acc++[⟨nm,a,b⟩]):=by
 unfold gn;rw[fM,h1];dsimp only;rw[h2];dsimp only
 cases fM s c (p+y+z)with|none=>rfl|some r=>simp[j9]
theorem HX {s:List UInt8}{id:Int}{c p:Nat}{acc:List Ot}(h1:bH s (p:Int)=none):gn s id (c+1) p acc=none:=by unfold gn;rw[fM,h1]
theorem IH {s:List UInt8}{id:Int}{c p:Nat}{acc:List Ot}{nm:List UInt8}{y:Nat}(h1:bH s (p:Int)=some (nm,y))(h2:∀ns z,aD s ((p+y:Nat):Int)=some (ns,z)->ns.length≠2):gn s id (c+1) p acc=none:=by
 unfold gn;rw[fM,h1];dsimp only
 match hu:aD s ((p+y:Nat):Int)with
 | none=>rfl
 | some (ns,z)=>
  have:=h2 ns z hu
  match ns,this with|[],_=>rfl|[_],_=>rfl|[_,_],h=>exact absurd rfl h|_::_::_::_,_=>rfl
structure DdIx (s:List UInt8) (id:Int) (R:Option Od) where
 k:Nat
 p:Nat
 acc:List Ot
 bad:Bool
 hk:k<=1099511627775
 hp:p<=s.length
 hl:acc.length<=p+(if bad then 1 else 0)
 hn:∀x∈acc,x.J0.length<=s.length
 hr:(bad=true->R=none)/\(bad=false->gn s id k p acc=R)
theorem V14{p:Prop}(h:p:=by
 dsimp only at O2;subst O2;repeat' ((conv=>whnf);first|refine aM ?_|apply aB|apply oi|apply fi|intro h|exact Y1|refine e_ rfl ?_)
 refine cg (g1) ?_;repeat' ((conv=>whnf);first|refine aM ?_|apply aB|apply oi|apply fi|intro h|refine cl d1 ?_|exact Y1|refine e_ rfl ?_)
 refine cg (g2) ?_;repeat' ((conv=>whnf);first|refine aM ?_|apply aB|apply oi|apply fi|intro h|refine cl d2 ?_|exact Y1|refine e_ rfl ?_)
 refine cg (g3) ?_;repeat' ((conv=>whnf);first|refine aM ?_|apply aB|apply oi|apply fi|intro h|refine cl d3 ?_|exact Y1|refine e_ rfl ?_)
 all_goals try(exfalso;first|(simp at h;done)|(have h':=m6 h;simp at h';done))):p:=h
theorem Q20{p:Prop}(h:p:=by exfalso;first|(simp at h;done)|(have h':=m6 h;simp at h';first|done|fail)):p:=h
theorem qU (s:List UInt8)(hs:s.length<=1048576):Sim.Spec prog 46 [tvS s] (.tup [.agg ((oD (fB s)).tr.map IU),.c (.t (.bool (fB s).isSome))]):=by
 refine ag hΓ ay func46 rfl d_ rfl ?_;obtain⟨id,k0,b0,Qw,O6,ZF,h0⟩:=xb s 0 false hs (v4 _);obtain⟨n,k1,b1,QW,Pk,VL,h1⟩:=xb s (0+k0) (false||b0) hs O6;unfold fB;obtain⟨R,hR⟩:∃R,jt s=R:=⟨_,rfl⟩;rw[hR];repeat' ((conv=>whnf);first|refine aM ?_|apply aB|apply oi|apply fi|intro h|exact Y1|refine e_ rfl ?_)
 refine cg (h0) ?_;repeat' ((conv=>whnf);first|refine aM ?_|apply aB|apply oi|apply fi|intro h|exact Y1|refine e_ rfl ?_)
 refine cg (h1) ?_;repeat' ((conv=>whnf);first|refine aM ?_|apply aB|apply oi|apply fi|intro h|exact Y1|refine e_ rfl ?_)
 conv=>whnf
 refine⟨DdIx s id R,fun q=>⟨[(0,tS s),(2,.r (.c (.ptr (2,0,0) 0))),(3,tB false),(4,.r (.c (.ptr (17,0,0) 0))),(5,.r (.c (.ptr (5,0,0) 0))),(6,tI .i64 (q.k:Int))],
  [((17,0,0),some (kM s (q.p:Int) q.bad)),((5,0,0),some (.box [.t (.int .i64 (id:Int)),.own (5,0,1),.nils 0,.nils 0,.nils 0])),((5,0,1),some (.arr true 3 (q.acc.map Ot.tr))),((2,0,0),some (.box [.t (.int .i64 0),.nils 0,.nils 0,.nils 0,.nils 0]))],[22,5,19,17,2]⟩,fun q=>q.k+(if q.bad then 0 else 1),
  ⟨n,0+k0+k1,[],false||b0||b1,VL,Pk,s_,s_,?_⟩,?_,?_⟩
 ·subst hR;unfold jt;rcases Qw with⟨e0,_,rfl,rfl⟩|⟨e0,rfl⟩
  ·rw[show((0:Nat):Int)=0 from rfl]at e0;exact⟨fun _=>by rw[e0],fun h=>by simp at h⟩
  ·rw[show((0:Nat):Int)=0 from rfl]at e0;rw[q8]at QW;rcases QW with⟨e1,_,rfl,rfl⟩|⟨e1,rfl⟩
   ·exact⟨fun _=>by rw[e0];dsimp only;rw[e1],fun h=>by simp at h⟩
   ·exact⟨fun h=>by simp at h,fun _=>by rw[e0];dsimp only;rw[e1];dsimp only;rw[q8]⟩
 ·exact Z1
 intro⟨k,p,acc,bad,hk,hp,hl,hn,hr⟩;dsimp only at hk hp hl hn hr⊢
 cases bad with
 | true=>
  obtain⟨t1,y1,c1,_,UV,SC,g1⟩:=ky s p true hs hp;obtain⟨t2,y2,c2,_,U7,Tt,g2⟩:=ky s (p+y1) (true||c1) hs UV;obtain⟨t3,y3,c3,_,ht3,WG,g3⟩:=ky s (p+y1+y2) (true||c1||c2) hs U7;have d1:=kW t1 o_;have d2:=lE t2 o_;have d3:=ju t3 o_;have hR:=hr.1 rfl;subst hR;repeat' ((conv=>whnf);first|refine aM ?_|apply aB|apply oi|apply fi|intro h|exact Y1|refine e_ rfl ?_)
  all_goals
   refine cg (g1) ?_;repeat' ((conv=>whnf);first|refine aM ?_|apply aB|apply oi|apply fi|intro h|refine cl d1 ?_|exact Y1|refine e_ rfl ?_)
   refine cg (g2) ?_;repeat' ((conv=>whnf);first|refine aM ?_|apply aB|apply oi|apply fi|intro h|refine cl d2 ?_|exact Y1|refine e_ rfl ?_)
   refine cg (g3) ?_;repeat' ((conv=>whnf);first|refine aM ?_|apply aB|apply oi|apply fi|intro h|refine cl d3 ?_|exact Y1|refine e_ rfl ?_)
  all_goals try exact Q8
 | false=>
  cases k with
  | zero=>
   obtain⟨t1,y1,c1,w1,UV,SC,g1⟩:=ky s p false hs hp;obtain⟨t2,y2,c2,w2,U7,Tt,g2⟩:=ky s (p+y1) (false||c1) hs UV;obtain⟨t3,y3,c3,w3,ht3,WG,g3⟩:=ky s (p+y1+y2) (false||c1||c2) hs U7;have d1:=kW t1 o_;have d2:=lE t2 o_;have d3:=ju t3 o_;have O2:=hr.2 rfl;unfold gn at O2;rw[fM]at O2;dsimp only at O2;rw[i9]at O2;unfold wt Im at O2;rcases w1 with⟨e1,rfl⟩|⟨e1,rfl⟩
   ·rw[e1]at O2;exact V14
   ·rcases w2 with⟨e2,rfl⟩|⟨e2,rfl⟩
    ·rw[e1]at O2;dsimp only at O2;rw[e2]at O2;exact V14
    ·rcases w3 with⟨e3,rfl⟩|⟨e3,rfl⟩
     ·rw[e1]at O2;dsimp only at O2;rw[e2]at O2;dsimp only at O2;rw[e3]at O2;exact V14
     ·rw[e1]at O2;dsimp only at O2;rw[e2]at O2;dsimp only at O2;rw[e3]at O2;dsimp only at O2
      match q1:ce t1 with
      | none=>
       rw[q1]at O2 d1
       exact V14
      | some ru=>
       match q2:cL t2 with
       | none=>
        rw[q1,q2]at O2;rw[q1]at d1;rw[q2]at d2
        exact V14
       | some ro=>
        match q3:cZ t3 with
        | none=>
         rw[q1,q2,q3]at O2;rw[q1]at d1;rw[q2]at d2;rw[q3]at d3
         exact V14
        | some ri=>
         rw[q1,q2,q3]at O2;rw[q1]at d1;rw[q2]at d2;rw[q3]at d3;dsimp only at O2;subst O2;have f1:=nJ (s:=t1) o_;have f2:=po (s:=t2) o_;have f3:=jP (s:=t3) o_;rw[q1]at f1;rw[q2]at f2;rw[q3]at f3;have hE:=kX ⟨id,acc,ru,ro,ri⟩ ⟨by dsimp only;simp at hl;omega,fun x hx=>t7 (hn x hx) hs,f1,f2,cu f3,AS f3⟩;by_cases Ta:bi ⟨id,acc,ru,ro,ri⟩=s
         ·rw[rh Ta];rw[Ta]at hE;repeat' ((conv=>whnf);first|refine aM ?_|apply aB|apply oi|apply fi|intro h|exact Y1|refine e_ rfl ?_)
          refine cg (g1) ?_;repeat' ((conv=>whnf);first|refine aM ?_|apply aB|apply oi|apply fi|intro h|refine cl d1 ?_|exact Y1|refine e_ rfl ?_)
          refine cg (g2) ?_;repeat' ((conv=>whnf);first|refine aM ?_|apply aB|apply oi|apply fi|intro h|refine cl d2 ?_|exact Y1|refine e_ rfl ?_)
          refine cg (g3) ?_;repeat' ((conv=>whnf);first|refine aM ?_|apply aB|apply oi|apply fi|intro h|refine cl d3 ?_|refine cl hE ?_|exact Y1|refine e_ rfl ?_)
          all_goals try exact Q20
         ·rw[AW Ta];have Ow:(bi ⟨id,acc,ru,ro,ri⟩==s)=false:=(by simpa using Ta);repeat' ((conv=>whnf);first|refine aM ?_|apply aB|apply oi|apply fi|intro h|exact Y1|refine e_ rfl ?_)
          refine cg (g1) ?_;repeat' ((conv=>whnf);first|refine aM ?_|apply aB|apply oi|apply fi|intro h|refine cl d1 ?_|exact Y1|refine e_ rfl ?_)
          refine cg (g2) ?_;repeat' ((conv=>whnf);first|refine aM ?_|apply aB|apply oi|apply fi|intro h|refine cl d2 ?_|exact Y1|refine e_ rfl ?_)
          refine cg (g3) ?_;repeat' ((conv=>whnf);first|refine aM ?_|apply aB|apply oi|apply fi|intro h|refine cl d3 ?_|refine cl hE ?_|exact Y1|refine e_ rfl ?_)
          all_goals try exact Q20
          all_goals try(exfalso;have h':=h;rw[show(bi ⟨id,acc,ru,ro,ri⟩ !=s)= !(bi ⟨id,acc,ru,ro,ri⟩==s) from rfl,Ow]at h';simp at h';done)
          all_goals try(exfalso;rw[Ow]at h;simp at h;done)
  | succ k=>
   obtain⟨nm,y,c1,w1,UV,SC,g1⟩:=ky s p false hs hp;obtain⟨x0,x1,z,c2,w2,U7,g2⟩:=JB s (p+y) (false||c1) hs UV;have O2:=hr.2 rfl;repeat' ((conv=>whnf);first|refine aM ?_|apply aB|apply oi|apply fi|intro h|exact Y1|refine e_ rfl ?_)
   refine cg (g1) ?_;repeat' ((conv=>whnf);first|refine aM ?_|apply aB|apply oi|apply fi|intro h|exact Y1|refine e_ rfl ?_)
   refine cg (g2) ?_;repeat' ((conv=>whnf);first|refine aM ?_|apply aB|apply oi|apply fi|intro h|refine⟨0,rfl,?_⟩|refine⟨1,rfl,?_⟩|exact Y1|refine e_ rfl ?_)
   all_goals try(refine⟨?_⟩;simp;done)
   all_goals try(refine⟨?_⟩;simp only[d9,c7,e7];simp at hl;exact⟨o_,o_⟩)
   all_goals try(exfalso;first|(simp at h;done)|(have h':=n6 h;omega))
   conv=>whnf
   refine⟨⟨k,p+y+z,acc++[⟨nm,if(false||c1||c2)=true then 0 else x0,if(false||c1||c2)=true then 0 else x1⟩],false||c1||c2,o_,U7,?_,?_,?_⟩,?_,by dsimp only;simp only[w8,if_false];split<;>omega⟩
   ·simp only[b8,c7,e7,C5];simp at hl;rcases w1 with⟨e1,rfl⟩|⟨e1,rfl⟩
    ·simp only[I3,if_true];omega
    ·rcases w2 with⟨e2,rfl⟩|⟨e2,rfl,hz⟩
     ·simp only[I2,if_true];omega
     ·simp;omega
   ·intro x hx;rcases f0.1 hx with hx|hx
    ·exact hn x hx
    ·rw[o9.1 hx];exact SC
   ·rcases w1 with⟨e1,rfl⟩|⟨e1,rfl⟩
    ·rw[HX e1]at O2;exact⟨fun _=>O2.symm,fun h=>by simp at h⟩
    ·rcases w2 with⟨e2,rfl⟩|⟨e2,rfl,hz⟩
     ·rw[IH e1 e2]at O2;exact⟨fun _=>O2.symm,fun h=>by simp at h⟩
     ·rw[Ji e1 e2]at O2;exact⟨fun h=>by simp at h,fun _=>O2⟩
   repeat' ((conv=>whnf);first|refine Or.inl ?_|apply oi|apply fi|intro h|exact Y1|refine e_ rfl ?_)
   all_goals first
    |(refine⟨?_⟩;dsimp only;rw[c6 _ o_];congr 1;omega)
    |(refine⟨?_⟩;dsimp only;rw[ne];rfl)
theorem kY {α:Type}{s rest a:List α}{p:Nat}(h:s.drop p=a++rest):s.drop (p+a.length)=rest:=by have:=congrArg (List.drop a.length) h;rwa [y9,A6]at this
theorem nq:∀{l:List Ot},(∀x∈l,gk x=true)->∃bs,dA l=some bs
 | [],_=>⟨[],rfl⟩
 | x::l,h=>by
  obtain⟨bs,hb⟩:=nq (l:=l) fun y hy=>h y (s5 x hy);exact⟨lT x++bs,by rw[dA,d5 (h x s_),hb];rfl⟩
theorem yI {s:List UInt8}:∀{l:List Ot} {bs rest:List UInt8} {p:Nat},(∀x∈l,x.J0.length<=1048576)->dA l=some bs->s.drop p=bs++rest->fM s l.length p=some (l,p+bs.length)
 | [],bs,rest,p,_,hb,hs=>by
  rw[dA]at hb;injection hb with hb;subst hb;rfl
 | x::l,bs,rest,p,hn,hb,hs=>by
  rw[dA]at hb;split at hb
  ·rename_i hx;rw[m9]at hb;obtain⟨b',OO,rfl⟩:=hb;unfold gk at hx;rw[c9,within_iff,within_iff]at hx;have P6:s.drop p=(enc x.J0.length++x.J0)++(bt [x.J8,x.M0]++(b'++rest)):=(by rw[hs];simp[lT,j9]);have h1:=kz (by have:=hn x s_;omega) P6;have hs2:=kY P6
   have h2:=mw (s:=s) (l:=[x.J8,x.M0]) (fun n hn=>by
    simp only[d6,j6,or_false]at hn;refine uz ?_
    rcases hn with rfl|rfl<;>omega) s_ hs2
   have hs3:=kY hs2;rw[c7,fM,h1];dsimp only;rw[h2];dsimp only;rw[yI (fun y hy=>hn y (s5 x hy)) OO hs3];simp only[s6,lT,b8,Option.some.injEq,Prod.mk.injEq,true_and];omega
  ·cases hb
theorem Mh {s t1 t2 t3 rest:List UInt8}{p:Nat}(h1:t1.length<=1099511627775)(h2:t2.length<=1099511627775)(h3:t3.length<=1099511627775)(hs:s.drop p=ez t1++(ez t2++(ez t3++rest))):Im s p=some (t1,t2,t3):=by have a1:=kz h1 hs;have s2:=kY hs;have a2:=kz h2 s2;have s3:=kY s2;have a3:=kz h3 s3;unfold Im;rw[a1];dsimp only;rw[show(enc (t1.length:Int)++t1).length=(ez t1).length from rfl,a2];dsimp only;rw[show(enc (t2.length:Int)++t2).length=(ez t2).length from rfl,a3]
theorem yH {l:List Oh}(h:dV l=true):(aG l).length<=6+18*l.length:=by have h1:=xA (gQ h);have h2:=cD (l.length:Int);rw[aG,d5 h,b8];omega
structure DbOk (d:Od):Prop where
 id:0<=d.M6/\d.M6<=1099511627775
 rules:fI d.M3=true
 rows:gq d.M1=true
 inl:dV d.M2=true
 near:∀x∈d.L7,gk x=true
 fits:DbgFits d
theorem Fi {d:Od}(h:DbOk d):fB (bi d)=some d:=by
 obtain⟨h0,h1,h2,h3,h4,h5⟩:=h;obtain⟨bs,hb⟩:=nq h4
 have e:∃tl,bi d=enc d.M6++(enc (d.L7.length:Int)++(bs++(ez (aK d.M3)++(ez (aR d.M1)++(ez (aG d.M2)++tl))))):=by rw[bi,d5 (within_iff.2 h0),d5 h1,d5 h2,d5 h3,hb];refine⟨enc (Dc (((((mH d++bs)++ez (aK d.M3))++ez (aR d.M1))++ez (aG d.M2)))),?_⟩;simp only[s6,wx,mH,j9]
 obtain⟨tl,e⟩:=e;have r1:=nO h5.rules;have r2:=oS h5.rows;have r3:=yH h3;have r4:=h5.inl;have PN:=h5.syms
 have key:jt (bi d)=some d:=by generalize bi d=s at e;have a0:s.drop 0=enc d.M6++(enc (d.L7.length:Int)++(bs++(ez (aK d.M3)++(ez (aR d.M1)++(ez (aG d.M2)++tl))))):=e;have d0:=tM h0.1 h0.2 a0;have a1:=kY a0;rw[q8]at a1;have d1:=tM (n:=(d.L7.length:Int)) o_ o_ a1;have a2:=kY a1;have d2:=yI h5.names hb a2;have a3:=kY a2;have d3:=Mh o_ o_ o_ a3;unfold jt;rw[show(0:Int)=((0:Nat):Int) from rfl,d0];dsimp only;rw[d1];dsimp only;rw[e8,gn,d2];dsimp only;rw[wt,d3];dsimp only;rw[Fk h1 h5.rules,Ja h2 h5.rows,BC h3 h5.inl];dsimp only;rw[z6 h0.1,p8]
 rw[fB,key,rh rfl]
theorem gr {n:Int}{l:List Int}{bs:List UInt8}(h:cT (n::l)=some bs):∃b',cT l=some b'/\bs.length=(enc (bJ n)).length+b'.length:=by
 rw[cT]at h;split at h
 ·cases h
 ·rw[m9]at h;obtain⟨b',hb,rfl⟩:=h;exact⟨b',hb,by rw[b8]⟩
theorem wy {n:Int}(h:-1000000<=n/\n<=1000000):(enc (bJ n)).length<=3:=by refine yq ?_;rw[bJ,d5 (within_iff.2 ⟨o_,o_⟩)];split<;>omega
theorem Cb {n:Int}(h:-60<=n/\n<=60):(enc (bJ n)).length<=1:=by refine oE ?_;rw[bJ,d5 (within_iff.2 ⟨o_,o_⟩)];split<;>omega
theorem KS (b:Bool):-60<=b01 b/\b01 b<=60:=by cases b<;>decide
theorem qv:∀{l:List Oo} {p:Int} {bs:List UInt8},0<=p->p<=1000000->(∀r∈l,mA r)->cT (bh p l)=some bs->bs.length<=10*l.length
 | [],p,bs,_,_,_,hb=>by rw[bh,cT]at hb;injection hb with hb;subst hb;simp
 | r::l,p,bs,h0,h1,hn,hb=>by
  obtain⟨n1,n2,n3,n4,n5⟩:=hn r s_;rw[bh]at hb;obtain⟨b1,hb,e1⟩:=gr hb;obtain⟨b2,hb,e2⟩:=gr hb;obtain⟨b3,hb,e3⟩:=gr hb;obtain⟨b4,hb,e4⟩:=gr hb;have ih:=qv o_ n3 (fun y hy=>hn y (s5 r hy)) hb;have s1:=wy (n:=r.J8-p) o_;have s2:=wy (n:=r.L5-r.J8) o_;have s3:=Cb (KS r.M4);have s4:=wy (n:=r.L9) o_;rw[c7];omega
theorem sN:∀{l:List On} {p:On} {bs:List UInt8},fG p->(∀r∈l,fG r)->cT (bL p l)=some bs->bs.length<=5*l.length
 | [],p,bs,_,_,hb=>by rw[bL,cT]at hb;injection hb with hb;subst hb;simp
 | r::l,p,bs,h0,hn,hb=>by
  have hr:=hn r s_;obtain⟨n1,n2,n3,n4⟩:=hr;obtain⟨p1,p2,p3,p4⟩:=h0;rw[bL]at hb;obtain⟨b1,hb,e1⟩:=gr hb;obtain⟨b2,hb,e2⟩:=gr hb;obtain⟨b3,hb,e3⟩:=gr hb;have ih:=sN (hn r s_) (fun y hy=>hn y (s5 r hy)) hb;have s1:=wy (n:=r.J7-p.J7) o_;have s2:=Cb (n:=r.J9-p.J9) o_;have s3:=Cb (KS r.J8);rw[c7];omega
theorem Dx {l:List Oo}(h:fI l=true):(aK l).length<=6+10*l.length:=by
 rw[aK,d5 h];unfold bt;split
 ·rename_i bs hb;have h1:=qv o_ o_ (kg o_ h) hb;have h2:=cD ((bh 0 l).length:Int);rw[b8];omega
 ·simp
theorem Ip {l:List On}(h:gq l=true):(aR l).length<=6+5*l.length:=by
 rw[aR,d5 h];unfold bt;split
 ·rename_i bs hb;have h1:=sN (p:=iA) (by unfold fG iA;dsimp only;omega) (lu h) hb;have h2:=cD ((bL iA l).length:Int);rw[b8];omega
 ·simp
theorem vo:∀{l:List Ot} {bs:List UInt8},(∀x∈l,x.J0.length<=8)->dA l=some bs->bs.length<=32*l.length
 | [],bs,_,hb=>by rw[dA]at hb;injection hb with hb;subst hb;simp
 | x::l,bs,hn,hb=>by
  rw[dA]at hb;split at hb
  ·rw[m9]at hb;obtain⟨b',OO,rfl⟩:=hb;have ih:=vo (fun y hy=>hn y (s5 x hy)) OO;have h1:=iw [x.J8,x.M0];have h2:=cD (x.J0.length:Int);have h3:=hn x s_
   simp only[lT,b8,c7,e7]at *
   omega
  ·cases hb
theorem HN {d:Od}(h:DbOk d)(h0:d.L7.length<=6)(hn:∀x∈d.L7,x.J0.length<=8)(h1:d.M3.length<=15000)(h2:d.M1.length<=15000)(h3:d.M2.length<=45000):(bi d).length<=1048576:=by
 have c1:=Dx h.rules;have c2:=Ip h.rows;have c3:=yH h.inl;obtain⟨bs,hb⟩:=nq h.near;have c4:=vo hn hb;rw[bi,d5 (within_iff.2 h.id),d5 h.rules,d5 h.rows,d5 h.inl,hb];simp only[s6,wx,mH];have a1:=cD d.M6;have a2:=cD (d.L7.length:Int);have a3:=mt (aK d.M3);have a4:=mt (aR d.M1);have a5:=mt (aG d.M2);have a6:∀n:Int,(enc n).length<=6:=cD;have a7:=a6 (Dc (((((enc d.M6++enc (d.L7.length:Int))++bs)++ez (aK d.M3))++ez (aR d.M1))++ez (aG d.M2)):Nat)
 simp only[b8]at *
 omega
def mb (x:Int)(b:UInt8):Int:=(x*257+b.toNat+1)%1000000007
def gJ (s:List UInt8):Int:=s.foldl mb 7
theorem LR {x:Int}{b:UInt8}(h0:0<=x)(h1:x<1000000007):(IntKind.i64.wrap (IntKind.i64.wrap (IntKind.i64.wrap (x*257)+IntKind.i64.wrap (b.toNat:Int))+1)).tmod 1000000007=mb x b:=by have hb:=b.toNat_lt;rw[c6 (x*257) o_,c6 (b.toNat:Int) o_,c6 (x*257+b.toNat) o_,c6 _ o_,w5 o_];rfl
theorem kD (code:List UInt8)(syms:List (List Tr))(hs:code.length<=1048576):Sim.Spec prog 53 [.agg [.str code,.lst 3 syms]] (rI (gJ code)):=by
 refine ag hΓ ay func53 rfl d_ rfl ?_;repeat' ((conv=>whnf);first|refine Or.inl ?_|apply oi|apply fi|intro h|exact Y1|refine e_ rfl ?_)
 conv=>whnf
 refine⟨{q:Nat×Int//q.1<=code.length/\0<=q.2/\q.2<1000000007/\(code.drop q.1).foldl mb q.2=gJ code},fun q=>⟨[(1,.r (.c (.ptr (1,0,0) 0))),(3,tI .i64 q.1.2),(4,tI .i64 (q.1.1:Int))],[((1,0,0),some (.box [.t (.str code),.t (.lst 3 syms)]))],[1]⟩,fun q=>code.length-q.1.1,⟨(0,7),s_,g_,g_,by simp[gJ]⟩,?_,?_⟩
 ·exact Z1
 intro⟨⟨k,x⟩,hk,h0,h1,hf⟩;dsimp only at hk h0 h1 hf⊢;repeat' ((conv=>whnf);first|refine Or.inl ?_|apply oi|apply fi|intro h|exact Y1|refine e_ rfl ?_)
 ·have N2:k<code.length:=by have:=m6 h;omega
  obtain⟨b,hb⟩:=ab N2;rw[aP hb,B5]at hf;conv=>whnf
  refine⟨k,b,rfl,hb,?_⟩;repeat' ((conv=>whnf);first|refine Or.inl ?_|apply oi|apply fi|intro h|exact Y1|refine e_ rfl ?_)
  rw[LR h0 h1];have hm:0<=mb x b/\mb x b<1000000007:=by unfold mb;omega
  conv=>whnf
  refine⟨⟨(k+1,mb x b),g_,hm.1,hm.2,hf⟩,?_,KD⟩;repeat' ((conv=>whnf);first|refine Or.inl ?_|apply oi|apply fi|intro h|exact Y1|refine e_ rfl ?_)
  exact⟨by dsimp only;rw[c6 _ o_];rfl⟩
 ·have OK:code.length<=k:=by have:=n6 h;omega
  rw[d8 OK]at hf;exact⟨congrArg (Tr.int _) hf⟩
def uE (a b:Ot):Bool:=(a.J0==b.J0)&&((a.J8==b.J8)&&((a.M0==b.M0)&&true))
def iM:List Ot->List Ot->Bool
 | [],[]=>true
 | a::l,b::m=>uE a b&&iM l m
 | _,_=>false
theorem wN:∀{l m:List Ot},l.length≠m.length->iM l m=false
 | [],[],h=>absurd rfl h
 | [],_::_,_=>rfl
 | _::_,[],_=>rfl
 | a::l,b::m,h=>by rw[iM,wN (l:=l) (m:=m) aac,F8]
def ki (i:Og)(d:Od):Bool:=(d.M6==gJ i.J4)&&iM i.L7 d.L7
theorem rf (l m:List Ot)(hl:l.length<=1048576)(hm:m.length<=1048576):Sim.Spec prog 124 [tvL 3 (l.map Ot.tr),tvL 3 (m.map Ot.tr)] (rB (iM l m)):=by
 refine ag hΓ ay func124 rfl d_ rfl ?_;have h1:(l.map Ot.tr).length=l.length:=s_;have h2:(m.map Ot.tr).length=m.length:=s_;by_cases N1:l.length=m.length
 ·generalize hR:iM l m=R;repeat' ((conv=>whnf);first|refine Or.inl ?_|apply oi|apply fi|intro h|exact Y1|refine e_ rfl ?_)
  ·exfalso;rw[h1,h2,N1]at h;simp at h
  conv=>whnf
  refine⟨{k:Nat//k<=l.length/\iM (l.drop k) (m.drop k)=R},fun k=>⟨[(0,.r (.c (.t (.lst 3 (l.map Ot.tr))))),(1,.r (.c (.t (.lst 3 (m.map Ot.tr))))),(12,tI .i64 ((l.map Ot.tr).length:Int)),(13,tI .i64 (k.1:Int))],[],[]⟩,fun k=>l.length-k.1,⟨0,o_,hR⟩,?_,?_⟩
  ·exact Z1
  intro⟨k,hk,hr⟩;dsimp only;by_cases N2:k<l.length
  ·obtain⟨x,hx⟩:=ab N2;obtain⟨y,hy⟩:=ab (l:=m) (k:=k) o_;rw[aP hx,aP hy,iM]at hr
   cases he:uE x y with
   | false=>
    rw[he,q9]at hr;repeat' ((conv=>whnf);first|refine Or.inl ?_|apply oi|apply fi|intro h|refine⟨k,x.tr,rfl,aa hx,?_⟩|refine⟨k,y.tr,rfl,aa hy,?_⟩|exact Y3|refine e_ rfl ?_)
    all_goals try exact⟨congrArg Tr.bool hr⟩
    all_goals(exfalso;have h':(!uE _ _)=false:=h;rw[he]at h';cases h')
   | true=>
    rw[he,m7]at hr;repeat' ((conv=>whnf);first|refine Or.inl ?_|apply oi|apply fi|intro h|refine⟨k,x.tr,rfl,aa hx,?_⟩|refine⟨k,y.tr,rfl,aa hy,?_⟩|exact Y3|refine e_ rfl ?_)
    ·exfalso;have h':(!uE _ _)=true:=h;rw[he]at h';cases h'
    conv=>whnf
    refine⟨⟨k+1,o_,hr⟩,?_,KD⟩;repeat' ((conv=>whnf);first|refine Or.inl ?_|apply oi|apply fi|intro h|exact Y1|refine e_ rfl ?_)
    all_goals exact Q9
  ·have Qb:iM (l.drop k) (m.drop k)=true:=(by rw[d8 o_,d8 o_];rfl);rw[Qb]at hr;repeat' ((conv=>whnf);first|refine Or.inl ?_|apply oi|apply fi|intro h|exact Y3|refine e_ rfl ?_)
   all_goals exact⟨congrArg Tr.bool hr⟩
 ·rw[wN N1];repeat' ((conv=>whnf);first|refine Or.inl ?_|apply oi|apply fi|intro h|exact Y1|refine e_ rfl ?_)
  all_goals(exfalso;rw[h1,h2]at h;simp at h;omega)
theorem mB (i:Og)(d:Od)(hi:aX 1048576 i.tr)(hd:aX 1048576 d.tr):Sim.Spec prog 49 [.agg i.tr,.agg d.tr] (rB (ki i d)):=by
 refine ag hΓ ay func49 rfl d_ rfl ?_;simp only[Og.tr,Od.tr,aX]at hi hd;have hI:=kD i.J4 (i.L7.map Ot.tr) (by have:=Ig hi.1;omega);have hE:=rf i.L7 d.L7 (cu hi.2.1) (cu hd.2.1);unfold ki;repeat' ((conv=>whnf);first|refine Or.inl ?_|apply oi|apply fi|intro h|refine ci hI (ai (ai rfl (ai rfl trivial)) trivial) ?_|refine ci hE (ai rfl (ai rfl trivial)) ?_|exact Y1|refine e_ rfl ?_)
 all_goals(refine⟨congrArg Tr.bool ?_⟩;simp_all)
noncomputable def fF (p:List Oj) (b:Oa) (image:Int):Od:=
 ⟨gJ (be p b image).J4,(be p b image).L7,im (aH p b image),fR (aH p b image),bD p (aH p b image)⟩
theorem La {p:List Oj}{x:Oi}{r:List Oh}(hl:r.length=x.J3.length)(ht:∀(i:Nat) (c:Int) (y:Oh),x.J3[i]?=some c->r[i]?=some y->y.J9=c/\y.J0=aT p x i):∀(n i:Nat) (nm:List UInt8),r.length-i<=n->i<=r.length->nm=aJ p ((x.J3.drop i).headD x.J9)->
  frL nm (r.drop i) x.J9=((x.J3.drop i).map fun c=>(⟨aJ p c,c⟩:Oe))++[⟨aJ p x.J9,x.J9⟩]:=by
 intro n
 induction n with
 | zero=>
  intro i nm h1 h2 h3;rw[show x.J3.drop i=[] from d8 o_]at h3⊢;rw[d8 o_,frL,h3]
  rfl
 | succ n ih=>
  intro i nm h1 h2 h3;by_cases N2:i<r.length
  ·obtain⟨y,hy⟩:=ab N2;obtain⟨c,hc⟩:=ab (l:=x.J3) (k:=i) o_;obtain⟨t1,t2⟩:=ht i c y hc hy;rw[aP hc]at h3⊢;rw[aP hy,frL,ih (i+1) y.J0 o_ o_ ?_,t1,h3]
   ·rfl
   ·rw[t2,aT,List.headD_eq_head?_getD,List.head?_drop]
    cases x.J3[i+1]?<;>rfl
  ·rw[show x.J3.drop i=[] from d8 o_]at h3⊢;rw[d8 o_,frL,h3];rfl
section
variable {p:List Oj} {b:Oa} {image:Int}
def frs (p:List Oj)(x:Oi):List Oe:=(x.J3.map fun c=>⟨aJ p c,c⟩)++[⟨aJ p x.J9,x.J9⟩]
theorem EW (hs:aE 1048576 (.lst 4 (p.map Oj.tr)))(h1:aj p=true)(h2:aS b=true)(h3:af image 0 1=true){k:Nat}{x:Om}(hx:(aH p b image)[k]?=some x):
  oI (fF p b image) x.J7 false=some (frs p x.I8):=by
 have hk:=lg (b:=b) (image:=image) hs;have P1:=lD (b:=b) (image:=image) hs;obtain⟨i,y,hy1,T5,VD⟩:=HU hs h1 h2 h3 hx;have Uk:=hk.rng k x hx;obtain⟨j,r,Ps,Pf,Zx⟩:=Nd hk hx (v7 _) (show x.J7<x.J7+bp x.I8.J6.J4 by omega);obtain⟨t1,t2⟩:=Bq h1 hk P1 hx;unfold oI fF;dsimp only;rw[hy1,Ps,c8 (by simp<;>omega),e8,e8,T5,Pf];dsimp only;have hf:=La (p:=p) t1 (fun i c y hc hy=>(t2 i c y hc hy).2) (x.I8.J3.length) 0 y.J0 o_ o_ (by rw[VD];rfl);rw[v6,v6]at hf;rw[Zx.line,hf];rfl
theorem IP (s:List UInt8):0<=gJ s/\gJ s<=1000000006:=by
 have key:∀(s:List UInt8) (x:Int),0<=x/\x<=1000000006->0<=s.foldl mb x/\s.foldl mb x<=1000000006:=by
  intro s
  induction s with
  | nil=>intro x h;exact h
  | cons c s ih=>intro x _;rw[B5];refine ih _ ?_;unfold mb;omega
 exact key s 7 o_
theorem sy {code:List UInt8}:∀{l seen:List Ot} {a:Nat},lU code seen a l=true->∀x∈l,bW x.J0=true
 | [],_,_,_,x,hx=>by cases hx
 | y::l,seen,a,h,x,hx=>by
  rw[lU,c9,Hz,c9,imgPre_iff]at h;rcases d6.1 hx with rfl|hx
  ·exact h.1.1.2.2.2
  ·exact sy h.2 x hx
structure SymIn (x:Ot):Prop where
 near:gk x=true
 name:x.J0.length<=8
theorem uG (hs:aE 1048576 (.lst 4 (p.map Oj.tr)))(h1:aj p=true)(h2:aS b=true)(h3:af image 0 1=true):∀x∈(be p b image).L7,SymIn x:=by obtain⟨ha,hc⟩:=lm hs h1 h2 h3;obtain⟨_,hi⟩:=imageOk_iff.1 ha;intro x hx;have m:=wJ hi o_ x hx;have n:=sy hi x hx;unfold bW at n;rw[c9,within_iff]at n;refine⟨?_,o_⟩;unfold gk;rw[within_iff.2 ⟨o_,o_⟩,within_iff.2 ⟨o_,o_⟩];rfl
theorem Gp (hs:aE 1048576 (.lst 4 (p.map Oj.tr)))(h1:aj p=true)(h2:aS b=true)(h3:af image 0 1=true):DbOk (fF p b image)/\(bi (fF p b image)).length<=1048576/\(fF p b image).M2.length<=45000/\(∀x∈(fF p b image).M2,x.J0.length<=8):=by
 have hk:=lg (b:=b) (image:=image) hs;have P1:=lD (b:=b) (image:=image) hs;have hd:=Du (b:=b) (image:=image) hs;have hI:=Ej hk hd;have N1:=hk.len;have ZV:=hI.len;have hWl:=Gz (aH p b image);have ON:=qG (fun x hx=>(P1 x hx).I5.1);have Xw:=zn (p:=p) (l:=aH p b image);have P0:=rP h1 hk P1;have hin:=gQ (l:=bD p (aH p b image)) (pre:=[]) P0;have Zd:=uG (b:=b) (image:=image) hs h1 h2 h3;have ZH:=qk (p:=p) (b:=b) (image:=image) (eH h1).1;have N8:=IP (be p b image).J4
 have N7:DbOk (fF p b image):=⟨⟨N8.1,show gJ (be p b image).J4<=_ by omega⟩,hI.ok,Ad hk,P0,fun x hx=>(Zd x hx).near,
  ⟨show(be p b image).L7.length<=_ by omega,fun x hx=>by have:=(Zd x hx).name;omega,show(im (aH p b image)).length<=_ by omega,show(fR (aH p b image)).length<=_ by omega,show(bD p (aH p b image)).length<=_ by omega,fun x hx=>by have:=(hin x hx).n;omega⟩⟩
 exact⟨N7,HN N7 ZH (fun x hx=>(Zd x hx).name) (show(im (aH p b image)).length<=_ by omega) (show(fR (aH p b image)).length<=_ by omega) (show(bD p (aH p b image)).length<=_ by omega),show(bD p (aH p b image)).length<=_ by omega,fun x hx=>(hin x hx).n⟩
theorem Gr (x:Ot):uE x x=true:=by simp[uE]
theorem vg:∀l:List Ot,iM l l=true
 | []=>rfl
 | x::l=>by rw[iM,Gr,vg l];rfl
theorem Dw (x:Ot){z:Int}(h:z≠x.M0)(l:List Ot):iM (⟨x.J0,x.J8,z⟩::l) (x::l)=false:=by
 rw[iM]
 have:uE ⟨x.J0,x.J8,z⟩ x=false:=by unfold uE;dsimp only;rw[show(z==x.M0)=false from x5.2 h];simp
 rw[this];rfl
theorem LM (p:List Oj)(x:Oi):(frs p x).length=x.J3.length+1:=by simp[frs]
theorem JA (p:List Oj)(x:Oi):(frs p x)[x.J3.length]?=some ⟨aJ p x.J9,x.J9⟩:=by simp[frs]
theorem LW {p:List Oj}{x:Oi}{j:Nat}{c:Int}(h:x.J3[j]?=some c):(frs p x)[j]?=some ⟨aJ p c,c⟩:=by have hj:=aw h;unfold frs;rw[p9 (by rw[d9];exact hj),l6,h];rfl
end
abbrev vIt (l:List Oi):AV:= .r (.c (.t (.lst 7 (l.map Oi.tr))))
theorem Q14{p:Prop}(h:p:=by exact⟨⟨by simp only[e7,c7,OJ,QY]<;>omega,by simp only[e7,c7,OJ,QY]<;>omega⟩⟩):p:=h
theorem nU (l:List Oi)(at0:Int)(hl:l.length<=2500)(h0:0<=at0/\at0<=200000)(hj:BW l)(hc:∀x∈l,x.J3.length<=1000):bd prog 158 [vIt l,tI .i64 at0] [] (.r (.c (.own (1,0,0)))) [((1,0,0),.dar 8 (aq ((dv l at0).map Om.tr)) none)]:=by
 refine au hΓ ay func158 rfl d_ rfl rfl ?_;have N1:(l.map Oi.tr).length=l.length:=s_;have PN:=pa at0 l;have OH:=fun k (h:k<=l.length)=>gx (at0:=at0) h
 generalize hS:cA at0 l=S at *
 have Qm:atL S 0=at0:=by rw[<-hS];exact iy at0 l
 have XC:=fun k x (h:l[k]?=some x)=>fE (at0:=at0) h;rw[hS]at XC;repeat' ((conv=>whnf);first|apply Wx|apply W6|apply oi|apply fi|intro h|exact Y8|refine e_ rfl ?_)
 conv=>whnf
 refine⟨{k:Nat//k<=l.length},fun k=>⟨[(0,vIt l),(15,vIt l),(16,tI .i64 ((l.map Oi.tr).length:Int)),(17,tI .i64 (k.1:Int)),(7,tI .i64 (atL S k.1)),(6,.r (.c (.own (13,0,0)))),(5,.r (.c (.own (12,0,0))))],[((13,0,0),some (.arr true 1 ((S.take k.1).map ae))),((12,0,0),some (.arr true 8 []))],[13,12,0]⟩,fun k=>l.length-k.1,⟨0,o_⟩,?_,?_⟩
 ·repeat' ((conv=>whnf);first|apply Wx|apply W6|apply oi|apply fi|intro h|exact Y8|refine e_ rfl ?_)
  all_goals try exact⟨by rw[Qm]⟩
 intro⟨k,hk⟩;dsimp only;have Sz:=OH k hk;by_cases N2:k<l.length
 ·obtain⟨x,hx⟩:=ab N2;have hz:=iP x.J6.J4;have ho:=ga x.J6.J4;have P6:=XC k x hx;have hg:S[k]?=some (atL S k):=pu o_;repeat' ((conv=>whnf);first|apply Wx|apply W6|apply oi|apply fi|intro h|refine⟨k,x.tr,rfl,aa hx,?_⟩|refine cl ho ?_|exact Y6|refine e_ rfl ?_)
  all_goals try exact Q2
  conv=>whnf
  refine⟨⟨k+1,o_⟩,?_,KD⟩;repeat' ((conv=>whnf);first|apply Wx|apply W6|apply oi|apply fi|intro h|exact Y9|refine e_ rfl ?_)
  all_goals try exact⟨by rw[cn hg,ne];rfl⟩
  all_goals try exact Q30
 ·have OZ:k=l.length:=o_;subst OZ;have hg:S[l.length]?=some (atL S l.length):=pu o_;repeat' ((conv=>whnf);first|apply Wx|apply W6|apply oi|apply fi|intro h|exact Y6|refine e_ rfl ?_)
  all_goals try exact Q2
  conv=>whnf
  refine⟨{k:Nat//k<=l.length},fun k=>⟨[(0,vIt l),(36,vIt l),(37,tI .i64 ((l.map Oi.tr).length:Int)),(38,tI .i64 (k.1:Int)),(6,.r (.c (.own (35,0,0)))),(5,.r (.c (.own (12,0,0))))],[((35,0,0),some (.arr true 1 (S.map ae))),((12,0,0),some (.dar 8 (aq (((dv l at0).take k.1).map Om.tr)) none))],[35,12,0]⟩,fun k=>l.length-k.1,⟨0,o_⟩,?_,?_⟩
  ·repeat' ((conv=>whnf);first|apply Wx|apply W6|apply oi|apply fi|intro h|exact Y8|refine e_ rfl ?_)
   all_goals exact⟨by rw[show [[Tr.int .i64 (atL S l.length)]]=[atL S l.length].map ae from rfl,<-ne,<-cn hg,gt o_]⟩
  intro⟨k,hk⟩;dsimp only;have OA:=cP l at0;have QY:(aq (((dv l at0).take k).map Om.tr)).length=k:=by rw[di,d9,j5];omega
  have Vz:(S.map ae).length=l.length+1:=by rw[d9];exact PN
  have mg:∀j,j<=l.length->(S.map ae)[j]?=some (ae (atL S j)):=fun j hj=>by rw[l6,pu o_];rfl
  by_cases N2:k<l.length
  ·obtain⟨x,hx⟩:=ab N2;have Vk:=hc x (b9 hx);have OJ:(x.J3.map ae).length=x.J3.length:=s_;have Qf:=dD (at0:=at0) hx;rw[hS]at Qf;have PJ:IntKind.i64.wrap ((k:Int)+1)=((k+1:Nat):Int):=(by rw[c6 _ o_];rfl);have O6:k<(S.map ae).length:=o_;have Pk:k+1<(S.map ae).length:=o_;have m0:=mg k o_;have m1:=mg (k+1) o_;have b1:=OH (k+1) o_
   cases P3:pl x with
   | true=>
    obtain⟨ja,jb⟩:=hj x (b9 hx) P3;have ha:x.J6.L6=((x.J6.L6.toNat:Nat):Int):=(z6 ja).symm;have OC:x.J6.L6.toNat<(S.map ae).length:=o_;have m2:=mg x.J6.L6.toNat o_;have b2:=OH x.J6.L6.toNat o_;have PU:eJ S k x=wr x (IntKind.i64.wrap (atL S x.J6.L6.toNat-atL S (k+1))):=(by rw[eJ,d5 P3,c6 _ o_]);rw[gv]at P3;repeat' ((conv=>whnf);first|apply Wx|apply W6|apply oi|apply fi|intro h|refine⟨k,x.tr,rfl,aa hx,?_⟩|refine⟨k,rfl,O6,?_⟩|refine⟨k+1,PJ,Pk,?_⟩|refine⟨_,ha,OC,?_⟩|refine⟨_,m0,?_⟩|refine⟨_,m1,?_⟩|refine⟨_,m2,?_⟩|exact Y11|refine e_ rfl ?_)
    all_goals try exact Q14
    all_goals try exact⟨gy _⟩
    all_goals(
     conv=>whnf
     refine⟨⟨k+1,o_⟩,?_,KD⟩;repeat' ((conv=>whnf);first|apply Wx|apply W6|apply oi|apply fi|intro h|exact Y9|refine e_ rfl ?_)
     all_goals try exact⟨by rw[cn Qf,PU,ne,jE];rfl⟩)
   | false=>
    have PU:eJ S k x=x:=(by rw[eJ,c8 (by rw[P3];simp)]);have Tv:¬(x.J6.J4=10\/x.J6.J4=11):=(by rw[<-gv,P3];simp);repeat' ((conv=>whnf);first|apply Wx|apply W6|apply oi|apply fi|intro h|refine⟨k,x.tr,rfl,aa hx,?_⟩|refine⟨k,rfl,O6,?_⟩|refine⟨_,m0,?_⟩|exact Y11|refine e_ rfl ?_)
    all_goals try exact Q14
    all_goals try exact⟨gy _⟩
    all_goals(
     conv=>whnf
     refine⟨⟨k+1,o_⟩,?_,KD⟩;repeat' ((conv=>whnf);first|apply Wx|apply W6|apply oi|apply fi|intro h|exact Y9|refine e_ rfl ?_)
     all_goals try exact⟨by rw[cn Qf,PU,ne,jE];rfl⟩)
  ·have OZ:k=l.length:=o_;subst OZ;repeat' ((conv=>whnf);first|apply Wx|apply W6|apply oi|apply fi|intro h|exact Y6|refine e_ rfl ?_)
   all_goals exact⟨by rw[gt o_]⟩
def ta (p:List Oj)(k:Nat)(l:List Int):List Int:=
 let l1:=match endAt p k with|some e=>l.set e k|none=>l
 match elseAt p k with|some e=>l1.set e k|none=>l1
def lP (p:List Oj):Nat->List Int
 | 0=>List.replicate p.length 0
 | n+1=>ta p n (lP p n)
theorem sA (p:List Oj):∀n,(lP p n).length=p.length
 | 0=>by simp[lP]
 | n+1=>by
  rw[lP,ta];have:=sA p n
  cases endAt p n<;>cases elseAt p n<;>simp[this]
theorem EQ {p:List Oj}{i k:Nat}(h:endAt p i=some k\/elseAt p i=some k)(hk:k<p.length):∀n,i<n->(lP p n)[k]?=some (i:Int)
 | 0,hn=>o_
 | n+1,hn=>by
  have hl:=sA p n;rw[lP,ta];by_cases hin:i=n
  ·subst hin;rcases h with h|h
   ·rw[h];dsimp only
    cases he:elseAt p i with
    | none=>dsimp only;rw[u4 o_]
    | some m=>
     dsimp only;by_cases hm:m=k
     ·subst hm;rw[u4 aab]
     ·rw[A0 hm,u4 o_]
   ·rw[h];dsimp only;rw[u4 (by cases endAt p i<;>simp<;>omega)]
  ·have ih:=EQ h hk n o_
   have own:∀m,(endAt p n=some m\/elseAt p n=some m)->m≠k:=by intro m hm e;subst e;have h1:aQ p m=i:=(by rcases h with h|h;exact jU h;exact sP h);have h2:aQ p m=n:=(by rcases hm with h|h;exact jU h;exact sP h);exact hin (h1.symm.trans h2)
   have key:((match endAt p n with|some e=>(lP p n).set e (n:Int)|none=>lP p n):List Int)[k]?=some (i:Int):=by cases he:endAt p n with|none=>exact ih|some m=>dsimp only;rw[A0 (own m (.inl he))];exact ih
   cases he:elseAt p n with|none=>exact key|some m=>dsimp only;rw[A0 (own m (.inr he))];exact key
theorem Q34{p:Prop}(h:p:=by exfalso;simp[cX]at h;first|done|fail):p:=h
theorem zC (p:List Oj)(PW:p.length<=60):Sim.Spec prog 267 [tvP p] (rL 1 ((lP p p.length).map ae)):=by
 refine aI hΓ ay func267 rfl d_ rfl ?_;have Pw:(p.map Oj.tr).length=p.length:=s_;have Tb:(((p.map Oj.tr).length:Nat):Int)=(p.length:Int):=by rw[Pw]
 have Sq:p.length<=9223372036854775807:=o_;have SP:p.length*8<=140737488355328:=o_;repeat' ((conv=>whnf);first|apply Wx|apply W6|apply oi|apply fi|intro h|refine⟨p.length,Tb,Tb,Sq,SP,?_⟩|exact Y8|refine e_ rfl ?_)
 conv=>whnf
 refine⟨{k:Nat//k<=p.length},fun q=>⟨[(0,vP p),(3,.r (.c (.own (3,0,0)))),(11,tI .i64 ((p.map Oj.tr).length:Int)),(12,tI .i64 (q.1:Int))],[((3,0,0),some (.arr true 1 ((lP p q.1).map ae)))],[3]⟩,fun q=>p.length-q.1,⟨0,o_⟩,?_,?_⟩
 ·repeat' ((conv=>whnf);first|apply Wx|apply W6|apply oi|apply fi|intro h|exact Y8|refine e_ rfl ?_)
  all_goals exact⟨by simp[lP,ae]⟩
 intro⟨k,hk⟩;dsimp only at hk⊢;by_cases N2:k<p.length
 ·have gE:=dC p (k:Int) o_;have gL:=qw p (k:Int) o_;have QG:=sA p k;have Vz:((lP p k).map ae).length=p.length:=by rw[d9,QG]
  rw[bu]at gE;rw[gA]at gL;have O4:lP p (k+1)=ta p k (lP p k):=rfl;have ct:∀{l:List Int} {e:Nat},e<l.length->∃v,(l.map ae)[e]?=some (ae v):=fun{l e} he=>⟨l[e],by rw[l6,f9 he];rfl⟩;have Qr:∀(l:List Int) (e:Nat),(l.map ae).set e [.int .i64 (k:Int)]=(l.set e (k:Int)).map ae:=fun l e=>by simp[E4,ae]
  rw[ta]at O4
  cases he:endAt p k with
  | none=>
   rw[he]at gE O4
   cases hl:elseAt p k with
   | none=>
    rw[hl]at gL O4;dsimp only at O4;repeat' ((conv=>whnf);first|apply Wx|apply W6|apply oi|apply fi|intro h|refine cl gE ?_|refine cl gL ?_|exact Y6|refine e_ rfl ?_)
    all_goals try exact Q34
    conv=>whnf
    refine⟨⟨k+1,o_⟩,?_,KD⟩;repeat' ((conv=>whnf);first|apply Wx|apply W6|apply oi|apply fi|intro h|exact Y9|refine e_ rfl ?_)
    all_goals exact⟨by dsimp only;rw[O4]⟩
   | some m=>obtain⟨_,_,_,_,h,_⟩:=bn hl;rw[he]at h;cases h
  | some e=>
   obtain⟨_,_,_,_,_,Pq⟩:=aL he;have Xi:e<((lP p k).map ae).length:=o_;obtain⟨v,hv⟩:=ct (l:=lP p k) (e:=e) o_;rw[he]at gE O4
   cases hl:elseAt p k with
   | none=>
    rw[hl]at gL O4;dsimp only at O4;repeat' ((conv=>whnf);first|apply Wx|apply W6|apply oi|apply fi|intro h|refine cl gE ?_|refine cl gL ?_|refine⟨e,rfl,Xi,?_⟩|refine⟨_,hv,?_⟩|exact Y6|refine e_ rfl ?_)
    all_goals try exact Q34
    all_goals try(exfalso;rename_i h0;simp[cX]at h0;done)
    conv=>whnf
    refine⟨⟨k+1,o_⟩,?_,KD⟩;repeat' ((conv=>whnf);first|apply Wx|apply W6|apply oi|apply fi|intro h|exact Y9|refine e_ rfl ?_)
    all_goals exact⟨by dsimp only;rw[O4,Qr]⟩
   | some m=>
    obtain⟨_,_,_,_,_,_,hmm,z,hz,_⟩:=bn hl;have abd:=aw hz;have Xo:m<(((lP p k).set e (k:Int)).map ae).length:=(by simp;omega);obtain⟨v2,T3⟩:=ct (l:=(lP p k).set e (k:Int)) (e:=m) aab;rw[<-Qr]at Xo T3;rw[hl]at gL O4;dsimp only at O4;repeat' ((conv=>whnf);first|apply Wx|apply W6|apply oi|apply fi|intro h|refine cl gE ?_|refine cl gL ?_|refine⟨e,rfl,Xi,?_⟩|refine⟨_,hv,?_⟩|refine⟨m,rfl,Xo,?_⟩|refine⟨_,T3,?_⟩|exact Y6|refine e_ rfl ?_)
    all_goals try exact Q34
    all_goals try(exfalso;rename_i h0;simp[cX]at h0;done)
    conv=>whnf
    refine⟨⟨k+1,o_⟩,?_,KD⟩;repeat' ((conv=>whnf);first|apply Wx|apply W6|apply oi|apply fi|intro h|exact Y9|refine e_ rfl ?_)
    all_goals exact⟨by dsimp only;rw[O4,Qr,Qr]⟩
 ·have Pr:k=p.length:=o_;subst Pr;exact Z6
theorem gV (b:Oa):Sim.Spec prog 78 [.agg b.tr] (rB (aS b)):=by
 refine aI hΓ ay func78 rfl d_ rfl ?_;have h1:=ak b.M5 0 63;have h2:=ak b.L4 0 3;unfold aS
 generalize af b.M5 0 63=x at *
 generalize af b.L4 0 3=y at *
 cases x
 ·repeat' ((conv=>whnf);first|apply Wx|apply W6|apply oi|apply fi|intro h|refine cl h1 ?_|refine cl h2 ?_|exact Y6|refine e_ rfl ?_)
 ·cases y
  ·repeat' ((conv=>whnf);first|apply Wx|apply W6|apply oi|apply fi|intro h|refine cl h1 ?_|refine cl h2 ?_|exact Y6|refine e_ rfl ?_)
  ·repeat' ((conv=>whnf);first|apply Wx|apply W6|apply oi|apply fi|intro h|refine cl h1 ?_|refine cl h2 ?_|exact Y6|refine e_ rfl ?_)
abbrev wl (a:Ex):List Tr:=[.lst 3 (a.toks.map Ou.tr)]
theorem V28{p:Prop}(h:p:=by
 generalize dH t.I6 a.L3 b.L3=ap at *
 repeat' ((conv=>whnf);first|apply Wx|apply W6|apply oi|apply fi|intro h|refine cl hB ?_|refine⟨0,rfl,ZW,?_⟩|refine⟨[Tr.lst 3 [a.tr]],rfl,?_⟩|refine⟨1,rfl,VQ,?_⟩|refine⟨2,rfl,VV,?_⟩|refine⟨a.tr,rfl,?_⟩|refine⟨b.tr,rfl,?_⟩|refine cl Wp ?_|refine cl SL ?_|exact Y6|refine e_ rfl ?_)
 all_goals try exact Q28
 all_goals try(exfalso;simp_all;done)):p:=h
theorem qg:∀(n:Nat) (e:Ex),e.toks.length<=n->∀(l:List Ou) (p:Nat),l.length<=1048576->eG l->e.ok->ik l p e->Sim.Spec prog 266 [tvL 3 (l.map Ou.tr),tvI p] (rL 3 (e.fold.toks.map Ou.tr))
 | 0,e,hn,_,_,_,_,_,_=>by have:=e.toks_pos;omega
 | n+1,.node t es,hn,l,p,hl,RX,ho,hs=>by
  refine aI hΓ ay func266 rfl d_ rfl ?_;have N1:(l.map Ou.tr).length=l.length:=s_;have OH:=gz hs;obtain⟨ht,RL⟩:=iO hs;have hO:=nK l p t es hl RX ho hs;have Pw:((ig (p+1) es).map nR).length=es.length:=by rw[d9,th]
  rw[Ex.toks,c7]at hn OH;rw[Ex.fold];have Zf:=pP es;obtain⟨e1,e2⟩:=rD ho.1;have Pq:es.length=ar t:=ho.2.1;repeat' ((conv=>whnf);first|apply Wx|apply W6|apply oi|apply fi|intro h|refine cl hO ?_|refine⟨p,t.tr,rfl,aa ht,?_⟩|exact Y8|refine e_ rfl ?_)
  conv=>whnf
  refine⟨{j:Nat//j<=es.length},fun q=>⟨[(0,.r (.c (.t (.lst 3 (l.map Ou.tr))))),(1,tI .i64 (p:Int)),(5,.r (.c (.ptr (5,0,0) 0))),(6,.r (.c (.own (21,0,1)))),(7,.r (.c (.own (21,0,2)))),(21,.r (.c (.own (21,0,0)))),(22,tI .i64 (((ig (p+1) es).map nR).length:Int)),(23,tI .i64 (q.1:Int))],
   [((5,0,0),some (.box (t.tr.map .t))),((21,0,1),some (.arr false 3 ((t::ao (bm (es.take q.1))).map Ou.tr))),((21,0,2),some (.arr false 1 ((bm (es.take q.1)).map wl))),((21,0,0),some (.arr true 1 ((ig (p+1) es).map nR)))],[21,5]⟩,fun q=>es.length-q.1,⟨0,o_⟩,?_,?_⟩
  ·repeat' ((conv=>whnf);first|apply Wx|apply W6|apply oi|apply fi|intro h|exact Y8|refine e_ rfl ?_)
   all_goals first|exact⟨by simp[bm,ao];rfl⟩|exact⟨by simp[bm]⟩
  intro⟨j,hj⟩;dsimp only at hj⊢;by_cases N2:j<es.length
  ·obtain⟨a,ha⟩:=ab N2;obtain⟨q,hq,YZ⟩:=wv RL ha;have OC:=kH ha;have hR:=qg n a o_ l q hl RX (mz ho.2.2 ha) YZ;have Pg:j<((ig (p+1) es).map nR).length:=(by rw[Pw];exact N2);have WL:=a.fold_le;have UG:=dL (bm es) j;rw[oJ]at UG;have Vh:((t::ao (bm (es.take j))).map Ou.tr).length=1+(ao (bm (es.take j))).length:=(by simp;omega);have Qy:(a.fold.toks.map Ou.tr).length=a.fold.toks.length:=s_;repeat' ((conv=>whnf);first|(with_reducible apply W1;fail_if_success (with_reducible show Wo _ _ _ _ (Code.region 8 _ _) _ _))|(with_reducible first|apply W2|apply W3|apply W4|apply W5|apply W6|apply W7|apply W8|apply W9)|apply aB|apply oi|apply fi|intro h|refine cl hR ?_|refine⟨j,rfl,Pg,?_⟩|refine⟨(nR q),(aa hq),?_⟩|exact Y6|refine e_ rfl ?_)
   conv=>whnf
   refine kL ⟨[(0,.r (.c (.t (.lst 3 (l.map Ou.tr))))),(1,tI .i64 (p:Int)),(5,.r (.c (.ptr (5,0,0) 0))),(6,.r (.c (.own (21,0,1)))),(7,.r (.c (.own (21,0,2)))),(10,.r (.c (.t (.lst 3 (a.fold.toks.map Ou.tr))))),(21,.r (.c (.own (21,0,0)))),(22,tI .i64 (((ig (p+1) es).map nR).length:Int)),(23,tI .i64 (j:Int))],
    [((5,0,0),some (.box (t.tr.map .t))),((21,0,1),some (.arr false 3 ((t::ao (bm (es.take j))).map Ou.tr))),((21,0,2),some (.arr false 1 ((bm (es.take j)).map wl))),((21,0,0),some (.arr true 1 ((ig (p+1) es).map nR)))],_⟩ ?_ ?_ rfl ?_
   ·refine⟨.inl rfl,.inl rfl,.inl rfl,.inl rfl,.inl rfl,.inr (.inl ⟨_,_,rfl,rfl,.inr (.inr ⟨_,rfl,rfl,?_⟩)⟩),.inl rfl,.inl rfl,.inl rfl,trivial⟩;exact V143
   ·exact⟨.inr (.inl rfl),.inr (.inl rfl),.inr (.inl rfl),.inr (.inl rfl),trivial⟩
   have Wj:((bm (es.take j)).map wl).length=j:=(by rw[d9,kU,j5];omega);repeat' ((conv=>whnf);first|apply Wx|apply W6|apply oi|apply fi|intro h|exact Y8|refine e_ rfl ?_)
   all_goals try exact⟨⟨by rw[Wj];simp<;>omega,by rw[Wj];simp<;>omega⟩⟩
   all_goals try exact Q19
   conv=>whnf
   refine⟨⟨j+1,o_⟩,?_,KD⟩;repeat' ((conv=>whnf);first|apply Wx|apply W6|apply oi|apply fi|intro h|exact Y9|refine e_ rfl ?_)
   all_goals first|exact⟨by rw[nz ha,fU,mT];simp⟩|exact⟨by rw[nz ha];simp⟩
  ·have RF:j=es.length:=o_;subst RF;rw[B3];have hB:=ak t.I6 2 6;have Vw:=kU es;have Vj:((t::ao (bm es)).map Ou.tr).length=1+(ao (bm es)).length:=by simp;omega
   generalize bm es=F at *
   cases hk:af t.I6 2 6 with
   | false=>
    rw[hk]at hB;rw[ng (.inr hk),Ex.toks];repeat' ((conv=>whnf);first|apply Wx|apply W6|apply oi|apply fi|intro h|refine cl hB ?_|exact Y6|refine e_ rfl ?_)
    all_goals exact Q28
   | true=>
    rw[hk]at hB;by_cases h2:(ao F).length=2
    ·obtain⟨f1,f2,rfl⟩:=JO (Vw.trans (Pq.trans (KI ho.1 hk)));rw[ao,mT,b8]at h2;have p1:=f1.toks_pos;have p2:=f2.toks_pos;obtain⟨a,rfl⟩:=wB (f:=f1) o_;obtain⟨b,rfl⟩:=wB (f:=f2) o_;have e3:t::ao [Ex.node a [],Ex.node b []]=[t,a,b]:=(by simp[ao,Ex.toks]);have e4:(Ex.node t [Ex.node a [],Ex.node b []]).toks=[t,a,b]:=(by rw[Ex.toks];exact e3);have e6:([Ex.node a [],Ex.node b []].map wl)=[[.lst 3 [a.tr]],[.lst 3 [b.tr]]]:=(by simp[Ex.toks,ao]);rw[e3,e6];have VQ:1<([t,a,b].map Ou.tr).length:=s_;have VV:2<([t,a,b].map Ou.tr).length:=s_;have ZW:0<[[Tr.lst 3 [a.tr]],[Tr.lst 3 [b.tr]]].length:=s_;have Wp:=Cu t.I6 a.L3 b.L3;have SL:=ak (dH t.I6 a.L3 b.L3) 0 999;rw[Da];by_cases hc:HQ t a b
     ·rw[d5 hc];obtain⟨_,c1,c2,c3⟩:=hc;rw[c3]at SL;have e5:(CA (dH t.I6 a.L3 b.L3)).toks=[⟨0,dH t.I6 a.L3 b.L3,[]⟩]:=(by simp[CA,Ex.toks,ao]);rw[e5]
      generalize dH t.I6 a.L3 b.L3=ap at *
      repeat' ((conv=>whnf);first|apply Wx|apply W6|apply oi|apply fi|intro h|refine cl hB ?_|refine⟨0,rfl,ZW,?_⟩|refine⟨[Tr.lst 3 [a.tr]],rfl,?_⟩|refine⟨1,rfl,VQ,?_⟩|refine⟨2,rfl,VV,?_⟩|refine⟨a.tr,rfl,?_⟩|refine⟨b.tr,rfl,?_⟩|refine cl Wp ?_|refine cl SL ?_|exact Y6|refine e_ rfl ?_)
      all_goals try exact Q3
     ·rw[c8 hc,e4];have Ur:∀w,af (dH t.I6 a.L3 b.L3) 0 999=w->a.I6=0->b.I6=0->w=true->False:=fun w h1 h2 h3 h4=>hc ⟨hk,h2,h3,h1.trans h4⟩
      cases hw:af (dH t.I6 a.L3 b.L3) 0 999 with
      | true=>
       rw[hw]at SL;have XJ:=Ur true hw
       exact V28
      | false=>rw[hw]at SL;exact V28
    ·rw[ng (.inl h2),Ex.toks];repeat' ((conv=>whnf);first|apply Wx|apply W6|apply oi|apply fi|intro h|refine cl hB ?_|exact Y6|refine e_ rfl ?_)
     all_goals try exact Q28
     all_goals try(exfalso;rw[Vj]at *;simp at *;omega)
theorem wb (l:List Ou)(hl:l.length<=1048576)(hn:eG l):Sim.Spec prog 250 [tvL 3 (l.map Ou.tr)] (rL 3 ((mn l).map Ou.tr)):=by
 refine aI hΓ ay func250 rfl d_ rfl ?_;have hE:=qy l hl hn
 cases h:bF l with
 | false=>exact V110
 | true=>rw[h]at hE;obtain⟨e,h1,h2,h3⟩:=rH h;have hF:=qg e.toks.length e (d7 _) l 0 hl hn h1 ⟨[],by rw[v6,i9];exact h2⟩;exact V89
theorem vI (x:Oj)(hs:aX 1048576 x.tr):Sim.Spec prog 249 [.agg x.tr] (.r (.agg (x.tr.map IU))):=by
 refine aI hΓ ay func249 rfl d_ rfl ?_;obtain⟨h1,h2,h3,h4,h5⟩:=dg hs;repeat' ((conv=>whnf);first|apply Wx|apply W6|apply oi|apply fi|intro h|exact Y8|refine e_ rfl ?_)
 all_goals try exact Q2
 all_goals try exact⟨⟨rfl,fD _⟩⟩
 all_goals try exact Q28
theorem rk (l:List Oj)(hs:aE 1048576 (.lst 4 (l.map Oj.tr))):Sim.Spec prog 218 [tvP l] (rL 4 ((dY l).map Oj.tr)):=by
 refine aI hΓ ay func218 rfl d_ rfl ?_;have hl:=cu hs;have hP:=dG l hs;have N1:(l.map Oj.tr).length=l.length:=s_
 cases R6:aj l with
 | false=>exact V80
 | true=>
  rw[R6]at hP;have:dY l=l.map ba:=by rw[dY,d5 R6]
  rw[this];repeat' ((conv=>whnf);first|apply Wx|apply W6|apply oi|apply fi|intro h|refine cl hP ?_|exact Y6|refine e_ rfl ?_)
  conv=>whnf
  refine⟨{k:Nat//k<=l.length},fun q=>⟨[(0,vP l),(3,.r (.c (.own (10,0,0)))),(11,vP l),(12,tI .i64 ((l.map Oj.tr).length:Int)),(13,tI .i64 (q.1:Int))],[((10,0,0),some (.dar 4 (aq (((l.take q.1).map ba).map Oj.tr)) none))],[10]⟩,fun q=>l.length-q.1,⟨0,o_⟩,?_,?_⟩
  ·exact Z2
  intro⟨k,hk⟩;dsimp only at hk⊢;have QY:(aq (((l.take k).map ba).map Oj.tr)).length=k:=by rw[di,d9,d9,j5];omega
  by_cases N2:k<l.length
  ·obtain⟨x,hx⟩:=ab N2;have hsx:=bx hs (b9 hx);obtain⟨h1,h2,h3,h4,h5⟩:=dg hsx;have hF:=wb x.J5 h4 (fun y hy=>by have:=h5 y hy;omega);have hC:=vI x hsx;have SN:(x.J5.map Ou.tr).length=x.J5.length:=s_;have Uq:=zj ba l k x hx;by_cases Pp:0<x.J5.length
   ·have OA:ba x=⟨x.I6,x.J0,x.K0,mn x.J5⟩:=(by rw[ba,d5 Pp]);repeat' ((conv=>whnf);first|apply Wx|apply W6|apply oi|apply fi|intro h|refine⟨k,x.tr,rfl,aa hx,?_⟩|refine cl hC ?_|refine cl hF ?_|exact Y6|refine e_ rfl ?_)
    all_goals try exact Q16
    all_goals try exact⟨fD _⟩
    all_goals try exact Q12
    all_goals try(exfalso;have h':=n6 h;rw[SN]at h';omega)
    conv=>whnf
    refine⟨⟨k+1,o_⟩,?_,KD⟩;repeat' ((conv=>whnf);first|apply Wx|apply W6|apply oi|apply fi|intro h|exact Y9|refine e_ rfl ?_)
    all_goals(refine⟨?_⟩;dsimp only;rw[Uq,OA];simp[aq,Oj.tr])
   ·have OA:ba x=x:=(by rw[ba,c8 Pp]);repeat' ((conv=>whnf);first|apply Wx|apply W6|apply oi|apply fi|intro h|refine⟨k,x.tr,rfl,aa hx,?_⟩|refine cl hC ?_|exact Y6|refine e_ rfl ?_)
    all_goals try exact Q16
    all_goals try exact⟨fD _⟩
    all_goals try exact Q12
    all_goals try exact Q22
    conv=>whnf
    refine⟨⟨k+1,o_⟩,?_,KD⟩;repeat' ((conv=>whnf);first|apply Wx|apply W6|apply oi|apply fi|intro h|exact Y9|refine e_ rfl ?_)
    all_goals(refine⟨?_⟩;dsimp only;rw[Uq,OA];simp[aq,Oj.tr])
  ·have Pr:k=l.length:=o_;subst Pr;rw[B3];exact Z6
def EY (x:Oi):Oi:=⟨x.J6,x.J9,false,x.J3,x.L9,x.M7⟩
def lH (pend:List Nat)(i:Nat)(x:Oi):Oi:=if pend.contains i=true then EY x else x
def tp (pend:List Nat):Nat->List Oi->List Oi
 | _,[]=>[]
 | i,x::l=>lH pend i x::tp pend (i+1) l
def clr (pend:List Nat)(l:List Oi):List Oi:=tp pend 0 l
theorem Dj (pend:List Nat):∀(l:List Oi) (i:Nat),(tp pend i l).length=l.length
 | [],_=>rfl
 | x::l,i=>by rw[tp,c7,c7,Dj pend l]
theorem pM (pend:List Nat)(l:List Oi):(clr pend l).length=l.length:=Dj pend l 0
theorem Db (pend:List Nat):∀(l:List Oi) (i j:Nat),(tp pend i l)[j]?=(l[j]?).map (lH pend (i+j))
 | [],i,j=>by simp[tp]
 | x::l,i,0=>by simp[tp]
 | x::l,i,j+1=>by
  rw[tp,m5,Db pend l,m5,show i+1+j=i+(j+1) by omega]
theorem gg (pend:List Nat)(l:List Oi)(j:Nat):(clr pend l)[j]?=(l[j]?).map (lH pend j):=by rw[clr,Db,q8]
theorem vy (pend:List Nat):∀(a b:List Oi) (i:Nat),tp pend i (a++b)=tp pend i a++tp pend (i+a.length) b
 | [],b,i=>by simp[tp]
 | x::a,b,i=>by
  rw[p0,tp,tp,vy pend a b,p0,c7,show i+1+a.length=i+(a.length+1) by omega]
theorem Ki (pend:List Nat)(l:List Oi)(x:Oi):clr pend (l++[x])=clr pend l++[lH pend l.length x]:=by rw[clr,vy,q8];rfl
theorem Lq {x:Oi}(h:x.J8=false):EY x=x:=by obtain⟨a,b,c,d,e,f⟩:=x;simp only at h;subst h;rfl
theorem Me (pend:List Nat)(l:List Oi)(j:Nat)(x:Oi):clr pend (l.set j x)=(clr pend l).set j (lH pend j x):=by
 apply C2;intro i;rw[gg,F3,F3,pM,gg];by_cases h:j=i
 ·subst h;rw[d5 rfl,d5 rfl];split<;>rfl
 ·rw[c8 h,c8 h]
theorem rn (pend:List Nat)(l:List Oi)(j v:Int):clr pend (bI l j v)=bI (clr pend l) j v:=by
 unfold bI;split
 ·rw[gg]
  cases hx:l[j.toNat]? with
  | none=>rfl
  | some x=>dsimp only[Option.map_some];rw[Me];congr 1;unfold lH;split<;>rfl
 ·rfl
theorem BA (l:List Oi):clr [] l=l:=by
 apply C2;intro i;rw[gg]
 cases l[i]?<;>rfl
def Beg (b:Nat)(s:Gs):Prop:=b<=s.I4.length/\(s.start=true↔s.I4.length=b)
theorem Beg.emit {b:Nat}{s:Gs}(h:Beg b s)(C:Cx)(d code arg line:Int)(chain:List Int):Beg b (aA C s d code arg line chain):=by obtain⟨h1,h2⟩:=h;refine⟨by simp only[aA,b8,c7,e7];omega,?_⟩;simp only[aA,b8,c7,e7];exact⟨fun h=>aaC,fun h=>o_⟩
theorem Beg.off {b:Nat}{s s':Gs}(h:Beg b s)(h1:s.I4.length<s'.I4.length)(h2:s'.start=false):Beg b s':=by have:=h.1;exact⟨o_,by rw[h2];exact⟨fun h=>aaC,fun h=>o_⟩⟩
theorem oh {b:Nat}{C:Cx}(y:Sc)(chain:List Int)(line:Int):∀(n:Nat) (d:Int) (s:Gs),Beg b s->Beg b (cf C y chain line n d s)
 | 0,d,s,h=>h
 | n+1,d,s,h=>by rw[cf];exact oh y chain line n (d-1) _ (h.emit ..)
theorem qN {b:Nat}{C:Cx}(y:Sc)(chain:List Int)(line d:Int):∀(n i:Nat) (s:Gs),Beg b s->Beg b (cR C y chain line d n i s)
 | 0,i,s,h=>h
 | n+1,i,s,h=>by rw[cR];exact qN y chain line d n (i+1) _ ((h.emit ..).emit ..)
theorem yD {C:Cx}{x:Sc}{k:Nat}{last:Bool}{d:Int}{L:Ls}(h:L.g.start=false\/(x.L2=true\/last=false)):(aU C x k last d L).g.start=false:=by
 unfold aU;split
 ·split<;>rfl
 ·split
  ·rename_i h1 h2;rcases h with h|h|h
   ·exact h
   ·exact absurd h h1
   ·rw[h2]at h;cases h
  ·rfl
theorem AK {C:Cx}{rep:Sc->List Nat->Nat->Nat->Int->Gs->Gs}{x:Sc}{ins:List Nat}{base:Int}{k:Nat}{ln:Oj}{L:Ls}(h:L.g.start=false):(dq C rep x ins base k ln L).g.start=false:=by
 unfold dq;split
 ·rfl
 ·split
  ·split
   ·exact yD (.inl rfl)
   ·split
    ·rfl
    ·exact h
  ·dsimp only;split
   ·rfl
   ·split
    ·rfl
    ·split
     ·exact yD (.inr (.inr rfl))
     ·rfl
theorem IZ {C:Cx}{x:Sc}{k:Nat}{ln:Oj}{L:Ls}(h:L.g.start=false):(bc C x k ln L).g.start=false:=by unfold bc;split<;>exact h
theorem El {C:Cx}{rep:Sc->List Nat->Nat->Nat->Int->Gs->Gs}{x:Sc}{ins:List Nat}{base:Int}:∀(n k:Nat) (L:Ls),L.g.start=false->(gD C rep x ins base n k L).g.start=false
 | 0,k,L,h=>h
 | n+1,k,L,h=>by
  rw[gD];split
  ·exact El n (k+1) _ (IZ (AK h))
  ·exact h
theorem zh {C:Cx}{rep:Sc->List Nat->Nat->Nat->Int->Gs->Gs}{x:Sc}{ins:List Nat}{base:Int}{s:Gs}(h:s.start=false):(aV C rep x ins base s).1.start=false:=El _ _ _ h
theorem qS {b:Nat}{C:Cx}{x:Sc}{line:Nat}{d:Int}{s:Gs}(h:Beg b s):Beg b (bA C x line d s)/\(bA C x line d s).start=false:=by
 unfold bA;split
 ·exact⟨h.emit ..,rfl⟩
 ·rename_i hn;exact⟨h,by simpa using hn⟩
theorem DO {C:Cx}(hC:CxOk C):∀(lev:Nat) {x:Sc} {ins:List Nat} {b:Nat} (line g:Nat) (d:Int) (s:Gs),ScOk C x ins->bO C g->cw C ins g s.I4.length=true->Beg b s->Beg b (bf C lev x ins line g d s)
 | 0,x,ins,b,line,g,d,s,hx,hg,hr,h=>h
 | lev+1,x,ins,b,line,g,d,s,hx,hg,hr,h=>by
  have hy:=jR hC hx line hg
  have h1:Beg b (dB C x line g d s):=by unfold dB;exact qN _ _ _ _ _ _ _ (oh _ _ _ _ _ _ ⟨h.1,h.2⟩)
  obtain⟨h2,h3⟩:=qS (C:=C) (x:=x) (line:=line) (d:=d-argsN C.p g) h1;have hG:=je (lev:=lev) (rep:=bf C lev) (fun line g d s hg hr=>dF hC lev line g d s hy hg hr) hC hy (d-argsN C.p g) (bA C x line (d-argsN C.p g) (dB C x line g d s));have QK:=zh (C:=C) (rep:=bf C lev) (x:=bN C x line g) (ins:=ins++[g]) (base:=d-argsN C.p g) h3;show Beg b (jp C (aV C (bf C lev)) x ins line g d s);unfold jp;have hb:=h2.2;rw[h3]at hb;have Ow:(bA C x line (d-argsN C.p g) (dB C x line g d s)).I4.length≠b:=fun e=>by have:=hb.2 e;cases this
  have OH:=h2.1;have OK:=hG.ge;refine⟨by dsimp only;rw[gw];omega,?_⟩;dsimp only;rw[gw,QK];exact⟨fun h=>aaC,fun h=>o_⟩
section
variable {C:Cx} {x:Sc} {ins:List Nat} {rep:Sc->List Nat->Nat->Nat->Int->Gs->Gs} {line b:Nat}
theorem Km (N3:∀g d s,bO C g->cw C ins g s.I4.length=true->Beg b s->Beg b (rep x ins line g d s))(t:Ou)(d:Int){s:Gs}(h:Beg b s):Beg b (iB C rep x ins line t d s):=by
 unfold iB;split
 ·exact h.emit ..
 ·split
  ·exact h.emit ..
  ·split
   ·split
    ·rename_i g hg;split
     ·rename_i hr;obtain⟨_,ln,h1,h2,_⟩:=eV hg;exact N3 g d s ⟨ln,h1,h2⟩ hr h
     ·exact h.emit ..
    ·exact h
   ·exact h.emit ..
mutual
theorem JG (N3:∀g d s,bO C g->cw C ins g s.I4.length=true->Beg b s->Beg b (rep x ins line g d s)):∀(e:Ex) (d:Int) {s:Gs},Beg b s->Beg b (dx C rep x ins line e d s)
 | .node t es,d,s,h=>by
  rw[dx];exact Km N3 t _ (pO N3 es d h)
theorem pO (N3:∀g d s,bO C g->cw C ins g s.I4.length=true->Beg b s->Beg b (rep x ins line g d s)):∀(es:List Ex) (d:Int) {s:Gs},Beg b s->Beg b (cO C rep x ins line es d s)
 | [],d,s,h=>h
 | a::es,d,s,h=>by
  rw[cO];exact pO N3 es (d+1) (JG N3 a d h)
end
end
def Keep (s s':Gs):Prop:=∀(j:Nat) (it:Oi),s.I4[j]?=some it->∃Te,s'.I4[j]?=some Te/\Te.J8=it.J8
theorem Keep.refl (s:Gs):Keep s s:=fun _ it h=>⟨it,h,rfl⟩
theorem Keep.trans {a b c:Gs}(h:Keep a b)(h':Keep b c):Keep a c:=fun j it hj=>by
 obtain⟨it1,h1,e1⟩:=h j it hj;obtain⟨it2,h2,e2⟩:=h' j it1 h1;exact⟨it2,h2,e2.trans e1⟩
theorem Keep.emit (C:Cx)(s:Gs)(d code arg line:Int)(chain:List Int):Keep s (aA C s d code arg line chain):=fun j it hj=>by
 refine⟨it,?_,rfl⟩;show(s.I4++_)[j]?=_;rw[p9 (aw hj)];exact hj
theorem nW {l:List Oi}{j v:Int}{i:Nat}{it:Oi}(h:l[i]?=some it):∃Te,(bI l j v)[i]?=some Te/\Te.J8=it.J8:=by
 unfold bI;split
 ·split
  ·rename_i x hx;by_cases P5:j.toNat=i
   ·subst P5;rw[hx]at h;injection h with h;subst h;exact⟨_,u4 (aw hx),rfl⟩
   ·exact⟨it,by rw[A0 P5];exact h,rfl⟩
  ·exact⟨it,h,rfl⟩
 ·exact⟨it,h,rfl⟩
theorem od {v:Int}:∀{js:List Int} {l:List Oi} {i:Nat} {it:Oi},l[i]?=some it->∃Te,(cB l v js)[i]?=some Te/\Te.J8=it.J8
 | [],l,i,it,h=>⟨it,h,rfl⟩
 | j::js,l,i,it,h=>by
  obtain⟨it1,h1,e1⟩:=nW (j:=j) (v:=v) h;obtain⟨it2,h2,e2⟩:=od (v:=v) (js:=js) h1;exact⟨it2,by rw[cB];exact h2,e2.trans e1⟩
theorem sT {C:Cx}(y:Sc)(chain:List Int)(line:Int):∀(n:Nat) (d:Int) (s:Gs),Keep s (cf C y chain line n d s)
 | 0,d,s=>Keep.refl s
 | n+1,d,s=>by rw[cf];exact(Keep.emit C s d _ _ _ _).trans (sT y chain line n (d-1) _)
theorem va {C:Cx}(y:Sc)(chain:List Int)(line d:Int):∀(n i:Nat) (s:Gs),Keep s (cR C y chain line d n i s)
 | 0,i,s=>Keep.refl s
 | n+1,i,s=>by rw[cR];exact((Keep.emit C s d _ _ _ _).trans (Keep.emit C _ (d+1) _ _ _ _)).trans (va y chain line d n (i+1) _)
theorem uL {C:Cx}{x:Sc}(k:Nat)(last:Bool)(d:Int)(L:Ls):Keep L.g (aU C x k last d L).g:=by
 unfold aU;split
 ·split
  ·exact Keep.emit _ _ _ _ _ _ _
  ·exact Keep.emit _ _ _ _ _ _ _
 ·split
  ·exact Keep.refl _
  ·exact Keep.emit _ _ _ _ _ _ _
section
variable {C:Cx} {rep:Sc->List Nat->Nat->Nat->Int->Gs->Gs}
theorem Ix (N3:∀x ins line g d s,Keep s (rep x ins line g d s))(x:Sc)(ins:List Nat)(line:Nat)(t:Ou)(d:Int)(s:Gs):Keep s (iB C rep x ins line t d s):=by
 unfold iB;repeat' split
 all_goals first|exact Keep.emit _ _ _ _ _ _ _|exact N3 _ _ _ _ _ _|exact Keep.refl _
mutual
theorem Ag (N3:∀x ins line g d s,Keep s (rep x ins line g d s))(x:Sc)(ins:List Nat)(line:Nat):∀(e:Ex) (d:Int) (s:Gs),Keep s (dx C rep x ins line e d s)
 | .node t es,d,s=>by rw[dx];exact(ze N3 x ins line es d s).trans (Ix N3 x ins line t _ _)
theorem ze (N3:∀x ins line g d s,Keep s (rep x ins line g d s))(x:Sc)(ins:List Nat)(line:Nat):∀(es:List Ex) (d:Int) (s:Gs),Keep s (cO C rep x ins line es d s)
 | [],d,s=>Keep.refl s
 | a::es,d,s=>by rw[cO];exact(Ag N3 x ins line a d s).trans (ze N3 x ins line es (d+1) _)
end
theorem Gf (N3:∀x ins line g d s,Keep s (rep x ins line g d s))(x:Sc)(ins:List Nat)(base:Int)(k:Nat)(ln:Oj)(L:Ls):Keep L.g (dq C rep x ins base k ln L).g:=by
 unfold dq;split
 ·intro j it hj;obtain⟨it1,h1,e1⟩:=Keep.emit C L.g base 10 0 k x.I5 j it hj;obtain⟨it2,h2,e2⟩:=nW (j:=atL L.pos (aQ C.p k)) (v:=((aA C L.g base 10 0 k x.I5).I4.length:Int)) h1;exact⟨it2,h2,e2.trans e1⟩
 ·split
  ·split
   ·exact(Keep.emit C L.g base 0 0 k x.I5).trans (uL k true (base+1) {L with g:=aA C L.g base 0 0 k x.I5})
   ·split
    ·exact Keep.emit _ _ _ _ _ _ _
    ·exact Keep.refl _
  ·have Py:Keep L.g (dx C rep x ins k (exL ln.J5) base ⟨L.g.I4,L.g.J1,true⟩):=fun j it hj=>Ag N3 x ins k (exL ln.J5) base ⟨L.g.I4,L.g.J1,true⟩ j it hj;dsimp only;split
   ·exact Py.trans (Keep.emit _ _ _ _ _ _ _)
   ·split
    ·exact Py.trans (Keep.emit _ _ _ _ _ _ _)
    ·split
     ·exact Py.trans (uL k false (base+1) {L with g:=dx C rep x ins k (exL ln.J5) base ⟨L.g.I4,L.g.J1,true⟩,I9:=L.I9.set k L.g.I4.length})
     ·exact Py.trans (Keep.emit _ _ _ _ _ _ _)
theorem Gv (x:Sc)(k:Nat)(ln:Oj)(L:Ls):Keep L.g (bc C x k ln L).g:=by
 unfold bc;split
 ·exact fun j it hj=>nW hj
 ·exact Keep.refl _
theorem ub (N3:∀x ins line g d s,Keep s (rep x ins line g d s))(x:Sc)(ins:List Nat)(base:Int):∀(n k:Nat) (L:Ls),Keep L.g (gD C rep x ins base n k L).g
 | 0,k,L=>Keep.refl _
 | n+1,k,L=>by
  rw[gD];split
  ·rename_i ln _;exact((Gf N3 x ins base k ln L).trans (Gv x k ln _)).trans (ub N3 x ins base n (k+1) _)
  ·exact Keep.refl _
end
theorem zP {C:Cx}:∀(lev:Nat) (x:Sc) (ins:List Nat) (line g:Nat) (d:Int) (s:Gs),Keep s (bf C lev x ins line g d s)
 | 0,x,ins,line,g,d,s=>Keep.refl s
 | lev+1,x,ins,line,g,d,s=>by
  show Keep s (jp C (aV C (bf C lev)) x ins line g d s);unfold jp
  have h1:Keep s (dB C x line g d s):=by unfold dB;exact fun j it hj=>((sT _ _ _ _ _ _).trans (va _ _ _ _ _ _ _)) j it hj
  have h2:Keep (dB C x line g d s) (bA C x line (d-argsN C.p g) (dB C x line g d s)):=by
   unfold bA;split
   ·exact Keep.emit _ _ _ _ _ _ _
   ·exact Keep.refl _
  have h3:Keep (bA C x line (d-argsN C.p g) (dB C x line g d s)) (aV C (bf C lev) (bN C x line g) (ins++[g]) (d-argsN C.p g) (bA C x line (d-argsN C.p g) (dB C x line g d s))).1:=ub (fun x ins line g d s=>zP lev x ins line g d s) _ _ _ _ _ (cq C _);intro j it hj;obtain⟨it1,k1,e1⟩:=((h1.trans h2).trans h3) j it hj;obtain⟨it2,k2,e2⟩:=od (v:=((aV C (bf C lev) (bN C x line g) (ins++[g]) (d-argsN C.p g) (bA C x line (d-argsN C.p g) (dB C x line g d s))).1.I4.length:Int)) (js:=(aV C (bf C lev) (bN C x line g) (ins++[g]) (d-argsN C.p g) (bA C x line (d-argsN C.p g) (dB C x line g d s))).2) k1;exact⟨it2,k2,e2.trans e1⟩
def Mark (b:Nat)(s:Gs):Prop:=(s.start=true/\s.I4.length=b)\/∃it,s.I4[b]?=some it/\it.J8=true
theorem Mark.keep {b:Nat}{s s':Gs}(h:∃it,s.I4[b]?=some it/\it.J8=true)(hk:Keep s s'):∃it,s'.I4[b]?=some it/\it.J8=true:=by obtain⟨it,h1,h2⟩:=h;obtain⟨Te,h3,h4⟩:=hk b it h1;exact⟨Te,h3,h4.trans h2⟩
theorem Mark.emit {b:Nat}{s:Gs}(h:Mark b s)(C:Cx)(d code arg line:Int)(chain:List Int):Mark b (aA C s d code arg line chain):=by
 rcases h with⟨h1,h2⟩|h
 ·refine .inr ⟨lS C s d code arg line chain,?_,h1⟩;show(s.I4++[_])[b]?=_;rw[<-h2];simp
 ·exact .inr (Mark.keep h (Keep.emit _ _ _ _ _ _ _))
theorem sk {b:Nat}{C:Cx}(y:Sc)(chain:List Int)(line:Int):∀(n:Nat) (d:Int) (s:Gs),Mark b s->Mark b (cf C y chain line n d s)
 | 0,d,s,h=>h
 | n+1,d,s,h=>by rw[cf];exact sk y chain line n (d-1) _ (h.emit ..)
theorem uI {b:Nat}{C:Cx}(y:Sc)(chain:List Int)(line d:Int):∀(n i:Nat) (s:Gs),Mark b s->Mark b (cR C y chain line d n i s)
 | 0,i,s,h=>h
 | n+1,i,s,h=>by rw[cR];exact uI y chain line d n (i+1) _ ((h.emit ..).emit ..)
theorem Iw {C:Cx}:∀(lev:Nat) {b:Nat} (x:Sc) (ins:List Nat) (line g:Nat) (d:Int) (s:Gs),Mark b s->Mark b (bf C lev x ins line g d s)
 | 0,b,x,ins,line,g,d,s,h=>h
 | lev+1,b,x,ins,line,g,d,s,h=>by
  show Mark b (jp C (aV C (bf C lev)) x ins line g d s);unfold jp
  have h1:Mark b (dB C x line g d s):=by unfold dB;exact uI _ _ _ _ _ _ _ (sk _ _ _ _ _ _ h)
  have h2:∃it,(bA C x line (d-argsN C.p g) (dB C x line g d s)).I4[b]?=some it/\it.J8=true:=by
   unfold bA;split
   ·rcases Mark.emit h1 C (d-argsN C.p g) 15 0 line x.I5 with⟨k,_⟩|k
    ·cases k
    ·exact k
   ·rename_i hn;rcases h1 with⟨k,_⟩|k
    ·exact absurd k hn
    ·exact k
  have h3:=Mark.keep h2 (ub (C:=C) (rep:=bf C lev) (fun x ins line g d s=>zP lev x ins line g d s) (bN C x line g) (ins++[g]) (d-argsN C.p g) (jK C.p g-g) (g+1) (cq C _));obtain⟨it,k1,k2⟩:=h3;obtain⟨it2,k3,e2⟩:=od (v:=((aV C (bf C lev) (bN C x line g) (ins++[g]) (d-argsN C.p g) (bA C x line (d-argsN C.p g) (dB C x line g d s))).1.I4.length:Int)) (js:=(aV C (bf C lev) (bN C x line g) (ins++[g]) (d-argsN C.p g) (bA C x line (d-argsN C.p g) (dB C x line g d s))).2) k1;exact .inr ⟨it2,k3,e2.trans k2⟩
section
variable {C:Cx} {rep:Sc->List Nat->Nat->Nat->Int->Gs->Gs} {b:Nat}
theorem HY (N3:∀x ins line g d s,Mark b s->Mark b (rep x ins line g d s))(x:Sc)(ins:List Nat)(line:Nat)(t:Ou)(d:Int)(s:Gs)(h:Mark b s):Mark b (iB C rep x ins line t d s):=by
 unfold iB;repeat' split
 all_goals first|exact Mark.emit h ..|exact N3 _ _ _ _ _ _ h|exact h
mutual
theorem AM (N3:∀x ins line g d s,Mark b s->Mark b (rep x ins line g d s))(x:Sc)(ins:List Nat)(line:Nat):∀(e:Ex) (d:Int) (s:Gs),Mark b s->Mark b (dx C rep x ins line e d s)
 | .node t es,d,s,h=>by rw[dx];exact HY N3 x ins line t _ _ (yo N3 x ins line es d s h)
theorem yo (N3:∀x ins line g d s,Mark b s->Mark b (rep x ins line g d s))(x:Sc)(ins:List Nat)(line:Nat):∀(es:List Ex) (d:Int) (s:Gs),Mark b s->Mark b (cO C rep x ins line es d s)
 | [],d,s,h=>h
 | a::es,d,s,h=>by rw[cO];exact yo N3 x ins line es (d+1) _ (AM N3 x ins line a d s h)
end
end
theorem JR {C:Cx}{lev:Nat}{x:Sc}{ins:List Nat}{line g:Nat}{d:Int}{s:Gs}{b:Nat}(h:Beg b s):(bf C (lev+1) x ins line g d s).start=false:=by
 show(jp C (aV C (bf C lev)) x ins line g d s).start=false;unfold jp
 have h1:Beg b (dB C x line g d s):=by unfold dB;exact qN _ _ _ _ _ _ _ (oh _ _ _ _ _ _ ⟨h.1,h.2⟩)
 exact zh (qS (C:=C) (x:=x) (line:=line) (d:=d-argsN C.p g) h1).2
end Go.Proofs.P
namespace Go.Proofs.P
open Go.Sim Tryz
structure Ib where
 f:Int
 e:Int
 I7:List (List UInt8)
 args:Int
 first:Int
 I5:List Int
 base:Int
abbrev ibB (q:Ib)(j:Sim.Id):AO:= .box [.t (.int .i64 q.f),.t (.int .i64 q.e),.t (.lst 1 (q.I7.map ah)),.t (.int .i64 q.args),.t (.int .i64 q.first),.t (.lst 1 (q.I5.map ae)),.t (.int .i64 q.base),.own j]
abbrev yn (C:Cx)(s:Gs)(d:Int)(i1 i2:Sim.Id):AO:= .box [.t (.lst 4 (C.p.map Oj.tr)),.t (.int .i64 C.b.M5),.t (.int .i64 C.b.L4),.t (.bool C.b.N0),.t (.bool C.b.M9),.t (.bool C.L0),.t (.int .i64 C.J2),.t (.int .i64 s.J1),.own i1,.t (.int .i64 d),.own i2]
abbrev nw (ins:List Nat):List (List Tr):=ins.map fun n:Nat=>ae (n:Int)
abbrev jV (i1 i2 j:Sim.Id)(C:Cx)(pd:List Nat)(s:Gs)(d:Int)(ins:List Nat)(q:Ib)(lv:List Int):List (Sim.Id×AO):=
 [((0,0,0),yn C s d i1 i2),(i1,.dar 7 (itR (clr pd s.I4)) none),(i2,.arr false 1 (nw ins)),((0,1,0),ibB q j),(j,.arr false 1 (lv.map ae))]
abbrev ibP:AV:= .r (.c (.ptr (0,1,0) 0))
structure IbOk (C:Cx) (x:Sc) (q:Ib):Prop where
 I5:q.I5=x.I5
 first:q.first=x.first
 I7:q.I7=x.I7
 args:x.L2=true->q.args=C.args
 out:x.L2=true↔x.I5=[]
 zero:x.L2=true->x.first=0
theorem Jl {C:Cx}{pd:List Nat}{s:Gs}{d code arg line:Int}{chain:List Int}(h:s.start=true->s.I4.length∈pd):clr pd (aA C s d code arg line chain).I4=clr pd s.I4++[EY (lS C s d code arg line chain)]:=by
 show clr pd (s.I4++[_])=_;rw[Ki];congr 2;unfold lH
 cases hs:s.start with
 | true=>rw[d5 (G1.2 (h hs))]
 | false=>
  split
  ·rfl
  ·exact(Lq (by show s.start=false;exact hs)).symm
theorem bR (pd:List Nat)(l:List Oi):(itR (clr pd l)).length=l.length:=by rw[kh,pM]
theorem ca (C:Cx)(pd:List Nat)(s:Gs)(d:Int)(ins:List Nat)(q:Ib)(lv:List Int)(line code arg change:Int)(h1:bM s)(h2:q.I5.length<=100)(h3:s.start=true->s.I4.length∈pd)(h4:-2000<=d/\d<=2000)(h5:-100<=change/\change<=1000):
  bd prog 251 [dE,ibP,tI .i64 line,tI .i64 code,tI .i64 arg,tI .i64 change] (jV (0,0,1) (0,0,2) (0,1,1) C pd s d ins q lv) (.tup []) (jV (1,0,1) (0,0,2) (0,1,1) C pd (aA C s d code arg line q.I5) (d+change) ins q lv):=by
 refine au hΓ ay func251 rfl d_ rfl rfl ?_;unfold bM at h1;have N1:=bR pd s.I4;have OJ:(q.I5.map ae).length=q.I5.length:=s_;have OA:=gy q.I5;have hem:=Jl (C:=C) (pd:=pd) (s:=s) (d:=d) (code:=code) (arg:=arg) (line:=line) (chain:=q.I5) h3;repeat' ((conv=>whnf);first|apply Wx|apply W6|apply oi|apply fi|intro h|exact Y8|refine e_ rfl ?_)
 all_goals try exact Q24
 all_goals try exact Q2
 all_goals try exact⟨by simpa using OA⟩
 all_goals try exact Q18
 all_goals(refine⟨?_⟩;rw[hem,Dd];(try rw[N1]at *);congr 1;simp_all[lS,Oi.tr,EY])
theorem uV (C:Cx)(pd:List Nat)(s:Gs)(d:Int)(ins:List Nat)(q:Ib)(lv:List Int)(y:Sc)(line i:Int)(hy:y.L2=false)(hf:q.first=y.first)(h1:bM s)(h2:q.I5.length<=100)(h3:s.start=true->s.I4.length∈pd)(h4:-1000<=d/\d<=2000)(h5:0<=y.first/\y.first<=1000)(h6:-2<=i/\i<=100):
  bd prog 276 [dE,ibP,tI .i64 line,tI .i64 i] (jV (0,0,1) (0,0,2) (0,1,1) C pd s d ins q lv) (.tup []) (jV (1,0,1) (0,0,2) (0,1,1) C pd (eE C y s d i line q.I5) (d-1) ins q lv):=by
 refine au hΓ ay func276 rfl d_ rfl rfl ?_;have g1:=ca C pd s d ins q lv line (cH C true) (db C y d i) (-1) h1 h2 h3 o_ o_;have T5:mf C y i=false:=by unfold mf;rw[hy];rfl
 have VD:fP C y i=y.first+i:=by unfold fP;rw[c8 aao]
 have e1:IntKind.i64.wrap (q.first+i)=y.first+i:=by rw[hf,c6 _ o_]
 unfold eE
 cases QX:C.L0 with
 | true=>
  have e2:cH C true=2:=by unfold cH;rw[d5 QX];rfl
  have e3:db C y d i=IntKind.i64.wrap (-1-IntKind.i64.wrap (q.first+i)):=by unfold db;rw[d5 QX,c8 (by simp[T5]),VD,e1,c6 _ o_]
  rw[e2,e3]at g1;rw[e2,e3];repeat' ((conv=>whnf);first|apply Wx|apply W6|refine cg g1 ?_|apply oi|apply fi|intro h|exact Y8|refine e_ rfl ?_)
  all_goals try exact Q7
  all_goals try exact Q18
 | false=>
  have e2:cH C true=4:=by unfold cH;rw[c8 (by simp[QX])];rfl
  have e3:db C y d i=IntKind.i64.wrap (IntKind.i64.wrap (d-1)-IntKind.i64.wrap (q.first+i)):=by unfold db;rw[c8 (by simp[QX]),c8 (by simp[T5]),VD,e1];simp(disch:=omega)only[c6]
  rw[e2,e3]at g1;rw[e2,e3];repeat' ((conv=>whnf);first|apply Wx|apply W6|refine cg g1 ?_|apply oi|apply fi|intro h|exact Y8|refine e_ rfl ?_)
  all_goals try exact Q7
  all_goals try exact Q18
theorem Q4{p:Prop}(h:p:=by exact⟨congrArg (Tr.int .i64) (by(try subst ON);(try unfold cH);(try unfold db mf fP);(try simp(disch:=omega)only[c6]);simp_all<;>omega)⟩):p:=h
theorem qz (C:Cx)(hC:CxOk C)(pd:List Nat)(s:Gs)(d:Int)(ins:List Nat)(q:Ib)(lv:List Int)(x:Sc)(hq:IbOk C x q)(line i chg:Int)(store:Bool)(ON:chg=if store=true then -1 else 1)(h1:bM s)(h2:x.I5.length<=100)(h3:s.start=true->s.I4.length∈pd)(h4:-1000<=d/\d<=1999)(h5:0<=x.first/\x.first<=1000)(h6:-2<=i/\i<=100):
  bd prog 269 [dE,ibP,tI .i64 line,tI .i64 i,tB store] (jV (0,0,1) (0,0,2) (0,1,1) C pd s d ins q lv) (.tup []) (jV (1,0,1) (0,0,2) (0,1,1) C pd (aA C s d (cH C store) (db C x d i) line x.I5) (d+chg) ins q lv):=by
 refine au hΓ ay func269 rfl d_ rfl rfl ?_;obtain⟨a1,a2⟩:=hC.args;obtain⟨qf,qe,ql,qa,qi,qc,qb⟩:=q;obtain⟨xf,xc,xl,xi,xo⟩:=x;obtain⟨q1,q2,q3,q4,q5,q6⟩:=hq;dsimp only at q1 q2 q3 q4 q5 q6 h2 h5;subst q1;subst q2;subst q3;have g1:=ca C pd s d ins ⟨qf,qe,ql,qa,qi,qc,qb⟩ lv line (cH C store) (db C ⟨xf,qc,ql,qi,xo⟩ d i) chg h1 h2 h3 o_ (by subst ON;split<;>omega)
 cases xo with
 | true=>
  have e1:qc=[]:=q5.1 rfl;have e2:=q4 rfl;have e3:=q6 rfl;subst e1;subst e2;subst e3
  cases store
  all_goals cases QX:C.L0
  all_goals skip
  ·repeat' ((conv=>whnf);first|apply Wx|apply W6|refine cg g1 ?_|apply oi|apply fi|intro h|exact Y8|refine e_ rfl ?_)
   all_goals try exact Q7
   all_goals try exact K2
   all_goals try exact Q4
  ·repeat' ((conv=>whnf);first|apply Wx|apply W6|refine cg g1 ?_|apply oi|apply fi|intro h|exact Y8|refine e_ rfl ?_)
   all_goals try exact Q7
   all_goals try exact K2
   all_goals try exact Q4
  ·repeat' ((conv=>whnf);first|apply Wx|apply W6|refine cg g1 ?_|apply oi|apply fi|intro h|exact Y8|refine e_ rfl ?_)
   all_goals try exact Q7
   all_goals try exact K2
   all_goals try exact Q4
  ·repeat' ((conv=>whnf);first|apply Wx|apply W6|refine cg g1 ?_|apply oi|apply fi|intro h|exact Y8|refine e_ rfl ?_)
   all_goals try exact Q7
   all_goals try exact K2
   all_goals try exact Q4
 | false=>
  have Ow:qc≠[]:=fun e=>by have:=q5.2 e;cases this
  obtain⟨c,cs,rfl⟩:∃c cs,qc=c::cs:=by cases qc with|nil=>exact absurd rfl Ow|cons c cs=>exact⟨c,cs,rfl⟩
  have OJ:(((c::cs).map ae).length:Int)=(cs.length:Int)+1:=s_
  cases store
  all_goals cases QX:C.L0
  all_goals skip
  ·repeat' ((conv=>whnf);first|apply Wx|apply W6|refine cg g1 ?_|apply oi|apply fi|intro h|exact Y8|refine e_ rfl ?_)
   all_goals try exact Q7
   all_goals try exact K2
   all_goals try exact Q4
  ·repeat' ((conv=>whnf);first|apply Wx|apply W6|refine cg g1 ?_|apply oi|apply fi|intro h|exact Y8|refine e_ rfl ?_)
   all_goals try exact Q7
   all_goals try exact K2
   all_goals try exact Q4
  ·repeat' ((conv=>whnf);first|apply Wx|apply W6|refine cg g1 ?_|apply oi|apply fi|intro h|exact Y8|refine e_ rfl ?_)
   all_goals try exact Q7
   all_goals try exact K2
   all_goals try exact Q4
  ·repeat' ((conv=>whnf);first|apply Wx|apply W6|refine cg g1 ?_|apply oi|apply fi|intro h|exact Y8|refine e_ rfl ?_)
   all_goals try exact Q7
   all_goals try exact K2
   all_goals try exact Q4
theorem V30{p:Prop}(h:p:=by
 rw[e]
 cases last
 all_goals skip
 ·repeat' ((conv=>whnf);first|apply Wx|apply W6|refine cg g1 ?_|apply oi|apply fi|intro h|exact Y9|refine e_ rfl ?_)
  all_goals try exact Q7
 ·repeat' ((conv=>whnf);first|apply Wx|apply W6|refine cg g1 ?_|apply oi|apply fi|intro h|exact Y9|refine e_ rfl ?_)
  all_goals try(exfalso;rw[QX]at h;cases h;done)):p:=h
theorem rY (C:Cx)(hC:CxOk C)(pd:List Nat)(s:Gs)(d:Int)(ins:List Nat)(q:Ib)(lv:List Int)(x:Sc)(hq:IbOk C x q)(k:Nat)(last:Bool)(h1:bM s)(h2:x.I5.length<=100)(h3:s.start=true->s.I4.length∈pd)(h4:-1000<=d/\d<=1999)(RG:lv.length<=68719476736)(hd p:List Int):
  bd prog 270 [dE,ibP,tI .i64 (k:Int),tB last] (jV (0,0,1) (0,0,2) (0,1,1) C pd s d ins q lv) (.tup []) (jV (1,0,1) (0,0,2) (1,1,1) C pd (aU C x k last d ⟨s,hd,p,lv⟩).g (if x.L2=false/\last=true then d else d-1) ins q (aU C x k last d ⟨s,hd,p,lv⟩).lv):=by
 refine au hΓ ay func270 rfl d_ rfl rfl ?_;obtain⟨a1,a2⟩:=hC.args;obtain⟨a3,a4⟩:=hC.J2;obtain⟨qf,qe,ql,qa,qi,qc,qb⟩:=q;obtain⟨xf,xc,xl,xi,xo⟩:=x;obtain⟨q1,q2,q3,q4,q5,q6⟩:=hq;dsimp only at q1 q2 q3 q4 q5 q6 h2;subst q1;subst q2;subst q3;have N1:=bR pd s.I4;have PO:(lv.map ae).length=lv.length:=s_
 cases xo with
 | true=>
  have e1:qc=[]:=q5.1 rfl;have e2:=q4 rfl;subst e1;subst e2;rw[c8 s_];have e4:IntKind.i64.wrap (C.args+IntKind.i64.wrap (16*C.J2))=C.args+16*C.J2:=by simp(disch:=omega)only[c6]
  cases QX:C.L0 with
  | true=>
   have g1:=ca C pd s d ins ⟨qf,qe,ql,C.args,qi,[],qb⟩ lv k 14 C.args (-1) h1 h2 h3 o_ o_;have e:aU C ⟨xf,[],ql,qi,true⟩ k last d ⟨s,hd,p,lv⟩=⟨aA C s d 14 C.args k [],hd,p,lv⟩:=by simp[aU,QX]
   exact V30
  | false=>
   have g1:=ca C pd s d ins ⟨qf,qe,ql,C.args,qi,[],qb⟩ lv k 16 (C.args+16*C.J2) (-1) h1 h2 h3 o_ o_;have e:aU C ⟨xf,[],ql,qi,true⟩ k last d ⟨s,hd,p,lv⟩=⟨aA C s d 16 (IntKind.i64.wrap (C.args+IntKind.i64.wrap (16*C.J2))) k [],hd,p,lv⟩:=(by simp[aU,QX,e4]);rw[<-e4]at g1
   exact V30
 | false=>
  have Ow:qc≠[]:=fun e=>by have:=q5.2 e;cases this
  obtain⟨c,cs,rfl⟩:∃c cs,qc=c::cs:=by cases qc with|nil=>exact absurd rfl Ow|cons c cs=>exact⟨c,cs,rfl⟩
  have OJ:(((c::cs).map ae).length:Int)=(cs.length:Int)+1:=s_
  cases last with
  | true=>
   have e:aU C ⟨xf,c::cs,ql,qi,false⟩ k true d ⟨s,hd,p,lv⟩=⟨s,hd,p,lv⟩:=(by simp[aU]);rw[e,d5 ⟨rfl,rfl⟩]
   repeat' ((conv=>whnf);first|apply Wx|apply W6|apply oi|apply fi|intro h|exact Y19|refine e_ rfl ?_)
  | false=>
   have e:aU C ⟨xf,c::cs,ql,qi,false⟩ k false d ⟨s,hd,p,lv⟩=⟨aA C s d 10 0 k (c::cs),hd,p,lv++[(s.I4.length:Int)]⟩:=(by simp[aU]);rw[e,c8 s_];have g1:=ca C pd s d ins ⟨qf,qe,ql,qa,qi,c::cs,qb⟩ (lv++[(s.I4.length:Int)]) k 10 0 (-1) h1 h2 h3 o_ o_;have Rw:lv.map ae++[[Tr.int .i64 ((itR (clr pd s.I4)).length:Int)]]=(lv++[(s.I4.length:Int)]).map ae:=(by rw[N1];simp[ae]);repeat' ((conv=>whnf);first|apply Wx|apply W6|refine cg g1 ?_|apply oi|apply fi|intro h|exact Y9|refine e_ rfl ?_)
   all_goals try exact⟨⟨by rw[PO];(try dsimp only);simp only[c7,e7];omega,by rw[PO];(try dsimp only);simp only[c7,e7];omega⟩⟩
   all_goals try exact⟨Rw⟩
   all_goals try exact KN
abbrev Mz (i1 i2:Sim.Id)(C:Cx)(pd:List Nat)(s:Gs)(d:Int)(ins:List Nat):List (Sim.Id×AO):=[((0,0,0),yn C s d i1 i2),(i1,.dar 7 (itR (clr pd s.I4)) none),(i2,.arr false 1 (nw ins))]
theorem AQ {g:Nat}:∀{l:List Oj} {i j:Nat} {x:Oj},i<=g->l[g-i]?=some x->x.I6=0->lM ((funsF l i).map fun n:Nat=>(n:Int)) j (g:Int)=some (j+((l.take (g-i)).filter fun x=>x.I6==0).length)
 | [],i,j,x,h,hx,_=>by simp at hx
 | y::l,i,j,x,h,hx,h0=>by
  rw[funsF];by_cases S9:g=i
  ·subst S9;rw[y7,i8]at hx;injection hx with hx;subst hx;rw[d5 h0,ne,n9,p0,lM,d5 s_,y7];simp
  ·have hs:g-i=(g-(i+1))+1:=o_;rw[hs,m5]at hx;have ih:=fun j=>AQ (g:=g) (l:=l) (i:=i+1) (j:=j) o_ hx h0;rw[hs,r8];by_cases hy:y.I6=0
   ·rw[d5 hy,ne,n9,A4,p0,p8,lM,c8 aab,ih,B2,d5 aao,c7];congr 1;omega
   ·rw[c8 hy,p8,ih,B2,c8 aao]
theorem JQ {C:Cx}{g:Nat}(hg:bO C g):dJ ((az C.p).map fun n:Nat=>(n:Int)) (g:Int)=(nQ C.p g:Int):=by obtain⟨x,hx,h0⟩:=hg;have:=AQ (l:=C.p) (i:=0) (j:=0) (x:=x) (v4 g) (by simpa using hx) h0;unfold dJ az;rw[this];simp[cX,nQ]
theorem vW (C:Cx)(hC:CxOk C)(pd:List Nat)(s:Gs)(d:Int)(ins:List Nat)(g:Nat)(hg:bO C g):
  bd prog 275 [dE,tI .i64 (g:Int)] (Mz (0,0,1) (0,0,2) C pd s d ins) (tI .i64 (nQ C.p g:Int)) (Mz (0,0,1) (0,0,2) C pd s d ins):=by
 refine au hΓ ay func275 rfl d_ rfl rfl ?_;have PW:=hC.len;have gF:=cy C.p o_;have OA:=pH C.p 0;have gI:=nS ((az C.p).map fun n:Nat=>(n:Int)) (g:Int) (by unfold az;rw[d9];omega);rw[JQ hg,E3]at gI;repeat' ((conv=>whnf);first|apply Wx|apply W6|apply oi|apply fi|intro h|refine cl gF ?_|refine cl gI ?_|exact Y8|refine e_ rfl ?_)
theorem KG (ins:List Nat)(g:Nat):(ins.map fun n:Nat=>(n:Int)).contains (g:Int)=ins.contains g:=by
 induction ins with
 | nil=>rfl
 | cons a l ih=>rw[n9,B4,B4,ih];congr 1;rw[u7];simp;omega
theorem vH (C:Cx)(hC:CxOk C)(pd:List Nat)(s:Gs)(d:Int)(ins:List Nat)(q:Ib)(lv:List Int)(g:Nat)(h1:bM s)(hS:q.I5.length+1=ins.length)(hi:ins.length<=100)(hg:g<C.p.length):
  bd prog 273 [dE,ibP,tI .i64 (g:Int)] (jV (0,0,1) (0,0,2) (0,1,1) C pd s d ins q lv) (tB (cw C ins g s.I4.length)) (jV (0,0,1) (0,0,2) (0,1,1) C pd s d ins q lv):=by
 refine au hΓ ay func273 rfl d_ rfl rfl ?_;unfold bM at h1;have N1:=bR pd s.I4;have PW:=hC.len;have hin:=hC.inl;have hE:=dC C.p (g:Int) o_;have gC:=kC (ins.map fun n:Nat=>(n:Int)) (g:Int) (by rw[d9];omega);rw[KG,E3]at gC;have PP:=pq C.p g;have hql:((q.I5.map ae).length:Int)=(ins.length:Int)-1:=by rw[d9];omega
 have QQ:IntKind.i64.wrap (bB C.p (g:Int)-(g:Int))=bB C.p (g:Int)-g:=by rw[c6 _ o_]
 have hr:cw C ins g s.I4.length=(decide ((ins.length:Int)<=C.b.L4)&&(decide (bB C.p (g:Int)-g<=9)&&(decide (s.I4.length<200)&&!ins.contains g))):=rfl;rw[hr]
 generalize bB C.p (g:Int)=eg at *
 cases Vs:ins.contains g with
 | true=>
  rw[Vs]at gC;repeat' ((conv=>whnf);first|apply Wx|apply W6|apply oi|apply fi|intro h|refine cl gC ?_|refine cl hE ?_|exact Y8|refine e_ rfl ?_)
  all_goals exact⟨s_⟩
 | false=>
  rw[Vs]at gC;repeat' ((conv=>whnf);first|apply Wx|apply W6|apply oi|apply fi|intro h|refine cl gC ?_|refine cl hE ?_|exact Y8|refine e_ rfl ?_)
  all_goals(refine⟨congrArg Tr.bool ?_⟩;(try rw[N1]);rw[u7];simp only[c9,j7,H4,and_true,w8];clear hr Vs gC hE;simp only[QQ,hql,j7,n7]at *;first|omega|exact iff_of_false id o_)
structure IRm (C:Cx) (lev n:Nat) (x:Sc) (q:Ib) (ins pd:List Nat) (b:Nat) (s:Gs) (d:Int):Prop where
 sc:ScOk C x ins
 ib:IbOk C x q
 rm:Rm C lev n (ins.length-1) s d
 beg:Beg b s
 mem:b∈pd
 le:∀i∈pd,i<=b
def Na (C:Cx)(lev:Nat):Prop:=∀(e:Ex) (x:Sc) (q:Ib) (ins pd:List Nat) (lv:List Int) (k p b:Nat) (ln:Oj) (s:Gs) (d:Int),e.ok->C.p[k]?=some ln->ik ln.J5 p e->py C ln.J5->IRm C lev e.toks.length x q ins pd b s d->
 bd prog 268 [dE,ibP,tI .i64 (k:Int),.r (.c (.t (.lst 3 (ln.J5.map Ou.tr)))),tI .i64 (p:Int),tI .i64 (b:Int)] (jV (0,0,1) (0,0,2) (0,1,1) C pd s d ins q lv) (.tup []) (jV (1,0,1) (1,0,2) (0,1,1) C pd (dx C (bf C lev) x ins k e d s) (d+1) ins q lv)
def Ez (C:Cx)(lev:Nat):Prop:=∀(x:Sc) (q:Ib) (ins pd:List Nat) (lv:List Int) (k g b:Nat) (s:Gs) (d:Int),k<C.p.length->bO C g->cw C ins g s.I4.length=true->IRm C lev 1 x q ins pd b s (d-argsN C.p g)->
 bd prog 274 [dE,ibP,tI .i64 (k:Int),tI .i64 (g:Int),tI .i64 (b:Int)] (jV (0,0,1) (0,0,2) (0,1,1) C pd s d ins q lv) (.tup []) (jV (1,0,1) (1,0,2) (0,1,1) C pd (bf C lev x ins k g d s) (d-argsN C.p g+1) ins q lv)
theorem Bb {C:Cx}(hC:CxOk C){lev:Nat}(hR:Ez C lev):∀(n:Nat) (e:Ex),e.toks.length<=n->∀(x:Sc) (q:Ib) (ins pd:List Nat) (lv:List Int) (k p b:Nat) (ln:Oj) (s:Gs) (d:Int),e.ok->C.p[k]?=some ln->ik ln.J5 p e->py C ln.J5->IRm C lev e.toks.length x q ins pd b s d->
  bd prog 268 [dE,ibP,tI .i64 (k:Int),.r (.c (.t (.lst 3 (ln.J5.map Ou.tr)))),tI .i64 (p:Int),tI .i64 (b:Int)] (jV (0,0,1) (0,0,2) (0,1,1) C pd s d ins q lv) (.tup []) (jV (1,0,1) (1,0,2) (0,1,1) C pd (dx C (bf C lev) x ins k e d s) (d+1) ins q lv)
 | 0,e,hn,_,_,_,_,_,_,_,_,_,_,_,_,_,_,_,_=>by have:=e.toks_pos;omega
 | n+1,.node t es,hn,x,q,ins,pd,lv,k,p,b,ln,s,d,ho,hk,hs,hca,hr=>by
  refine au hΓ ay func268 rfl d_ rfl rfl ?_;obtain⟨hx,hq,VH,X7,VP,Tq⟩:=hr;obtain⟨RX,Pm⟩:=mP hC hk;have OH:=gz hs;obtain⟨ht,RL⟩:=iO hs;obtain⟨e1,e2⟩:=rD ho.1;have Pq:es.length=ar t:=ho.2.1;have PW:=hC.len;have Py:=(hC.line _ _ hk).2.2.2.1;have Ps:=VH.room;have Pf:=VH.depth;have Zx:=VH.low;have Yz:=VH.high;have hin:=hC.inl;have WP:=hx.I5;have htp:=wM lev;have hO:=nK ln.J5 p t es o_ RX ho hs;have Pw:((ig (p+1) es).map nR).length=es.length:=by rw[d9,th]
  rw[Ex.toks,c7]at hn OH Ps Yz;rw[dx];have SO:∀g d s,bO C g->cw C ins g s.I4.length=true->Grow (cE lev) s (bf C lev x ins k g d s):=fun g d s hg hr=>dF hC lev k g d s hx hg hr;have Wt:∀g d s,bO C g->cw C ins g s.I4.length=true->Beg b s->Beg b (bf C lev x ins k g d s):=fun g d s hg hr hb=>DO hC lev k g d s hx hg hr hb;repeat' ((conv=>whnf);first|apply Wx|apply W6|apply oi|apply fi|intro h|refine⟨p,t.tr,rfl,aa ht,?_⟩|refine cl hO ?_|exact Y8|refine e_ rfl ?_)
  conv=>whnf
  refine⟨{j:Nat//j<=es.length},fun r=>⟨[(0,dE),(1,ibP),(2,tI .i64 (k:Int)),(3,.r (.c (.t (.lst 3 (ln.J5.map Ou.tr))))),(4,tI .i64 (p:Int)),(5,tI .i64 (b:Int)),(12,.r (.c (.ptr (12,0,0) 0))),(23,.r (.c (.own (23,0,0)))),(24,tI .i64 (((ig (p+1) es).map nR).length:Int)),(25,tI .i64 (r.1:Int))],
   [(
    (0,0,0),some (yn C (cO C (bf C lev) x ins k (es.take r.1) d s) (d+r.1) (12,0,1) (12,0,2))),((12,0,1),some (.dar 7 (itR (clr pd (cO C (bf C lev) x ins k (es.take r.1) d s).I4)) none)),((12,0,2),some (.arr false 1 (nw ins))),
    ((0,1,0),some (ibB q (0,1,1))),((0,1,1),some (.arr false 1 (lv.map ae))),((12,0,0),some (.box (t.tr.map .t))),((23,0,0),some (.arr true 1 ((ig (p+1) es).map nR)))],[23,12,0]⟩,fun r=>es.length-r.1,⟨0,o_⟩,?_,?_⟩
  ·exact Z5
  intro⟨j,hj⟩;dsimp only at hj⊢;have Uu:=mU (C:=C) (x:=x) (ins:=ins) (line:=k) (lev:=lev) SO (es.take j) d s;have UQ:=Uu.le;have OX:=pO (C:=C) (x:=x) (ins:=ins) (line:=k) (rep:=bf C lev) Wt (es.take j) d X7;have Uq:=dL es j;obtain⟨s1,P6⟩:∃s1,cO C (bf C lev) x ins k (es.take j) d s=s1:=⟨_,rfl⟩;rw[P6]at Uu UQ OX⊢;have TL:s1.start=true->s1.I4.length∈pd:=fun h=>by rw[OX.2.1 h];exact VP
  by_cases Vo:j<es.length
  ·obtain⟨a,ha⟩:=ab Vo;obtain⟨o,X0,Zo⟩:=wv RL ha;have hta:=jF ha;have Yi:=dL es (j+1);have OC:=kH ha
   have XD:j<=(ao (es.take j)).length:=by exact V63
   have hm:=l8 (cE lev) (show(ao (es.take j)).length+a.toks.length<=(ao es).length+1 by omega);rw[o8]at hm;have hI:=Bb hC hR n a o_ x q ins pd lv k o b ln s1 (d+j) (mz ho.2.2 ha) hk Zo hca ⟨hx,hq,⟨o_,Pf,o_,o_⟩,OX,VP,Tq⟩;have OS:=rj C (bf C lev) x ins k d s ha;rw[P6]at OS;have Pg:j<((ig (p+1) es).map nR).length:=(by rw[Pw];exact Vo);repeat' ((conv=>whnf);first|apply Wx|apply W6|apply oi|apply fi|intro h|refine⟨j,rfl,Pg,?_⟩|refine⟨(nR o),(aa X0),?_⟩|exact Y6|refine e_ rfl ?_)
   refine cg (hI) ?_;repeat' ((conv=>whnf);first|apply Wx|apply W6|apply oi|apply fi|intro h|exact Y8|refine e_ rfl ?_)
   conv=>whnf
   refine⟨⟨j+1,o_⟩,?_,KD⟩;repeat' ((conv=>whnf);first|apply Wx|apply W6|apply oi|apply fi|intro h|exact Y8|refine e_ rfl ?_)
   all_goals try exact⟨by dsimp only;rw[OS]⟩
   all_goals try exact Q18
  ·have RF:j=es.length:=o_;subst RF;rw[B3]at P6 UQ Uq
   have OW:s1.I4.length+cE lev<=68719476736:=by have:((ao es).length+1)*cE lev=(ao es).length*cE lev+cE lev:=(by rw[o8];omega);omega
   rw[P6];have ON:x.I5.length<=100:=o_;have Rr:q.I5.length<=100:=(by rw[hq.I5];exact ON);have PY:bM s1:=(by unfold bM;omega);obtain⟨k1,k2,k3⟩:=HK ho.1;have Vy:=RX t (b9 ht)
   have Sl:0<=x.first/\x.first<=1000:=by have:=hx.first;omega
   obtain⟨ee,_,_,_,_,PO⟩:=hx.endE hC;rcases Ai ho.1 with O6|Pk|Rl|UA
   ·have g1:=ca C pd s1 (d+es.length) ins q lv k 0 t.L3 1 PY Rr TL o_ o_;rw[hq.I5]at g1;exact V90
   ·have g1:=qz C hC pd s1 (d+es.length) ins q lv x hq k (dJ x.I7 t.J0) 1 false rfl PY ON TL o_ Sl (by have:=mr x.I7 t.J0;omega);have gI:=jJ x.I7 t.J0 o_;rw[<-hq.I7]at gI g1;have hz:=k1 (.inr Pk);unfold iB Hs;rw[c8 o_,d5 Pk,<-hq.I7]
    generalize dJ q.I7 t.J0=ix at *
    exact V115
   ·obtain⟨f,hf,WL⟩:=hca t (b9 ht) Rl;obtain⟨OA,y,hy,PR,_⟩:=eV hf;have TN:bO C f:=⟨y,hy,PR⟩;have R8:=k2 Rl;have gF:=fS C.p t.J0 o_;rw[show fY C.p t.J0=(f:Int) from br hf]at gF;have g1:=vH C hC pd s1 (d+es.length) ins q lv f PY (by rw[hq.I5];exact WP) o_ OA;unfold iB;rw[c8 o_,c8 o_,d5 Rl,hf];dsimp only
    cases RB:cw C ins f s1.I4.length with
    | true=>
     have g2:=hR x q ins pd lv k f b s1 (d+es.length) (aw hk) TN RB ⟨hx,hq,⟨o_,Pf,o_,o_⟩,OX,VP,Tq⟩
     exact V84
    | false=>rw[RB]at g1;rw[c8 s_];have g2:=vW C hC pd s1 (d+es.length) ins f TN;have g3:=ca C pd s1 (d+es.length) ins q lv k 12 (nQ C.p f) (1-t.L3) PY Rr TL o_ o_;have PJ:IntKind.i64.wrap (1-t.L3)=1-t.L3:=(by rw[c6 _ o_]);rw[<-PJ,hq.I5]at g3;repeat' ((conv=>whnf);first|apply Wx|apply W6|refine cg g1 ?_|refine cg g2 ?_|refine cg g3 ?_|apply oi|apply fi|intro h|refine cl gF ?_|exact Y10|refine e_ rfl ?_)
   ·have g1:=ca C pd s1 (d+es.length) ins q lv k (5+t.I6-2) 0 (-1) PY Rr TL o_ o_;rw[hq.I5]at g1;exact V40
end Go.Proofs.P
