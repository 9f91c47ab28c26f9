import Derived.Test.YtjmplnfiabmalaaGreatGg
namespace Go.Proofs.YtjmplnfiabmalaaGreat
open Go.Sim
set_option maxRecDepth 100000
set_option maxHeartbeats 4000000
def bY:Int→List HG→List Int
 | at0,[]=>[at0]
 | at0,x::l=>at0::bY (at0+aN x.fae.fab) l
def sG (at0:Int)(l:List HG):Int:=atL (bY at0 l) l.length
def tA (x:HG)(a:Int):HG:=⟨⟨x.fae.fab,a⟩,x.fam,x.fah,x.fap,x.faq,x.fat⟩
def mv (x:HG):Bool:=x.fae.fab==10 || x.fae.fab==11
def ez (st:List Int)(k:Nat)(x:HG):HG:=if mv x=true then tA x (atL st x.fae.fak.toNat - atL st (k+1))else x
def nj (st:List Int):Nat→List HG→List HK
 | _,[]=>[]
 | k,x::l=>⟨atL st k,ez st k x⟩::nj st (k+1) l
def cP (l:List HG)(at0:Int):List HK:=nj (bY at0 l) 0 l
theorem mN:∀(at0:Int) (l:List HG),(bY at0 l).length=l.length+1
 | _,[]=>rfl
 | at0,x::l=>by rw[bY,List.length_cons,mN,List.length_cons]
theorem fY (at0:Int)(l:List HG):atL (bY at0 l) 0=at0:=by cases l <;> rfl
theorem vI (a:Int)(l:List Int)(k:Nat):atL (a::l) (k+1)=atL l k:=by simp[atL]
theorem eH:∀{at0:Int} {l:List HG} {k:Nat} {x:HG},l[k]?=some x→atL (bY at0 l) (k+1)=atL (bY at0 l) k+aN x.fae.fab
 | _,[],_,_,h=>by simp at h
 | at0,y::l,0,x,h=>by
  rw[List.getElem?_cons_zero]at h
  injection h with h
  subst h
  rw[bY,vI,fY]
  rfl
 | at0,y::l,k+1,x,h=>by
  rw[List.getElem?_cons_succ]at h
  rw[bY,vI,vI,eH h]
theorem fq {at0:Int}{l:List HG}:∀{k:Nat},k≤l.length→at0≤atL (bY at0 l) k∧atL (bY at0 l) k≤at0+5 * k
 | 0,_=>by rw[fY];omega
 | k+1,h=>by
  obtain⟨x,hx⟩:=ae (l:=l) (k:=k) (by omega)
  have:=fq (at0:=at0) (l:=l) (k:=k) (by omega)
  have:=gl x.fae.fab
  rw[eH hx]
  omega
theorem mW {l:List Int}{k:Nat}(h:k < l.length):l[k]?=some (atL l k):=by
 obtain⟨x,hx⟩:=ae h
 rw[atL,hx];rfl
theorem cr {α:Type}{l:List α}{k:Nat}{x:α}(h:l[k]?=some x):l.take (k+1)=l.take k++[x]:=by
 rw[List.take_add_one,h];rfl
theorem rP (st:List Int):∀(k:Nat) (l:List HG),(nj st k l).length=l.length
 | _,[]=>rfl
 | k,x::l=>by rw[nj,List.length_cons,rP,List.length_cons]
theorem sm (st:List Int):∀{l:List HG} {j k:Nat} {x:HG},l[j]?=some x→(nj st k l)[j]?=some ⟨atL st (k+j),ez st (k+j) x⟩
 | [],_,_,_,h=>by simp at h
 | y::l,0,k,x,h=>by
  rw[List.getElem?_cons_zero]at h
  injection h with h
  subst h
  rfl
 | y::l,j+1,k,x,h=>by
  rw[List.getElem?_cons_succ]at h
  rw[nj,List.getElem?_cons_succ,sm st h,show k+1+j=k+(j+1) by omega]
theorem dv (l:List HG)(at0:Int):(cP l at0).length=l.length:=rP _ _ _
theorem eB {l:List HG}{at0:Int}{j:Nat}{x:HG}(h:l[j]?=some x):(cP l at0)[j]?=some ⟨atL (bY at0 l) j,ez (bY at0 l) j x⟩:=by
 have:=sm (bY at0 l) (k:=0) h
 rwa [Nat.zero_add]at this
def xD (l:List HG):Prop:=∀x∈l,mv x=true→0≤x.fae.fak∧x.fae.fak≤l.length
theorem fv {x:HG}:mv x=true↔x.fae.fab=10∨x.fae.fab=11:=by simp[mv]
def mi (b:Hz)(image:Int)(f:Nat):Bool:=if b.fas=true then(f:Int) % 2==image else image==0
noncomputable def bZ (p:List HH) (b:Hz) (image:Int):Nat→Nat→Int→List (Nat×List HK)
 | 0,_,_=>[]
 | n+1,f,at0=>if mi b image f=true then(f,cP (aL p f b) at0)::bZ p b image n (f+1) (sG at0 (aL p f b))else bZ p b image n (f+1) at0
noncomputable def fP (p:List HH) (b:Hz) (image:Int):List HK:=
 if aw p=true∧aJ b=true∧af image 0 1=true then((bZ p b image (ak p).length 0 0).map Prod.snd).flatten else []
structure FnOk (p:List HH) (b:Hz) (f:Nat):Prop where
 pos:0 < (aL p f b).length
 len:(aL p f b).length≤2500
 jmp:xD (aL p f b)
theorem InvI.jumps {C:Cx}{g:Nat}{l:List HG}(h:InvI C g l):0 < l.length∧xD l:=by
 obtain⟨a,t,rfl,h2,h3⟩:=h
 refine⟨by simp,fun x hx hj=>?_⟩
 rw[fv]at hj
 rcases List.mem_cons.1 hx with rfl|hx
 ·have:=h2.1;omega
 ·exact(h3 x hx).jump hj
theorem Er {p:List HH}{b:Hz}(hs:aB 1048576 (.lst 4 (p.map HH.tr)))(h1:aw p=true)(h2:aJ b=true){f:Nat}(h:f < (ak p).length):FnOk p b f:=by
 obtain⟨g,C,_,_,_,_,hi⟩:=pF (f:=(f:Int)) hs h1 h2 (by omega) (by omega)
 exact⟨hi.jumps.1,(fV hs).1,hi.jumps.2⟩
theorem dU {p:List HH}(h1:aw p=true):(ak p).length≤6∧p.length≤60:=by
 rw[rJ]at h1
 simp only[Bool.and_eq_true,decide_eq_true_eq]at h1
 exact⟨h1.2.1,h1.1⟩
theorem yG {l:List HG}{at0:Int}(h:0 < l.length):∃x:HK,(cP l at0)[l.length - 1]?=some x∧x.fao+aN x.fai.fae.fab=sG at0 l∧at0≤x.fao∧x.fao≤at0+5 * l.length:=by
 obtain⟨y,hy⟩:=ae (l:=l) (k:=l.length - 1) (by omega)
 refine⟨_,eB hy,?_,?_⟩
 ·have h1:=eH (at0:=at0) hy
  have hc:(ez (bY at0 l) (l.length - 1) y).fae.fab=y.fae.fab:=by unfold ez;split <;> rfl
  rw[hc,←h1,sG]
  congr 1;omega
 ·have:=fq (at0:=at0) (l:=l) (k:=l.length - 1) (by omega)
  dsimp only;omega
theorem Cb {l:List HG}{at0:Int}:at0≤sG at0 l∧sG at0 l≤at0+5 * l.length:=fq (Nat.le_refl _)
theorem kH {p:List HH}{b:Hz}{image:Int}{n f:Nat}{at0:Int}:bZ p b image (n+1) f at0=if mi b image f=true then(f,cP (aL p f b) at0)::bZ p b image n (f+1) (sG at0 (aL p f b))else bZ p b image n (f+1) at0:=rfl
abbrev GB (p:List HH)(b:Hz)(image:Int):={q:Nat×Int×List (Nat×List HK) // q.1≤(ak p).length∧(0≤q.2.1∧q.2.1≤12500 * q.1)∧q.2.2.length≤q.1∧q.2.2++bZ p b image ((ak p).length - q.1) q.1 q.2.1=bZ p b image (ak p).length 0 0}
def eh (L:List (Nat×List HK)):List (List Tr):=L.map fun x=>aa (x.1:Int)
def dz (L:List (Nat×List HK)):List (List Tr):=L.map fun x=>[.lst 8 (x.2.map HK.tr)]
theorem jc (p:List HH)(b:Hz)(image:Int):∀(n f:Nat) (at0:Int),(bZ p b image n f at0).length≤n
 | 0,_,_=>Nat.le_refl _
 | n+1,f,at0=>by
  rw[bZ]
  split
  ·have:=jc p b image n (f+1) (sG at0 (aL p f b));rw[List.length_cons];omega
  ·have:=jc p b image n (f+1) at0;omega
theorem jf {p:List HH}{b:Hz}(hs:aB 1048576 (.lst 4 (p.map HH.tr))){image:Int}:∀{n f:Nat} {at0:Int} {x:Nat×List HK},x∈bZ p b image n f at0→x.2.length≤2500∧∀y∈x.2,y.fai.fap.length≤4
 | 0,_,_,_,h=>by cases h
 | n+1,f,at0,x,h=>by
  rw[bZ]at h
  split at h
  ·rcases List.mem_cons.1 h with rfl|h
   ·obtain⟨c1,c2⟩:=fV (p:=p) (f:=(f:Int)) (b:=b) hs
    refine⟨by rw[dv];exact c1,fun y hy=>?_⟩
    obtain⟨j,hj⟩:=List.getElem?_of_mem hy
    have hjl:=aM hj
    rw[dv]at hjl
    obtain⟨z,hz⟩:=ae hjl
    rw[eB hz]at hj
    injection hj with hj
    subst hj
    have:(ez (bY at0 (aL p f b)) j z).fap=z.fap:=by unfold ez;split <;> rfl
    rw[this]
    exact c2 z (List.mem_of_getElem? hz)
   ·exact jf hs h
  ·exact jf hs h
def aC (L:List (Nat×List HK)):List HK:=(L.map Prod.snd).flatten
theorem AL {L:List (Nat×List HK)}{k:Nat}{x:Nat×List HK}(h:L[k]?=some x):aC (L.take (k+1))=aC (L.take k)++x.2:=by
 rw[cr h];simp[aC]
theorem na {L:List (Nat×List HK)}(h:∀x∈L,x.2.length≤2500):∀{k:Nat},k≤L.length→(aC (L.take k)).length≤2500 * k
 | 0,_=>by simp[aC]
 | k+1,hk=>by
  obtain⟨x,hx⟩:=ae (l:=L) (k:=k) (by omega)
  have:=na h (k:=k) (by omega)
  have:=h x (List.mem_of_getElem? hx)
  rw[AL hx,List.length_append]
  omega
def gM (c:Int):Int×Int:=
 if c=0 then(-2147483648,2147483647)else if c=1∨c=2∨c=3∨c=4∨c=10∨c=11 then(-32768,32767)
 else if c=16 then(0,65535)else if c=12∨c=13∨c=14∨c=15 then(0,255)else(0,0)
def cW (c a:Int):Bool:=af c 0 17 && af a (gM c).1 (gM c).2
theorem vJ (c:Int):(bk c=(4,true)∧gM c=(-2147483648,2147483647))∨(bk c=(2,true)∧gM c=(-32768,32767))∨(bk c=(2,false)∧gM c=(0,65535))∨(bk c=(1,false)∧gM c=(0,255))∨(bk c=(0,false)∧gM c=(0,0)):=by
 unfold bk gM
 repeat' split
 all_goals simp
theorem zW {c:Int}:(aN c==0)= !af c 0 17:=by
 have:=cL c
 unfold aN
 cases af c 0 17 with
 | false=>rfl
 | true=>simp;omega
theorem yP (x:HJ):Sim.Spec Tryz.prog 230 [.agg x.tr] (rB (cW x.fab x.fak)):=by
 refine aE hΓ ay Tryz.func230 rfl (by decide) rfl ?_
 have ho:=gG x.fab
 have hz:=zW (c:=x.fab)
 have ha:=fk x.fab
 have h0:cW x.fab x.fak=(af x.fab 0 17 && af x.fak (gM x.fab).1 (gM x.fab).2):=rfl
 rw[h0]
 cases hw:af x.fab 0 17 with
 | false=>
  rw[hw]at hz
  repeat' ((conv=>whnf);first|apply Wx|apply W6|apply oi|(apply fi<;>intro h)|refine cl ho ?_|refine⟨_,rfl,?_⟩|exact rfl)
  all_goals try exact⟨KP⟩
  all_goals try(exfalso;rw[hz]at h;cases h;done)
 | true=>
  rw[hw]at hz
  rw[Bool.true_and]
  rcases vJ x.fab with⟨e1,e2⟩|⟨e1,e2⟩|⟨e1,e2⟩|⟨e1,e2⟩|⟨e1,e2⟩
  all_goals(
   rw[DE,e1]at ha
   rw[e2]
   have gb:=aD x.fak (gM x.fab).1 (gM x.fab).2
   rw[e2]at gb
   repeat' ((conv=>whnf);first|apply Wx|apply W6|apply oi|(apply fi<;>intro h)|refine cl ho ?_|refine cl ha ?_|refine .inl (ci gb (ai rfl (ai KW (ai KW trivial))) ?_)|refine⟨_,rfl,?_⟩|exact rfl)
   all_goals try exact⟨KP⟩
   all_goals try(exfalso;rw[hz]at h;cases h;done))
theorem zV (x:HJ):Sim.Spec Tryz.prog 180 [.agg x.tr] (rB (cW x.fab x.fak)):=by
 refine aE hΓ ay Tryz.func180 rfl (by decide) rfl ?_
 have hi:=bi x.fab 0 17
 have ha:=fm x.fab
 have h0:cW x.fab x.fak=(af x.fab 0 17 && af x.fak (gM x.fab).1 (gM x.fab).2):=rfl
 rw[h0]
 cases hw:af x.fab 0 17 with
 | false=>
  rw[hw]at hi
  repeat' ((conv=>whnf);first|apply Wx|apply W6|apply oi|(apply fi<;>intro h)|refine cl ha ?_|refine cl hi ?_|refine⟨_,rfl,?_⟩|exact rfl)
  all_goals try exact⟨KP⟩
 | true=>
  rw[hw]at hi
  rw[Bool.true_and]
  rcases vJ x.fab with⟨e1,e2⟩|⟨e1,e2⟩|⟨e1,e2⟩|⟨e1,e2⟩|⟨e1,e2⟩
  all_goals(
   rw[DE,e1]at ha
   rw[e2]
   have gb:=bi x.fak (gM x.fab).1 (gM x.fab).2
   rw[e2]at gb
   repeat' ((conv=>whnf);first|apply Wx|apply W6|apply oi|(apply fi<;>intro h)|refine cl ha ?_|refine cl hi ?_|refine .inl (ci gb (ai rfl (ai KW (ai KW trivial))) ?_)|refine⟨_,rfl,?_⟩|exact rfl)
   all_goals try exact⟨KP⟩
   skip)
def jW (a:Int)(k:Nat):UInt8:=UInt8.ofNat ((a.fdiv (2 ^ (8 * k))) % 256).toNat
def fA (a:Int)(n:Nat):List UInt8:=(List.range n).map (jW a)
def aS (x:HJ):List UInt8:=if cW x.fab x.fak=true then UInt8.ofNat x.fab.toNat::fA x.fak (bk x.fab).1.toNat else []
theorem rD (a:Int)(n:Nat):fA a (n+1)=fA a n++[jW a n]:=by simp[fA,List.range_succ]
theorem fH {x:HJ}(h:cW x.fab x.fak=true):((aS x).length:Int)=aN x.fab:=by
 have hle:=cL x.fab
 rw[aS,if_pos h]
 unfold cW at h
 rw[Bool.and_eq_true]at h
 rw[aN,if_pos h.1]
 simp[fA];omega
theorem mI (x:HJ):(aS x).length≤5:=by
 have hle:=cL x.fab
 unfold aS
 split
 ·simp[fA];omega
 ·simp
theorem wx (a:Int){k:Nat}(h:k≤4):IntKind.u8.wrap (a.fdiv (2 ^ min (IntKind.i64.wrap (8 * (k:Int))).toNat IntKind.i64.bits))=((jW a k).toNat:Int):=by
 have h8:IntKind.i64.wrap (8 * (k:Int))=((8 * k:Nat):Int):=by rw[IntWalk.i64_in _ (by omega)];rfl
 rw[h8,Int.toNat_natCast,Nat.min_eq_left (by show 8 * k≤64;omega)]
 unfold jW
 generalize a.fdiv (2 ^ (8 * k))=z
 simp[IntKind.wrap,IntKind.bits,IntKind.signed]
 omega
theorem sW (x:HJ):Sim.Spec Tryz.prog 169 [.agg x.tr] (rS (aS x)):=by
 refine aE hΓ ay Tryz.func169 rfl (by decide) rfl ?_
 have ho:=yP x
 have ha:=fk x.fab
 unfold aS
 cases hw:cW x.fab x.fak with
 | false=>
  rw[hw]at ho
  repeat' ((conv=>whnf);first|apply Wx|apply W6|apply oi|(apply fi<;>intro h)|refine cl ho ?_|refine⟨_,rfl,?_⟩|exact rfl)
  all_goals try exact⟨KP⟩
 | true=>
  rw[hw]at ho
  rw[if_pos rfl]
  have hc:0≤x.fab∧x.fab≤17:=by
   unfold cW at hw
   rw[Bool.and_eq_true]at hw
   exact within_iff.1 hw.1
  obtain⟨n,hn⟩:∃n:Nat,(bk x.fab).1=(n:Int):=⟨(bk x.fab).1.toNat,by have:=cL x.fab;omega⟩
  have hnl:n≤4:=by have:=cL x.fab;omega
  rw[DE,hn]at ha
  rw[hn,Int.toNat_natCast]
  generalize hb0:UInt8.ofNat x.fab.toNat=b0
  have hbc:IntKind.u8.wrap x.fab=(b0.toNat:Int):=by
   subst hb0
   simp[IntKind.wrap,IntKind.bits,IntKind.signed]
   omega
  repeat' ((conv=>whnf);first|apply Wx|apply W6|apply oi|(apply fi<;>intro h)|refine cl ho ?_|refine cl ha ?_|refine⟨_,rfl,?_⟩|exact rfl)
  all_goals try exact⟨KP⟩
  conv=>whnf
  refine⟨{k:Nat // k≤n},fun k=>⟨[(1,.r (.c (.ptr (1,0,0) 0))),(3,tI .i64 (n:Int)),(5,.r (.c (.own (19,0,0)))),(6,tI .i64 (k.1:Int))],[((19,0,0),some (.arr true 1 ((b0::fA x.fak k.1).map aQ))),((1,0,0),some (.box [.t (.int .i64 x.fab),.t (.int .i64 x.fak)]))],[19,1]⟩,fun k=>n - k.1,⟨0,by omega⟩,?_,?_⟩
  ·skip
   repeat' ((conv=>whnf);first|apply Wx|apply W6|apply oi|(apply fi<;>intro h)|refine⟨_,rfl,?_⟩|exact rfl)
   all_goals try exact⟨KP⟩
   all_goals try exact⟨by rw[hbc];rfl⟩
  intro⟨k,hk⟩
  dsimp only
  have hbl:((b0::fA x.fak k).map aQ).length=k+1:=by simp[fA]
  by_cases hlt:k < n
  ·have h8:IntKind.i64.wrap (8 * (k:Int))=((8 * k:Nat):Int):=by rw[IntWalk.i64_in _ (by omega)];rfl
   have hbe:=wx x.fak (k:=k) (by omega)
   repeat' ((conv=>whnf);first|apply Wx|apply W6|apply oi|(apply fi<;>intro h)|refine⟨_,rfl,?_⟩|exact rfl)
   all_goals try exact⟨KP⟩
   all_goals try exact KX
   all_goals try exact⟨by rw[h8];omega⟩
   all_goals try exact⟨⟨by simp only[List.length_nil,List.length_cons,hbl] <;> omega,by simp only[List.length_nil,List.length_cons,hbl] <;> omega⟩⟩
   conv=>whnf
   refine⟨⟨k+1,by omega⟩,?_,KD⟩
   repeat' ((conv=>whnf);first|apply Wx|apply W6|apply oi|(apply fi<;>intro h)|refine⟨_,rfl,?_⟩|exact rfl)
   all_goals try exact⟨KP⟩
   all_goals try exact⟨KW⟩
   all_goals try exact⟨by dsimp only;rw[rD,hbe,←List.cons_append,List.map_append];rfl⟩
  ·have hkn:k=n:=by omega
   subst hkn
   repeat' ((conv=>whnf);first|apply Wx|apply W6|apply oi|(apply fi<;>intro h)|refine⟨_,rfl,?_⟩|exact rfl)
   all_goals try exact⟨KP⟩
   all_goals try exact KX
theorem sD (x:HJ):Sim.Spec Tryz.prog 122 [.agg x.tr] (rS (aS x)):=by
 refine aE hΓ ay Tryz.func122 rfl (by decide) rfl ?_
 have ho:=zV x
 have ha:=fm x.fab
 unfold aS
 cases hw:cW x.fab x.fak with
 | false=>
  rw[hw]at ho
  repeat' ((conv=>whnf);first|apply Wx|apply W6|apply oi|(apply fi<;>intro h)|refine cl ho ?_|refine⟨_,rfl,?_⟩|exact rfl)
  all_goals try exact⟨KP⟩
 | true=>
  rw[hw]at ho
  rw[if_pos rfl]
  have hc:0≤x.fab∧x.fab≤17:=by
   unfold cW at hw
   rw[Bool.and_eq_true]at hw
   exact within_iff.1 hw.1
  obtain⟨n,hn⟩:∃n:Nat,(bk x.fab).1=(n:Int):=⟨(bk x.fab).1.toNat,by have:=cL x.fab;omega⟩
  have hnl:n≤4:=by have:=cL x.fab;omega
  rw[DE,hn]at ha
  rw[hn,Int.toNat_natCast]
  generalize hb0:UInt8.ofNat x.fab.toNat=b0
  have hbc:IntKind.u8.wrap x.fab=(b0.toNat:Int):=by
   subst hb0
   simp[IntKind.wrap,IntKind.bits,IntKind.signed]
   omega
  repeat' ((conv=>whnf);first|apply Wx|apply W6|apply oi|(apply fi<;>intro h)|refine cl ho ?_|refine cl ha ?_|refine⟨_,rfl,?_⟩|exact rfl)
  all_goals try exact⟨KP⟩
  conv=>whnf
  refine⟨{k:Nat // k≤n},fun k=>⟨[(1,.r (.c (.ptr (1,0,0) 0))),(3,tI .i64 (n:Int)),(5,.r (.c (.own (19,0,0)))),(6,tI .i64 (k.1:Int))],[((19,0,0),some (.arr true 1 ((b0::fA x.fak k.1).map aQ))),((1,0,0),some (.box [.t (.int .i64 x.fab),.t (.int .i64 x.fak)]))],[19,1]⟩,fun k=>n - k.1,⟨0,by omega⟩,?_,?_⟩
  ·skip
   repeat' ((conv=>whnf);first|apply Wx|apply W6|apply oi|(apply fi<;>intro h)|refine⟨_,rfl,?_⟩|exact rfl)
   all_goals try exact⟨KP⟩
   all_goals try exact⟨by rw[hbc];rfl⟩
  intro⟨k,hk⟩
  dsimp only
  have hbl:((b0::fA x.fak k).map aQ).length=k+1:=by simp[fA]
  by_cases hlt:k < n
  ·have h8:IntKind.i64.wrap (8 * (k:Int))=((8 * k:Nat):Int):=by rw[IntWalk.i64_in _ (by omega)];rfl
   have hbe:=wx x.fak (k:=k) (by omega)
   repeat' ((conv=>whnf);first|apply Wx|apply W6|apply oi|(apply fi<;>intro h)|refine⟨_,rfl,?_⟩|exact rfl)
   all_goals try exact⟨KP⟩
   all_goals try exact KX
   all_goals try exact⟨by rw[h8];omega⟩
   all_goals try exact⟨⟨by simp only[List.length_nil,List.length_cons,hbl] <;> omega,by simp only[List.length_nil,List.length_cons,hbl] <;> omega⟩⟩
   conv=>whnf
   refine⟨⟨k+1,by omega⟩,?_,KD⟩
   repeat' ((conv=>whnf);first|apply Wx|apply W6|apply oi|(apply fi<;>intro h)|refine⟨_,rfl,?_⟩|exact rfl)
   all_goals try exact⟨KP⟩
   all_goals try exact⟨KW⟩
   all_goals try exact⟨by dsimp only;rw[rD,hbe,←List.cons_append,List.map_append];rfl⟩
  ·have hkn:k=n:=by omega
   subst hkn
   repeat' ((conv=>whnf);first|apply Wx|apply W6|apply oi|(apply fi<;>intro h)|refine⟨_,rfl,?_⟩|exact rfl)
   all_goals try exact⟨KP⟩
   all_goals try exact KX
theorem wh {c a:Int}(h:eE c a):cW c a=true:=by
 obtain⟨h0,h1,h2,h3,h4,h5,h6⟩:=h
 unfold cW
 rw[Bool.and_eq_true,within_iff,within_iff]
 refine⟨⟨h0,h1⟩,?_⟩
 unfold gM
 split
 ·have:=h2 (by assumption);dsimp only;omega
 split
 ·have:=h3 (by omega);dsimp only;omega
 split
 ·have:=h4 (by assumption);dsimp only;omega
 split
 ·have:=h5 (by omega);dsimp only;omega
 ·have:=h6 (by omega);dsimp only;omega
structure PlI (p:List HH) (f j:Nat) (y:HK):Prop where
 head:j=0→(y.fai.fae.fab=13∨y.fai.fae.fab=15)∧∃g ln,(ak p)[f]?=some g∧y.fai.fam=(g:Int)∧p[g]?=some ln∧ln.faa=0
 body:0 < j→y.fai.fae.fab≠13∧∃(n:Nat) (ln:HH),y.fai.fam=(n:Int)∧p[n]?=some ln∧ln.faa≠0
 op:cW y.fai.fae.fab y.fai.fae.fak=true
theorem xx (p:List HH)(b:Hz):alike (foldIf p b) p:=by
 unfold foldIf
 split
 ·exact iZ p
 ·rfl
theorem ov (st:List Int)(k:Nat)(x:HG):(ez st k x).fae.fab=x.fae.fab:=by unfold ez;split <;> rfl
theorem uh (st:List Int)(k:Nat)(x:HG):(ez st k x).fam=x.fam:=by unfold ez;split <;> rfl
theorem mz {p:List HH}{b:Hz}{at0:Int}(hs:aB 1048576 (.lst 4 (p.map HH.tr)))(h1:aw p=true)(h2:aJ b=true){f:Nat}(h:f < (ak p).length){j:Nat}{y:HK}(hy:(cP (aL p f b) at0)[j]?=some y):PlI p f j y:=by
 obtain⟨g,C,k1,k2,k3,k4,hi⟩:=pF (f:=(f:Int)) hs h1 h2 (by omega) (by omega)
 have hlen:=(fV (p:=p) (f:=(f:Int)) (b:=b) hs).1
 have hjl:=hi.jumps.2
 have hj:j < (aL p (f:Int) b).length:=by have:=aM hy;rwa [dv]at this
 obtain⟨x,hx⟩:=ae hj
 rw[eB hx]at hy
 injection hy with hy
 subst hy
 rw[Int.toNat_natCast]at k1
 obtain⟨hgl,ln,hg1,hg2⟩:=iC (List.mem_of_getElem? k1)
 generalize aL p (f:Int) b=I at *
 obtain⟨a,t,rfl,ha,ht⟩:=hi
 have hop:¬mv x=true→eE x.fae.fab x.fae.fak:=fun hn=>by
  rw[fv]at hn
  cases j with
  | zero=>
   simp only[List.getElem?_cons_zero,Option.some.injEq]at hx
   subst hx
   have e3:=ha.2.2
   rcases ha.1 with e|e <;> (rw[e,e3];unfold eE;omega)
  | succ j=>exact(ht x (List.mem_of_getElem? (by simpa using hx))).op hn
 refine⟨fun e=>?_,fun e=>?_,?_⟩
 ·subst e
  simp only[List.getElem?_cons_zero,Option.some.injEq]at hx
  subst hx
  dsimp only
  rw[ov,uh]
  exact⟨ha.1,g,ln,k1,ha.2.1,hg1,hg2⟩
 ·obtain⟨j,rfl⟩:∃i,j=i+1:=⟨j - 1,by omega⟩
  have hg:=ht x (List.mem_of_getElem? (by simpa using hx))
  dsimp only
  rw[ov,uh]
  refine⟨hg.enter,?_⟩
  obtain⟨z,z0,z1,z2⟩:=hg.line
  rw[k2]at z1
  obtain⟨w,w1,w2,_⟩:=(xx p b).get z1
  exact⟨x.fam.toNat,w,by omega,w1,by omega⟩
 ·dsimp only
  by_cases hn:mv x=true
  ·rw[ez,if_pos hn]
   have h3:=hjl x (List.mem_of_getElem? hx) hn
   rw[fv]at hn
   have s1:=fq (at0:=at0) (l:=a::t) (k:=x.fae.fak.toNat) (by omega)
   have s2:=fq (at0:=at0) (l:=a::t) (k:=j+1) (by omega)
   refine wh ?_
   dsimp only[tA]
   unfold eE
   omega
  ·rw[ez,if_neg hn]
   exact wh (hop hn)
def ao (l:List HK):List UInt8:=l.flatMap fun x=>aS x.fai.fae
theorem aH (a b:List HK):ao (a++b)=ao a++ao b:=by simp[ao]
theorem ew (x:HK):ao [x]=aS x.fai.fae:=by simp[ao]
theorem eu:∀(l:List HK),(ao l).length≤5 * l.length
 | []=>by simp[ao]
 | x::l=>by
  have h1:=eu l
  have h2:=mI x.fai.fae
  rw[show x::l=[x]++l from rfl,aH,List.length_append,List.length_append,ew]
  simp only[List.length_cons,List.length_nil]
  omega
theorem jY {l:List HG}{at0:Int}(h:∀y∈cP l at0,cW y.fai.fae.fab y.fai.fae.fak=true):∀{k:Nat},k≤l.length→((ao ((cP l at0).take k)).length:Int)=atL (bY at0 l) k - at0
 | 0,_=>by rw[fY];simp[ao]
 | k+1,hk=>by
  obtain⟨x,hx⟩:=ae (l:=l) (k:=k) (by omega)
  have hg:=eB (at0:=at0) hx
  have ih:=jY h (k:=k) (by omega)
  have he:=fH (h _ (List.mem_of_getElem? hg))
  dsimp only at he
  rw[ov]at he
  rw[cr hg,aH,List.length_append,ew,eH hx]
  dsimp only
  omega
def bb (p:List HH)(f:Nat):List UInt8:=match(ak p)[f]? with
 | some g=>(match p[g]? with|some y=>y.fac|none=>[])
 | none=>[]
def bx (p:List HH):Int→List (Nat×List HK)→List HO
 | _,[]=>[]
 | at0,(f,l)::L=>⟨bb p f,at0,(ao l).length⟩::bx p (at0+(ao l).length) L
theorem mJ (p:List HH):∀(L:List (Nat×List HK)) (at0:Int) (x:Nat×List HK),bx p at0 (L++[x])=bx p at0 L++[⟨bb p x.1,at0+(ao (aC L)).length,(ao x.2).length⟩]
 | [],at0,(f,l)=>by simp[bx,aC,ao]
 |(g,m)::L,at0,x=>by
  rw[List.cons_append,bx,mJ p L,bx,List.cons_append]
  congr 3
  have:aC ((g,m)::L)=m++aC L:=by simp[aC]
  rw[this,aH,List.length_append]
  simp only[HO.mk.injEq,true_and,and_true]
  omega
theorem iO (p:List HH):∀(L:List (Nat×List HK)) (at0:Int),(bx p at0 L).length=L.length
 | [],_=>rfl
 |(f,l)::L,at0=>by rw[bx,List.length_cons,iO p L,List.length_cons]
noncomputable def ag (p:List HH) (b:Hz) (image:Int):HE:=
 if aw p=true∧aJ b=true∧af image 0 1=true then⟨ao (aC (bZ p b image (ak p).length 0 0)),bx p 0 (bZ p b image (ak p).length 0 0)⟩else⟨[],[]⟩
theorem kp {p:List HH}{b:Hz}{image:Int}:∀{n f:Nat} {at0:Int} {x:Nat×List HK},x∈bZ p b image n f at0→f≤x.1∧x.1 < f+n
 | 0,_,_,_,h=>by cases h
 | n+1,f,at0,x,h=>by
  rw[bZ]at h
  split at h
  ·rcases List.mem_cons.1 h with rfl|h
   ·exact⟨Nat.le_refl _,by dsimp only;omega⟩
   ·have:=kp h;omega
  ·have:=kp h;omega
theorem mT {p:List HH}{b:Hz}{image:Int}(hs:aB 1048576 (.lst 4 (p.map HH.tr)))(h1:aw p=true)(h2:aJ b=true):∀{n f:Nat} {at0:Int} {i:Nat} {x:Nat×List HK},f+n≤(ak p).length→(bZ p b image n f at0)[i]?=some x→
  x.2=cP (aL p (x.1:Int) b) (at0+((ao (aC ((bZ p b image n f at0).take i))).length:Int))∧x.1 < (ak p).length∧0 < x.2.length
 | 0,_,_,_,_,_,h=>by simp[bZ]at h
 | n+1,f,at0,i,x,hf,h=>by
  rw[kH]at h ⊢
  split at h
  ·rename_i hin
   rw[if_pos hin]
   cases i with
   | zero=>
    simp only[List.getElem?_cons_zero,Option.some.injEq]at h
    subst h
    have:=(Er (f:=f) hs h1 h2 (by omega)).pos
    refine⟨by simp[aC,ao],by dsimp only;omega,by dsimp only;rw[dv];exact this⟩
   | succ i=>
    rw[List.getElem?_cons_succ]at h
    obtain⟨k1,k2,k3⟩:=mT hs h1 h2 (by omega) h
    refine⟨?_,k2,k3⟩
    have hl:=jY (l:=aL p (f:Int) b) (at0:=at0) (fun y hy=>by
     obtain⟨j,hj⟩:=List.mem_iff_getElem?.1 hy
     exact(mz hs h1 h2 (by omega) hj).op) (k:=(aL p (f:Int) b).length) (Nat.le_refl _)
    rw[List.take_of_length_le (by rw[dv];exact Nat.le_refl _)]at hl
    rw[k1,List.take_succ_cons,show ∀(a:Nat×List HK) (l:List (Nat×List HK)),aC (a::l)=a.2++aC l from fun a l=>by simp[aC],aH,List.length_append]
    congr 1
    have he:sG at0 (aL p (f:Int) b)=atL (bY at0 (aL p (f:Int) b)) (aL p (f:Int) b).length:=rfl
    dsimp only
    rw[he]at *
    omega
  ·rename_i hin
   rw[if_neg hin]
   exact mT hs h1 h2 (by omega) h
theorem kO {p:List HH}{b:Hz}{image:Int}(hs:aB 1048576 (.lst 4 (p.map HH.tr)))(h1:aw p=true)(h2:aJ b=true){i:Nat}{x:Nat×List HK}(h:(bZ p b image (ak p).length 0 0)[i]?=some x){j:Nat}{y:HK}(hy:x.2[j]?=some y):
  PlI p x.1 j y∧y.fao=((ao (aC ((bZ p b image (ak p).length 0 0).take i))).length:Int)+(ao (x.2.take j)).length:=by
 obtain⟨k1,k2,_⟩:=mT hs h1 h2 (by omega) h
 generalize hS:((ao (aC ((bZ p b image (ak p).length 0 0).take i))).length:Int)=S at *
 rw[Int.zero_add]at k1
 rw[k1]at hy ⊢
 refine⟨mz hs h1 h2 k2 hy,?_⟩
 have hj:j < (aL p (x.1:Int) b).length:=by have:=aM hy;rwa [dv]at this
 rw[jY (fun z hz=>by
  obtain⟨j,hj⟩:=List.mem_iff_getElem?.1 hz
  exact(mz hs h1 h2 k2 hj).op) (by omega)]
 obtain⟨z,hz⟩:=ae hj
 rw[eB hz]at hy
 injection hy with hy
 subst hy
 dsimp only
 omega
def pA (L:List (Nat×List HK))(i j:Nat):List HK:=match L[i]? with|some x=>x.2.take j|none=>[]
def fO (L:List (Nat×List HK))(i j:Nat):List UInt8:=ao (aC (L.take i))++ao (pA L i j)
def iP (p:List HH)(L:List (Nat×List HK))(i j:Nat):List HO:=bx p 0 (L.take i)++(match L[i]? with
 | some x=>if j=0 then []else [⟨bb p x.1,((ao (aC (L.take i))).length:Int),((ao (x.2.take j)).length:Int)⟩]
 | none=>[])
theorem kU (L:List (Nat×List HK))(x:Nat×List HK):aC (L++[x])=aC L++x.2:=by simp[aC]
theorem BC {L:List (Nat×List HK)}{i:Nat}{x:Nat×List HK}(h:L[i]?=some x):fO L i x.2.length=fO L (i+1) 0:=by
 have:pA L (i+1) 0=[]:=by unfold pA;split <;> simp
 rw[fO,fO,this,cr h,kU,aH,pA,h]
 simp[ao]
theorem AG {p:List HH}{L:List (Nat×List HK)}{i:Nat}{x:Nat×List HK}(h:L[i]?=some x)(h0:0 < x.2.length):iP p L i x.2.length=iP p L (i+1) 0:=by
 rw[iP,iP,cr h,mJ,h]
 dsimp only
 rw[if_neg (by omega),List.take_of_length_le (Nat.le_refl _),Int.zero_add]
 cases L[i+1]? <;> simp
theorem CS {p:List HH}{L:List (Nat×List HK)}:iP p L L.length 0=bx p 0 L:=by
 rw[iP,List.take_of_length_le (Nat.le_refl _),List.getElem?_eq_none (Nat.le_refl _)]
 simp
theorem CI {L:List (Nat×List HK)}:fO L L.length 0=ao (aC L):=by
 rw[fO,List.take_of_length_le (Nat.le_refl _),pA,List.getElem?_eq_none (Nat.le_refl _)]
 simp[ao]
theorem Fk {L:List (Nat×List HK)}{i j:Nat}{x:Nat×List HK}{y:HK}(h:L[i]?=some x)(hy:x.2[j]?=some y):(aC L)[(aC (L.take i)).length+j]?=some y:=by
 have e:L=L.take i++x::L.drop (i+1):=by
  rw[←dq h,List.take_append_drop]
 have e2:aC L=aC (L.take i)++(x.2++aC (L.drop (i+1))):=by
  conv=>lhs;rw[e]
  simp[aC]
 rw[e2,List.getElem?_append_right (by omega),Nat.add_sub_cancel_left,List.getElem?_append_left (aM hy),hy]
theorem EZ {p:List HH}{L:List (Nat×List HK)}(hla:∀{i:Nat} {x:Nat×List HK},L[i]?=some x→0 < x.2.length){i j:Nat}{x:Nat×List HK}(hx:L[i]?=some x)(hj:j < x.2.length):∃q:Nat×Nat,q.1≤L.length∧(∀x,L[q.1]?=some x→q.2 < x.2.length)∧(q.1=L.length→q.2=0)∧
  (aC (L.take q.1)).length+q.2=(aC (L.take i)).length+(j+1)∧fO L q.1 q.2=fO L i (j+1)∧iP p L q.1 q.2=iP p L i (j+1):=by
 have hi:=aM hx
 by_cases hn:j+1 < x.2.length
 ·exact⟨(i,j+1),by dsimp only;omega,fun z hz=>by dsimp only at hz ⊢;rw[hx]at hz;injection hz with hz;subst hz;exact hn,fun h=>by dsimp only at h;omega,rfl,rfl,rfl⟩
 ·have e:j+1=x.2.length:=by omega
  refine⟨(i+1,0),by dsimp only;omega,fun z hz=>hla hz,fun _=>rfl,?_,?_,?_⟩
  ·dsimp only;rw[cr hx,kU,List.length_append];omega
  ·dsimp only;rw[e,BC hx]
  ·dsimp only;rw[e,AG hx (hla hx)]
theorem tQ {p:List HH}{L:List (Nat×List HK)}{i:Nat}:iP p L i 0=bx p 0 (L.take i):=by
 rw[iP];cases L[i]? <;> simp
theorem Bz {L:List (Nat×List HK)}{i:Nat}:fO L i 0=ao (aC (L.take i)):=by
 rw[fO,pA];cases L[i]? <;> simp[ao]
theorem xq {p:List HH}{L:List (Nat×List HK)}{i j:Nat}{x:Nat×List HK}(hx:L[i]?=some x):iP p L i (j+1)=bx p 0 (L.take i)++[⟨bb p x.1,((ao (aC (L.take i))).length:Int),((ao (x.2.take (j+1))).length:Int)⟩]:=by
 rw[iP,hx];rfl
theorem Df {L:List (Nat×List HK)}{i j:Nat}{x:Nat×List HK}{y:HK}(hx:L[i]?=some x)(hy:x.2[j]?=some y):fO L i (j+1)=fO L i j++aS y.fai.fae:=by
 rw[fO,fO,pA,pA,hx]
 dsimp only
 rw[cr hy,aH,ew,List.append_assoc]
theorem Dj {L:List (Nat×List HK)}{i j:Nat}{x:Nat×List HK}(hx:L[i]?=some x):(fO L i j).length=(ao (aC (L.take i))).length+(ao (x.2.take j)).length:=by
 rw[fO,pA,hx,List.length_append]
def oL {α:Type}(o:Option (List α)):List α:=match o with|some l=>l|none=>[]
def dh (off:Int)(x:HO):Bool:=af x.fah 0 1000000 && (af x.fan 0 1000000 && (decide (x.fah≤off) && decide (off < x.fah+x.fan)))
def dg (off:Int):List HO→Nat→Int
 | [],_=> -1
 | x::l,k=>if dh off x then(k:Int)else dg off l (k+1)
def cU (l:List HO)(off:Int):Int:=dg off l 0
theorem xa {off:Int}{l:List HO}{k:Nat}{x:HO}(hx:l[k]?=some x):dg off (l.drop k) k=if dh off x then(k:Int)else dg off (l.drop (k+1)) (k+1):=by
 rw[dq hx,dg]
theorem pm {off:Int}:∀(l:List HO) (k:Nat),dg off l k= -1∨((k:Int)≤dg off l k∧dg off l k < k+l.length)
 | [],k=> .inl (by rw[dg])
 | x::l,k=>by
  rw[dg]
  split
  ·exact .inr ⟨by omega,by simp only[List.length_cons];omega⟩
  ·rcases pm l (k+1)with h|h
   ·exact .inl h
   ·exact .inr ⟨by omega,by simp only[List.length_cons];omega⟩
theorem lV (l:List HO)(off:Int):cU l off= -1∨(0≤cU l off∧cU l off < l.length):=by
 have:=pm (off:=off) l 0
 unfold cU
 omega
theorem sw (i:HE)(off:Int)(hl:i.faf.length≤1048576):Sim.Spec Tryz.prog 105 [.agg i.tr,tvI off] (rI (cU i.faf off)):=by
 refine aq hΓ ay Tryz.func105 rfl (by decide) rfl ?_
 obtain⟨code,l⟩:=i
 dsimp only at hl ⊢
 have hlen:(l.map HO.tr).length=l.length:=by simp
 unfold cU
 repeat' ((conv=>whnf);first|refine Or.inl ?_|apply oi|(apply fi<;>intro h)|refine⟨_,rfl,?_⟩|exact rfl)
 all_goals try exact⟨KO⟩
 conv=>whnf
 refine⟨{k:Nat // k≤l.length∧dg off (l.drop k) k=dg off l 0},fun k=>⟨[(1,tI .i64 off),(8,.r (.c (.t (.lst 3 (l.map HO.tr))))),(9,tI .i64 ((l.map HO.tr).length:Int)),(10,tI .i64 (k.1:Int))],[],[]⟩,fun k=>l.length - k.1,⟨0,by omega,by rw[List.drop_zero]⟩,?_,?_⟩
 ·skip
  repeat' ((conv=>whnf);first|refine Or.inl ?_|apply oi|(apply fi<;>intro h)|refine⟨_,rfl,?_⟩|exact rfl)
  all_goals try exact⟨KO⟩
 intro⟨k,hk,hr⟩
 dsimp only
 by_cases hlt:k < l.length
 ·obtain⟨x,hx⟩:=ae hlt
  rw[xa hx]at hr
  have hb1:=aD x.fah 0 1000000
  have hb2:=aD x.fan 0 1000000
  have hback:dh off x=false→dg off (l.drop (k+1)) (k+1)=dg off l 0:=fun h=>by rw[h,if_neg (by simp)]at hr;exact hr
  cases hw1:af x.fah 0 1000000 with
  | false=>
   have hh:dh off x=false:=by rw[dh,hw1];rfl
   rw[hw1]at hb1
   repeat' ((conv=>whnf);first|refine Or.inl ?_|apply oi|(apply fi<;>intro h)|refine⟨k,x.tr,rfl,ab hx,?_⟩|refine ci hb1 (ai rfl (ai rfl (ai rfl trivial))) ?_|refine⟨_,rfl,?_⟩|exact rfl)
   all_goals try exact⟨KO⟩
   all_goals try exact KX
   all_goals conv=>whnf
   all_goals refine⟨⟨k+1,by omega,hback hh⟩,?_,KD⟩
   repeat' ((conv=>whnf);first|refine Or.inl ?_|apply oi|(apply fi<;>intro h)|refine⟨_,rfl,?_⟩|exact rfl)
   all_goals try exact⟨KO⟩
   all_goals exact⟨by dsimp only;rw[IntWalk.i64_in _ (by omega)];rfl⟩
  | true=>
   rw[hw1]at hb1
   cases hw2:af x.fan 0 1000000 with
   | false=>
    have hh:dh off x=false:=by rw[dh,hw1,hw2];rfl
    rw[hw2]at hb2
    repeat' ((conv=>whnf);first|refine Or.inl ?_|apply oi|(apply fi<;>intro h)|refine⟨k,x.tr,rfl,ab hx,?_⟩|refine ci hb1 (ai rfl (ai rfl (ai rfl trivial))) ?_|refine ci hb2 (ai rfl (ai rfl (ai rfl trivial))) ?_|refine⟨_,rfl,?_⟩|exact rfl)
    all_goals try exact⟨KO⟩
    all_goals try exact KX
    all_goals conv=>whnf
    all_goals refine⟨⟨k+1,by omega,hback hh⟩,?_,KD⟩
    repeat' ((conv=>whnf);first|refine Or.inl ?_|apply oi|(apply fi<;>intro h)|refine⟨_,rfl,?_⟩|exact rfl)
    all_goals try exact⟨KO⟩
    all_goals exact⟨by dsimp only;rw[IntWalk.i64_in _ (by omega)];rfl⟩
   | true=>
    rw[hw2]at hb2
    have hi1:=within_iff.1 hw1
    have hi2:=within_iff.1 hw2
    have hw3:IntKind.i64.wrap (x.fah+x.fan)=x.fah+x.fan:=IntWalk.i64_in _ (by omega)
    cases hh:dh off x with
    | true=>
     rw[hh,if_pos rfl]at hr
     rw[dh,hw1,hw2]at hh
     simp only[Bool.true_and,Bool.and_eq_true,decide_eq_true_eq]at hh
     repeat' ((conv=>whnf);first|refine Or.inl ?_|apply oi|(apply fi<;>intro h)|refine⟨k,x.tr,rfl,ab hx,?_⟩|refine ci hb1 (ai rfl (ai rfl (ai rfl trivial))) ?_|refine ci hb2 (ai rfl (ai rfl (ai rfl trivial))) ?_|refine⟨_,rfl,?_⟩|exact rfl)
     all_goals try exact⟨KO⟩
     all_goals try exact KX
     all_goals try exact⟨by rw[hr]⟩
     all_goals(exfalso;(try rw[hw3]at h);simp only[decide_eq_false_iff_not]at h;omega)
    | false=>
     have hbk:=hback hh
     rw[dh,hw1,hw2]at hh
     simp only[Bool.true_and,Bool.and_eq_false_iff,decide_eq_false_iff_not]at hh
     repeat' ((conv=>whnf);first|refine Or.inl ?_|apply oi|(apply fi<;>intro h)|refine⟨k,x.tr,rfl,ab hx,?_⟩|refine ci hb1 (ai rfl (ai rfl (ai rfl trivial))) ?_|refine ci hb2 (ai rfl (ai rfl (ai rfl trivial))) ?_|refine⟨_,rfl,?_⟩|exact rfl)
     all_goals try exact⟨KO⟩
     all_goals try exact KX
     all_goals try(exfalso;rw[hw3]at *;simp only[decide_eq_true_eq]at *;omega)
     all_goals conv=>whnf
     all_goals refine⟨⟨k+1,by omega,hbk⟩,?_,KD⟩
     repeat' ((conv=>whnf);first|refine Or.inl ?_|apply oi|(apply fi<;>intro h)|refine⟨_,rfl,?_⟩|exact rfl)
     all_goals try exact⟨KO⟩
     all_goals exact⟨by dsimp only;rw[IntWalk.i64_in _ (by omega)];rfl⟩
 ·have hge:l.length≤k:=by omega
  rw[List.drop_eq_nil_of_le hge,dg]at hr
  repeat' ((conv=>whnf);first|refine Or.inl ?_|apply oi|(apply fi<;>intro h)|refine⟨_,rfl,?_⟩|exact rfl)
  all_goals try exact⟨KO⟩
  all_goals try exact KX
  exact⟨by rw[←hr]⟩
theorem lH (i:HE)(off:Int)(hl:i.faf.length≤1048576):Sim.Spec Tryz.prog 166 [.agg i.tr,tvI off] (rI (cU i.faf off)):=by
 refine aq hΓ ay Tryz.func166 rfl (by decide) rfl ?_
 obtain⟨code,l⟩:=i
 dsimp only at hl ⊢
 have hlen:(l.map HO.tr).length=l.length:=by simp
 unfold cU
 repeat' ((conv=>whnf);first|refine Or.inl ?_|apply oi|(apply fi<;>intro h)|refine⟨_,rfl,?_⟩|exact rfl)
 all_goals try exact⟨KO⟩
 conv=>whnf
 refine⟨{k:Nat // k≤l.length∧dg off (l.drop k) k=dg off l 0},fun k=>⟨[(1,tI .i64 off),(2,.r (.c (.ptr (2,0,0) 0))),(5,tI .i64 (k.1:Int))],[((2,0,0),some (.box [.t (.str code),.t (.lst 3 (l.map HO.tr))]))],[2]⟩,fun k=>l.length - k.1,⟨0,by omega,by rw[List.drop_zero]⟩,?_,?_⟩
 ·skip
  repeat' ((conv=>whnf);first|refine Or.inl ?_|apply oi|(apply fi<;>intro h)|refine⟨_,rfl,?_⟩|exact rfl)
  all_goals try exact⟨KO⟩
 intro⟨k,hk,hr⟩
 dsimp only
 by_cases hlt:k < l.length
 ·obtain⟨x,hx⟩:=ae hlt
  rw[xa hx]at hr
  have hb1:=bi x.fah 0 1000000
  have hb2:=bi x.fan 0 1000000
  have hback:dh off x=false→dg off (l.drop (k+1)) (k+1)=dg off l 0:=fun h=>by rw[h,if_neg (by simp)]at hr;exact hr
  cases hw1:af x.fah 0 1000000 with
  | false=>
   have hh:dh off x=false:=by rw[dh,hw1];rfl
   rw[hw1]at hb1
   repeat' ((conv=>whnf);first|refine Or.inl ?_|apply oi|(apply fi<;>intro h)|refine⟨k,x.tr,rfl,ab hx,?_⟩|refine ci hb1 (ai rfl (ai rfl (ai rfl trivial))) ?_|refine⟨_,rfl,?_⟩|exact rfl)
   all_goals try exact⟨KO⟩
   all_goals try exact KX
   all_goals conv=>whnf
   all_goals refine⟨⟨k+1,by omega,hback hh⟩,?_,KD⟩
   repeat' ((conv=>whnf);first|refine Or.inl ?_|apply oi|(apply fi<;>intro h)|refine⟨_,rfl,?_⟩|exact rfl)
   all_goals try exact⟨KO⟩
   all_goals exact⟨by dsimp only;rw[IntWalk.i64_in _ (by omega)];rfl⟩
  | true=>
   rw[hw1]at hb1
   cases hw2:af x.fan 0 1000000 with
   | false=>
    have hh:dh off x=false:=by rw[dh,hw1,hw2];rfl
    rw[hw2]at hb2
    repeat' ((conv=>whnf);first|refine Or.inl ?_|apply oi|(apply fi<;>intro h)|refine⟨k,x.tr,rfl,ab hx,?_⟩|refine ci hb1 (ai rfl (ai rfl (ai rfl trivial))) ?_|refine ci hb2 (ai rfl (ai rfl (ai rfl trivial))) ?_|refine⟨_,rfl,?_⟩|exact rfl)
    all_goals try exact⟨KO⟩
    all_goals try exact KX
    all_goals conv=>whnf
    all_goals refine⟨⟨k+1,by omega,hback hh⟩,?_,KD⟩
    repeat' ((conv=>whnf);first|refine Or.inl ?_|apply oi|(apply fi<;>intro h)|refine⟨_,rfl,?_⟩|exact rfl)
    all_goals try exact⟨KO⟩
    all_goals exact⟨by dsimp only;rw[IntWalk.i64_in _ (by omega)];rfl⟩
   | true=>
    rw[hw2]at hb2
    have hi1:=within_iff.1 hw1
    have hi2:=within_iff.1 hw2
    have hw3:IntKind.i64.wrap (x.fah+x.fan)=x.fah+x.fan:=IntWalk.i64_in _ (by omega)
    cases hh:dh off x with
    | true=>
     rw[hh,if_pos rfl]at hr
     rw[dh,hw1,hw2]at hh
     simp only[Bool.true_and,Bool.and_eq_true,decide_eq_true_eq]at hh
     repeat' ((conv=>whnf);first|refine Or.inl ?_|apply oi|(apply fi<;>intro h)|refine⟨k,x.tr,rfl,ab hx,?_⟩|refine ci hb1 (ai rfl (ai rfl (ai rfl trivial))) ?_|refine ci hb2 (ai rfl (ai rfl (ai rfl trivial))) ?_|refine⟨_,rfl,?_⟩|exact rfl)
     all_goals try exact⟨KO⟩
     all_goals try exact KX
     all_goals try exact⟨by rw[hr]⟩
     all_goals(exfalso;(try rw[hw3]at h);simp only[decide_eq_false_iff_not]at h;omega)
    | false=>
     have hbk:=hback hh
     rw[dh,hw1,hw2]at hh
     simp only[Bool.true_and,Bool.and_eq_false_iff,decide_eq_false_iff_not]at hh
     repeat' ((conv=>whnf);first|refine Or.inl ?_|apply oi|(apply fi<;>intro h)|refine⟨k,x.tr,rfl,ab hx,?_⟩|refine ci hb1 (ai rfl (ai rfl (ai rfl trivial))) ?_|refine ci hb2 (ai rfl (ai rfl (ai rfl trivial))) ?_|refine⟨_,rfl,?_⟩|exact rfl)
     all_goals try exact⟨KO⟩
     all_goals try exact KX
     all_goals try(exfalso;rw[hw3]at *;simp only[decide_eq_true_eq]at *;omega)
     all_goals conv=>whnf
     all_goals refine⟨⟨k+1,by omega,hbk⟩,?_,KD⟩
     repeat' ((conv=>whnf);first|refine Or.inl ?_|apply oi|(apply fi<;>intro h)|refine⟨_,rfl,?_⟩|exact rfl)
     all_goals try exact⟨KO⟩
     all_goals exact⟨by dsimp only;rw[IntWalk.i64_in _ (by omega)];rfl⟩
 ·have hge:l.length≤k:=by omega
  rw[List.drop_eq_nil_of_le hge,dg]at hr
  repeat' ((conv=>whnf);first|refine Or.inl ?_|apply oi|(apply fi<;>intro h)|refine⟨_,rfl,?_⟩|exact rfl)
  all_goals try exact⟨KO⟩
  all_goals try exact KX
  exact⟨by rw[←hr]⟩
def cH (s:List UInt8)(p:Nat):Nat:=match s[p]? with|some b=>b.toNat|none=>0
theorem CM (s:List UInt8)(p:Nat):cH s p < 256:=by
 unfold cH
 split
 ·exact UInt8.toNat_lt _
 ·omega
def bm (s:List UInt8)(p:Nat):Nat→Nat
 | 0=>0
 | k+1=>bm s p k+cH s (p+k) * 256 ^ k
theorem ku (s:List UInt8)(p:Nat):∀k,bm s p k < 256 ^ k
 | 0=>by simp[bm]
 | k+1=>by
  have h1:=ku s p k
  have h2:=CM s (p+k)
  rw[bm,Nat.pow_succ]
  have h3:=Nat.mul_le_mul_right (256 ^ k) (show cH s (p+k)≤255 by omega)
  omega
def yk (c:Int)(m:Nat):Int:=if(bk c).2=true∧2 ^ (8 * (bk c).1.toNat - 1)≤m then(m:Int) - 2 ^ (8 * (bk c).1.toNat)else m
def ck (s:List UInt8)(p:Int):Option (HJ×Nat):=
 if 0≤p∧p < s.length then
  (
   if aN (cH s p.toNat)=0∨(s.length:Int) < p+aN (cH s p.toNat)then none
   else some (⟨cH s p.toNat,yk (cH s p.toNat) (bm s (p.toNat+1) (bk (cH s p.toNat)).1.toNat)⟩,(aN (cH s p.toNat)).toNat))
 else none
def opX (o:Option (HJ×Nat)):HJ:=match o with|some x=>x.1|none=>⟨0,0⟩
def opZ (o:Option (HJ×Nat)):Int:=match o with|some x=>x.2|none=>0
abbrev rOp (o:Option (HJ×Nat)):Res:= .tup [.agg [.t (.int .i64 (opX o).fab),.t (.int .i64 (opX o).fak)],.c (.t (.int .i64 (opZ o))),.c (.t (.bool o.isSome))]
theorem yX (c:Int):bk c=(4,true)∨bk c=(2,true)∨bk c=(2,false)∨bk c=(1,false)∨bk c=(0,false):=by
 unfold bk
 repeat' split
 all_goals simp
theorem He {n x k:Nat}(hn:n < 256 ^ k):n ||| x * 256 ^ k=n+x * 256 ^ k:=by
 have e:(256:Nat) ^ k=2 ^ (8 * k):=by rw[show(256:Nat)=2 ^ 8 from rfl,←Nat.pow_mul]
 have:=Nat.two_pow_add_eq_or_of_lt (i:=8 * k) (b:=n) (by rw[←e];exact hn) x
 rw[e,Nat.mul_comm x,Nat.or_comm,←this]
 omega
theorem wD {x k:Nat}(hk:k < 4)(hx:x < 256):IntKind.i64.wrap ((x:Int) * 2 ^ (min (Int.toNat (IntKind.i64.wrap (8 * (k:Int)))) IntKind.i64.bits))=((x * 256 ^ k:Nat):Int):=by
 rw[IntWalk.i64_in (8 * (k:Int)) (by omega)]
 have:k=0∨k=1∨k=2∨k=3:=by omega
 rcases this with rfl|rfl|rfl|rfl
 ·show IntKind.i64.wrap ((x:Int) * 1)=_
  rw[IntWalk.i64_in _ (by omega)];simp
 ·show IntKind.i64.wrap ((x:Int) * 256)=_
  rw[IntWalk.i64_in _ (by omega)];simp
 ·show IntKind.i64.wrap ((x:Int) * 65536)=_
  rw[IntWalk.i64_in _ (by omega)];simp
 ·show IntKind.i64.wrap ((x:Int) * 16777216)=_
  rw[IntWalk.i64_in _ (by omega)];simp
theorem wr {k:Nat}(hk:k < 4):256 ^ k≤16777216:=by
 have:=Nat.pow_le_pow_right (n:=256) (by omega) (show k≤3 by omega)
 exact this
theorem Fd {n x k:Nat}(hk:k < 4)(hn:n < 256 ^ k)(hx:x < 256):IntKind.i64.wrap ((BitVec.ofInt IntKind.i64.bits (n:Int) ||| BitVec.ofInt IntKind.i64.bits (IntKind.i64.wrap ((x:Int) * 2 ^ (min (Int.toNat (IntKind.i64.wrap (8 * (k:Int)))) IntKind.i64.bits)))).toNat:Int)=((n+x * 256 ^ k:Nat):Int):=by
 rw[wD hk hx]
 have h4:=wr hk
 have h5:x * 256 ^ k≤255 * 16777216:=Nat.mul_le_mul (by omega) h4
 have e:(BitVec.ofInt IntKind.i64.bits (n:Int) ||| BitVec.ofInt IntKind.i64.bits ((x * 256 ^ k:Nat):Int)).toNat=n+x * 256 ^ k:=by
  show(BitVec.ofInt 64 (n:Int) ||| BitVec.ofInt 64 ((x * 256 ^ k:Nat):Int)).toNat=_
  rw[BitVec.toNat_or,BitVec.toNat_ofInt,BitVec.toNat_ofInt]
  have e1:((n:Int) % ((2 ^ 64:Nat):Int)).toNat=n:=by omega
  have e2:(((x * 256 ^ k:Nat):Int) % ((2 ^ 64:Nat):Int)).toNat=x * 256 ^ k:=by omega
  rw[e1,e2,He hn]
 rw[e,IntWalk.i64_in _ (by omega)]
theorem xe (c:Int):∃n:Nat,(bk c).1=(n:Int)∧(n=0∨n=1∨n=2∨n=4)∧((bk c).2=true→n=2∨n=4):=by
 rcases yX c with h|h|h|h|h <;> rw[h]
 ·exact⟨4,rfl,by omega,by omega⟩
 ·exact⟨2,rfl,by omega,by omega⟩
 ·exact⟨2,rfl,by omega,by simp⟩
 ·exact⟨1,rfl,by omega,by simp⟩
 ·exact⟨0,rfl,by omega,by simp⟩
theorem zo {c:Int}{n m:Nat}(hn:(bk c).1=(n:Int))(hg:(bk c).2=true)(h:2 ^ (8 * n - 1)≤m):yk c m=(m:Int) - 2 ^ (8 * n):=by
 rw[yk,hn,Int.toNat_natCast,if_pos ⟨hg,h⟩]
theorem Cd {c:Int}{n m:Nat}(hn:(bk c).1=(n:Int))(h:¬((bk c).2=true∧2 ^ (8 * n - 1)≤m)):yk c m=(m:Int):=by
 rw[yk,hn,Int.toNat_natCast,if_neg h]
theorem lI (s:List UInt8)(p:Int)(hs:s.length≤1048576)(hp:p≤9223372036854775807):Sim.Spec Tryz.prog 104 [tvS s,tvI p] (rOp (ck s p)):=by
 refine aq hΓ ay Tryz.func104 rfl (by decide) rfl ?_
 have hb:=aD p 0 (IntKind.i64.wrap (s.length - 1))
 have hw:IntKind.i64.wrap ((s.length:Int) - 1)=(s.length:Int) - 1:=IntWalk.i64_in _ (by omega)
 by_cases hin:0≤p∧p < s.length
 ·obtain⟨p,rfl⟩:=Int.eq_ofNat_of_zero_le hin.1
  have hbt:af (p:Int) 0 (IntKind.i64.wrap (s.length - 1))=true:=by rw[hw];exact within_iff.2 ⟨by omega,by omega⟩
  rw[hbt]at hb
  obtain⟨b,hbb⟩:=ae (l:=s) (k:=p) (by omega)
  have hba:cH s p=b.toNat:=by rw[cH,hbb]
  have hz:=gG (b.toNat:Int)
  have ha:=fk (b.toNat:Int)
  have hzl:=gl (b.toNat:Int)
  have hlt:=UInt8.toNat_lt b
  have hwb:IntKind.i64.wrap (b.toNat:Int)=b.toNat:=IntWalk.i64_in _ (by omega)
  rw[ck,if_pos hin,Int.toNat_natCast,hba]
  by_cases hno:aN (b.toNat:Int)=0∨(s.length:Int) < (p:Int)+aN (b.toNat:Int)
  ·rw[if_pos hno]
   repeat' ((conv=>whnf);first|refine Or.inl ?_|apply oi|(apply fi<;>intro h)|refine ci hb (ai rfl (ai rfl (ai rfl trivial))) ?_|refine⟨p,b,rfl,hbb,?_⟩|refine ci hz (ai KW trivial) ?_|refine⟨_,rfl,?_⟩|exact rfl)
   all_goals try exact⟨KO⟩
   all_goals(exfalso;rename_i h0;have h1:¬aN (b.toNat:Int)=0:=(by simpa using h0);rw[IntWalk.i64_in _ (by omega)]at h;have h':=of_decide_eq_false h;omega)
  ·rw[if_neg hno]
   repeat' ((conv=>whnf);first|refine Or.inl ?_|apply oi|(apply fi<;>intro h)|refine ci hb (ai rfl (ai rfl (ai rfl trivial))) ?_|refine⟨p,b,rfl,hbb,?_⟩|refine ci hz (ai KW trivial) ?_|refine ci ha (ai KW trivial) ?_|refine⟨_,rfl,?_⟩|exact rfl)
   all_goals try exact⟨KO⟩
   all_goals try(exfalso;first|(have h1:aN (b.toNat:Int)=0:=(by simpa using h);omega)|(rw[IntWalk.i64_in _ (by omega)]at h;have h':=of_decide_eq_true h;omega))
   obtain⟨n,hn,hn4,hng⟩:=xe (b.toNat:Int)
   have hos:aN (b.toNat:Int)=n+1:=by
    have h1:¬aN (b.toNat:Int)=0:=fun h=>hno (Or.inl h)
    unfold aN at h1 ⊢
    split at h1
    ·rename_i hwi
     rw[if_pos hwi,hn]
    ·omega
   have hav1:=fun m=>zo (m:=m) hn
   have hav2:=fun m=>Cd (m:=m) hn
   rw[hn,Int.toNat_natCast]
   generalize(bk (b.toNat:Int)).2=sg at *
   generalize hV:yk (b.toNat:Int)=V at *
   conv=>whnf
   refine⟨{k:Nat // k≤n},fun k=>⟨[(0,tS s),(1,tI .i64 (p:Int)),(4,.r (.c (.ptr (4,0,0) 0))),(7,.r (.c (.ptr (7,0,0) 0))),(8,tI .i64 (aN (b.toNat:Int))),(9,tI .i64 (n:Int)),(10,tB sg),(11,tI .i64 (k.1:Int))],[((7,0,0),some (.box [.t (.int .i64 b.toNat),.t (.int .i64 (bm s (p+1) k.1:Nat))])),((4,0,0),some (.box [.t (.int .i64 0),.t (.int .i64 0)]))],[7,4]⟩,fun k=>n - k.1,⟨0,by omega⟩,?_,?_⟩
   ·skip
    repeat' ((conv=>whnf);first|refine Or.inl ?_|apply oi|(apply fi<;>intro h)|refine⟨_,rfl,?_⟩|exact rfl)
    all_goals try exact⟨KO⟩
    all_goals exact⟨by first|rfl|(rw[hwb];done)|(rw[hn];done)⟩
   intro⟨k,hk⟩
   dsimp only
   by_cases hlt2:k < n
   ·obtain⟨b2,hb2⟩:=ae (l:=s) (k:=p+1+k) (by omega)
    have hbb2:cH s (p+1+k)=b2.toNat:=by rw[cH,hb2]
    have hl2:=UInt8.toNat_lt b2
    have ha1:=ku s (p+1) k
    have hix:IntKind.i64.wrap (IntKind.i64.wrap ((p:Int)+1)+k)=((p+1+k:Nat):Int):=by rw[IntWalk.i64_in ((p:Int)+1) (by omega),IntWalk.i64_in _ (by omega)];omega
    have hst:bm s (p+1) (k+1)=bm s (p+1) k+b2.toNat * 256 ^ k:=by rw[bm,hbb2]
    have hw2:IntKind.i64.wrap (b2.toNat:Int)=b2.toNat:=IntWalk.i64_in _ (by omega)
    repeat' ((conv=>whnf);first|refine Or.inl ?_|apply oi|(apply fi<;>intro h)|refine⟨(p+1+k),b2,hix,hb2,?_⟩|refine⟨_,rfl,?_⟩|exact rfl)
    all_goals try exact⟨KO⟩
    all_goals try exact KX
    all_goals try exact⟨K7⟩
    conv=>whnf
    refine⟨⟨k+1,by omega⟩,?_,KD⟩
    repeat' ((conv=>whnf);first|refine Or.inl ?_|apply oi|(apply fi<;>intro h)|refine⟨_,rfl,?_⟩|exact rfl)
    all_goals try exact⟨KO⟩
    ·exact⟨by dsimp only;rw[IntWalk.i64_in _ (by omega)];rfl⟩
    ·refine⟨congrArg (Tr.int _) ?_⟩
     dsimp only
     rw[hst,hw2]
     exact Fd (by omega) ha1 hl2
   ·have hkn:k=n:=by omega
    subst hkn
    have ha1:=ku s (p+1) k
    cases sg with
    | false=>
     have hv:=hav2 (bm s (p+1) k) (by simp)
     repeat' ((conv=>whnf);first|refine Or.inl ?_|apply oi|(apply fi<;>intro h)|refine⟨_,rfl,?_⟩|exact rfl)
     all_goals try exact⟨KO⟩
     all_goals try exact KX
     all_goals(refine⟨congrArg (Tr.int _) ?_⟩;simp only[opX,opZ];first|(rw[hv];done)|omega)
    | true=>
     have hAB:∃A B:Nat,2 ^ (8 * k - 1)=A∧2 ^ (8 * k)=B∧B≤4294967296∧IntKind.i64.wrap (1 * 2 ^ (min (Int.toNat (IntKind.i64.wrap (IntKind.i64.wrap (8 * (k:Int)) - 1))) IntKind.i64.bits))=(A:Int)∧
       IntKind.i64.wrap (1 * 2 ^ (min (Int.toNat (IntKind.i64.wrap (8 * (k:Int)))) IntKind.i64.bits))=(B:Int)∧256 ^ k=B:=by
      rcases hng rfl with h|h <;> rw[h]
      ·exact⟨32768,65536,by decide,by decide,by decide,by decide,by decide,by decide⟩
      ·exact⟨2147483648,4294967296,by decide,by decide,by decide,by decide,by decide,by decide⟩
     obtain⟨A,B,hA,hB,hBl,hc1,hc2,h256⟩:=hAB
     rw[h256]at ha1
     have hB':(2:Int) ^ (8 * k)=(B:Int):=by rw[←hB];simp
     rw[hA,hB']at hav1
     rw[hA]at hav2
     have hsh1:0≤IntKind.i64.wrap (IntKind.i64.wrap (8 * (k:Int)) - 1):=by
      rcases hng rfl with h|h <;> rw[h] <;> decide
     have hsh2:0≤IntKind.i64.wrap (8 * (k:Int)):=by
      rcases hng rfl with h|h <;> rw[h] <;> decide
     by_cases hge:A≤bm s (p+1) k
     ·have hv:=hav1 _ rfl hge
      have hws:IntKind.i64.wrap ((bm s (p+1) k:Int) - (B:Int))=(bm s (p+1) k:Int) - B:=IntWalk.i64_in _ (by omega)
      repeat' ((conv=>whnf);first|refine Or.inl ?_|apply oi|(apply fi<;>intro h)|refine⟨_,rfl,?_⟩|exact rfl)
      all_goals try exact⟨KO⟩
      all_goals try exact KX
      all_goals try(exfalso;rw[hc1]at h;have h':=of_decide_eq_false h;omega)
      all_goals first
       | exact⟨hsh1⟩
       | exact⟨hsh2⟩
       |(refine⟨congrArg (Tr.int _) ?_⟩;simp only[opX,opZ];first|(rw[hc2,hws,hv];done)|omega)
     ·have hv:=hav2 _ (fun h=>hge h.2)
      repeat' ((conv=>whnf);first|refine Or.inl ?_|apply oi|(apply fi<;>intro h)|refine⟨_,rfl,?_⟩|exact rfl)
      all_goals try exact⟨KO⟩
      all_goals try exact KX
      all_goals try(exfalso;rw[hc1]at h;have h':=of_decide_eq_true h;omega)
      all_goals first
       | exact⟨hsh1⟩
       | exact⟨hsh2⟩
       |(refine⟨congrArg (Tr.int _) ?_⟩;simp only[opX,opZ];first|(rw[hv];done)|omega)
 ·rw[ck,if_neg hin]
  have hbt:af p 0 (IntKind.i64.wrap (s.length - 1))=false:=by
   rw[hw]
   cases h:af p 0 ((s.length:Int) - 1)with
   | false=>rfl
   | true=>exact absurd (within_iff.1 h) (by omega)
  rw[hbt]at hb
  repeat' ((conv=>whnf);first|refine Or.inl ?_|apply oi|(apply fi<;>intro h)|refine ci hb (ai rfl (ai rfl (ai rfl trivial))) ?_|refine⟨_,rfl,?_⟩|exact rfl)
  all_goals try exact⟨KO⟩
theorem sK (s:List UInt8)(p:Int)(hs:s.length≤1048576)(hp:p≤9223372036854775807):Sim.Spec Tryz.prog 183 [tvS s,tvI p] (rOp (ck s p)):=by
 refine aq hΓ ay Tryz.func183 rfl (by decide) rfl ?_
 have hw:IntKind.i64.wrap ((s.length:Int) - 1)=(s.length:Int) - 1:=IntWalk.i64_in _ (by omega)
 by_cases hin:0≤p∧p < s.length
 ·obtain⟨p,rfl⟩:=Int.eq_ofNat_of_zero_le hin.1
  obtain⟨b,hbb⟩:=ae (l:=s) (k:=p) (by omega)
  have hba:cH s p=b.toNat:=by rw[cH,hbb]
  have hz:=nQ (b.toNat:Int)
  have ha:=fm (b.toNat:Int)
  have hzl:=gl (b.toNat:Int)
  have hlt:=UInt8.toNat_lt b
  have hwb:IntKind.i64.wrap (b.toNat:Int)=b.toNat:=IntWalk.i64_in _ (by omega)
  rw[ck,if_pos hin,Int.toNat_natCast,hba]
  by_cases hno:aN (b.toNat:Int)=0∨(s.length:Int) < (p:Int)+aN (b.toNat:Int)
  ·rw[if_pos hno]
   have hw6:IntKind.i64.wrap (IntKind.i64.wrap ((p:Int)+1)+(bk (b.toNat:Int)).1)=(p:Int)+1+(bk (b.toNat:Int)).1:=by
    have:=cL (b.toNat:Int)
    rw[IntWalk.i64_in ((p:Int)+1) (by omega),IntWalk.i64_in _ (by omega)]
   have hos0:¬aN (b.toNat:Int)=0→aN (b.toNat:Int)=(bk (b.toNat:Int)).1+1:=fun h=>by
    unfold aN at h ⊢
    split at h
    ·rename_i hwi;rw[if_pos hwi]
    ·omega
   repeat' ((conv=>whnf);first|refine Or.inl ?_|apply oi|(apply fi<;>intro h)|refine⟨p,b,rfl,hbb,?_⟩|refine ci hz (ai KW trivial) ?_|refine ci ha (ai KW trivial) ?_|refine⟨_,rfl,?_⟩|exact rfl)
   all_goals try exact⟨KO⟩
   all_goals try(exfalso;first|(have h':=of_decide_eq_true h;omega))
   all_goals(exfalso;rename_i h0;have h1:¬aN (b.toNat:Int)=0:=(by simpa using h0);rw[hw6]at h;have h':=of_decide_eq_false h;have:=hos0 h1;omega)
  ·rw[if_neg hno]
   have hw6:IntKind.i64.wrap (IntKind.i64.wrap ((p:Int)+1)+(bk (b.toNat:Int)).1)=(p:Int)+1+(bk (b.toNat:Int)).1:=by
    have:=cL (b.toNat:Int)
    rw[IntWalk.i64_in ((p:Int)+1) (by omega),IntWalk.i64_in _ (by omega)]
   have hos0:aN (b.toNat:Int)=(bk (b.toNat:Int)).1+1:=by
    have h:¬aN (b.toNat:Int)=0:=fun h=>hno (Or.inl h)
    unfold aN at h ⊢
    split at h
    ·rename_i hwi;rw[if_pos hwi]
    ·omega
   repeat' ((conv=>whnf);first|refine Or.inl ?_|apply oi|(apply fi<;>intro h)|refine⟨p,b,rfl,hbb,?_⟩|refine ci hz (ai KW trivial) ?_|refine ci ha (ai KW trivial) ?_|refine⟨_,rfl,?_⟩|exact rfl)
   all_goals try exact⟨KO⟩
   all_goals try(exfalso;first|(have h1:aN (b.toNat:Int)=0:=(by simpa using h);omega)|(rw[hw6]at h;have h':=of_decide_eq_true h;omega)|(have h':=of_decide_eq_true h;omega))
   clear hw6
   obtain⟨n,hn,hn4,hng⟩:=xe (b.toNat:Int)
   have hos:aN (b.toNat:Int)=n+1:=by
    have h1:¬aN (b.toNat:Int)=0:=fun h=>hno (Or.inl h)
    unfold aN at h1 ⊢
    split at h1
    ·rename_i hwi
     rw[if_pos hwi,hn]
    ·omega
   have hav1:=fun m=>zo (m:=m) hn
   have hav2:=fun m=>Cd (m:=m) hn
   rw[hn,Int.toNat_natCast]
   generalize(bk (b.toNat:Int)).2=sg at *
   generalize hV:yk (b.toNat:Int)=V at *
   conv=>whnf
   refine⟨{k:Nat // k≤n},fun k=>⟨[(0,tS s),(1,tI .i64 (p:Int)),(4,.r (.c (.ptr (4,0,0) 0))),(7,.r (.c (.ptr (7,0,0) 0))),(8,tI .i64 (n:Int)),(9,tB sg),(10,tI .i64 (k.1:Int))],[((7,0,0),some (.box [.t (.int .i64 b.toNat),.t (.int .i64 (bm s (p+1) k.1:Nat))])),((4,0,0),some (.box [.t (.int .i64 0),.t (.int .i64 0)]))],[7,4]⟩,fun k=>n - k.1,⟨0,by omega⟩,?_,?_⟩
   ·skip
    repeat' ((conv=>whnf);first|refine Or.inl ?_|apply oi|(apply fi<;>intro h)|refine⟨_,rfl,?_⟩|exact rfl)
    all_goals try exact⟨KO⟩
    all_goals exact⟨by first|rfl|(rw[hwb];done)|(rw[hn];done)⟩
   intro⟨k,hk⟩
   dsimp only
   by_cases hlt2:k < n
   ·obtain⟨b2,hb2⟩:=ae (l:=s) (k:=p+1+k) (by omega)
    have hbb2:cH s (p+1+k)=b2.toNat:=by rw[cH,hb2]
    have hl2:=UInt8.toNat_lt b2
    have ha1:=ku s (p+1) k
    have hix:IntKind.i64.wrap (IntKind.i64.wrap ((p:Int)+1)+k)=((p+1+k:Nat):Int):=by rw[IntWalk.i64_in ((p:Int)+1) (by omega),IntWalk.i64_in _ (by omega)];omega
    have hst:bm s (p+1) (k+1)=bm s (p+1) k+b2.toNat * 256 ^ k:=by rw[bm,hbb2]
    have hw2:IntKind.i64.wrap (b2.toNat:Int)=b2.toNat:=IntWalk.i64_in _ (by omega)
    repeat' ((conv=>whnf);first|refine Or.inl ?_|apply oi|(apply fi<;>intro h)|refine⟨(p+1+k),b2,hix,hb2,?_⟩|refine⟨_,rfl,?_⟩|exact rfl)
    all_goals try exact⟨KO⟩
    all_goals try exact KX
    all_goals try exact⟨K7⟩
    conv=>whnf
    refine⟨⟨k+1,by omega⟩,?_,KD⟩
    repeat' ((conv=>whnf);first|refine Or.inl ?_|apply oi|(apply fi<;>intro h)|refine⟨_,rfl,?_⟩|exact rfl)
    all_goals try exact⟨KO⟩
    ·exact⟨by dsimp only;rw[IntWalk.i64_in _ (by omega)];rfl⟩
    ·refine⟨congrArg (Tr.int _) ?_⟩
     dsimp only
     rw[hst,hw2]
     rw[wD (by omega) hl2]
     have h4:=wr (show k < 4 by omega)
     have h5:b2.toNat * 256 ^ k≤255 * 16777216:=Nat.mul_le_mul (by omega) h4
     rw[IntWalk.i64_in _ (by omega)]
     simp
   ·have hkn:k=n:=by omega
    subst hkn
    have ha1:=ku s (p+1) k
    have hwz:IntKind.i64.wrap (1+(k:Int))=1+k:=IntWalk.i64_in _ (by omega)
    cases sg with
    | false=>
     have hv:=hav2 (bm s (p+1) k) (by simp)
     repeat' ((conv=>whnf);first|refine Or.inl ?_|apply oi|(apply fi<;>intro h)|refine⟨_,rfl,?_⟩|exact rfl)
     all_goals try exact⟨KO⟩
     all_goals try exact KX
     all_goals(refine⟨congrArg (Tr.int _) ?_⟩;simp only[opX,opZ];first|(rw[hv];done)|(rw[hwz];omega))
    | true=>
     have hAB:∃A B:Nat,2 ^ (8 * k - 1)=A∧2 ^ (8 * k)=B∧B≤4294967296∧IntKind.i64.wrap (1 * 2 ^ (min (Int.toNat (IntKind.i64.wrap (IntKind.i64.wrap (8 * (k:Int)) - 1))) IntKind.i64.bits))=(A:Int)∧
       IntKind.i64.wrap (1 * 2 ^ (min (Int.toNat (IntKind.i64.wrap (8 * (k:Int)))) IntKind.i64.bits))=(B:Int)∧256 ^ k=B:=by
      rcases hng rfl with h|h <;> rw[h]
      ·exact⟨32768,65536,by decide,by decide,by decide,by decide,by decide,by decide⟩
      ·exact⟨2147483648,4294967296,by decide,by decide,by decide,by decide,by decide,by decide⟩
     obtain⟨A,B,hA,hB,hBl,hc1,hc2,h256⟩:=hAB
     rw[h256]at ha1
     have hB':(2:Int) ^ (8 * k)=(B:Int):=by rw[←hB];simp
     rw[hA,hB']at hav1
     rw[hA]at hav2
     have hsh1:0≤IntKind.i64.wrap (IntKind.i64.wrap (8 * (k:Int)) - 1):=by
      rcases hng rfl with h|h <;> rw[h] <;> decide
     have hsh2:0≤IntKind.i64.wrap (8 * (k:Int)):=by
      rcases hng rfl with h|h <;> rw[h] <;> decide
     by_cases hge:A≤bm s (p+1) k
     ·have hv:=hav1 _ rfl hge
      have hws:IntKind.i64.wrap ((bm s (p+1) k:Int) - (B:Int))=(bm s (p+1) k:Int) - B:=IntWalk.i64_in _ (by omega)
      repeat' ((conv=>whnf);first|refine Or.inl ?_|apply oi|(apply fi<;>intro h)|refine⟨_,rfl,?_⟩|exact rfl)
      all_goals try exact⟨KO⟩
      all_goals try exact KX
      all_goals try(exfalso;rw[hc1]at h;have h':=of_decide_eq_false h;omega)
      all_goals first
       | exact⟨hsh1⟩
       | exact⟨hsh2⟩
       |(refine⟨congrArg (Tr.int _) ?_⟩;simp only[opX,opZ];first|(rw[hc2,hws,hv];done)|(rw[hwz];omega))
     ·have hv:=hav2 _ (fun h=>hge h.2)
      repeat' ((conv=>whnf);first|refine Or.inl ?_|apply oi|(apply fi<;>intro h)|refine⟨_,rfl,?_⟩|exact rfl)
      all_goals try exact⟨KO⟩
      all_goals try exact KX
      all_goals try(exfalso;rw[hc1]at h;have h':=of_decide_eq_true h;omega)
      all_goals first
       | exact⟨hsh1⟩
       | exact⟨hsh2⟩
       |(refine⟨congrArg (Tr.int _) ?_⟩;simp only[opX,opZ];first|(rw[hv];done)|(rw[hwz];omega))
 ·rw[ck,if_neg hin]
  repeat' ((conv=>whnf);first|refine Or.inl ?_|apply oi|(apply fi<;>intro h)|refine⟨_,rfl,?_⟩|exact rfl)
  all_goals try exact⟨KO⟩
  all_goals(exfalso;rename_i h0;have h1:=of_decide_eq_false h0;have h2:=of_decide_eq_false h;omega)
def lZ (s:List UInt8):Nat→Nat→Option (List HJ)
 | 0,p=>if p < s.length then none else some []
 | f+1,p=>if p < s.length then(match ck s (p:Int)with
   | some x=>(lZ s f (p+x.2)).map (x.1::·)
   | none=>none)else some []
def eS (s:List UInt8):Option (List HJ):=lZ s s.length 0
theorem gK {s:List UInt8}{p:Nat}{x:HJ}{z:Nat}(h:ck s (p:Int)=some (x,z)):1≤z∧z≤5∧p+z≤s.length:=by
 unfold ck at h
 split at h
 ·rename_i hin
  split at h
  ·cases h
  ·rename_i hno
   injection h with h
   injection h with h1 h2
   rw[not_or]at hno
   have:=gl (cH s (p:Int).toNat)
   omega
 ·cases h
theorem qU {s:List UInt8}:∀{f p:Nat},s.length - p≤f→lZ s f p=lZ s (s.length - p) p
 | 0,p,h=>by rw[show s.length - p=0 by omega]
 | f+1,p,h=>by
  rcases Nat.lt_or_ge p s.length with hlt|hge
  ·obtain⟨m,hm⟩:∃m,s.length - p=m+1:=⟨s.length - p - 1,by omega⟩
   rw[hm,lZ,lZ,if_pos hlt,if_pos hlt]
   match hd:ck s (p:Int)with
   | none=>rfl
   | some (x,z)=>
    have:=gK hd
    dsimp only
    rw[qU (f:=f) (p:=p+z) (by omega),qU (f:=m) (p:=p+z) (by omega)]
  ·rw[lZ,if_neg (by omega),show s.length - p=0 by omega,lZ,if_neg (by omega)]
theorem ri {s:List UInt8}{p:Nat}(hlt:p < s.length):lZ s (s.length - p) p=(match ck s (p:Int)with
  | some x=>(lZ s (s.length - (p+x.2)) (p+x.2)).map (x.1::·)
  | none=>none):=by
 obtain⟨m,hm⟩:∃m,s.length - p=m+1:=⟨s.length - p - 1,by omega⟩
 rw[hm,lZ,if_pos hlt]
 match hd:ck s (p:Int)with
 | none=>rfl
 | some (x,z)=>
  have:=gK hd
  dsimp only
  rw[qU (f:=m) (p:=p+z) (by omega)]
theorem vK {s:List UInt8}{p:Nat}(hge:s.length≤p):lZ s (s.length - p) p=some []:=by
 rw[show s.length - p=0 by omega,lZ,if_neg (by omega)]
abbrev GC (s:List UInt8)(R:Option (List HJ)):={q:Nat×List HJ // q.1≤s.length∧q.2.length≤q.1∧(lZ s (s.length - q.1) q.1).map (q.2++·)=R}
theorem oo (s:List UInt8)(hs:s.length≤1048576):Sim.Spec Tryz.prog 170 [tvS s] (.tup [.c (.arr 2 ((oL (eS s)).map HJ.tr)),.c (.t (.bool (eS s).isSome))]):=by
 refine aq hΓ ay Tryz.func170 rfl (by decide) rfl ?_
 have hR0:(lZ s (s.length - 0) 0).map (([]:List HJ)++·)=eS s:=by simp[eS]
 generalize eS s=R at hR0 ⊢
 repeat' ((conv=>whnf);first|refine Or.inl ?_|apply oi|(apply fi<;>intro h)|refine⟨_,rfl,?_⟩|exact rfl)
 all_goals try exact⟨KO⟩
 conv=>whnf
 refine⟨GC s R,fun q=>⟨[(0,tS s),(4,.r (.c (.own (9,0,0)))),(5,tI .i64 (q.1.1:Int))],[((9,0,0),some (.arr true 2 (q.1.2.map HJ.tr)))],[9]⟩,fun q=>s.length - q.1.1,⟨(0,[]),by simp,by simp,hR0⟩,?_,?_⟩
 ·skip
  repeat' ((conv=>whnf);first|refine Or.inl ?_|apply oi|(apply fi<;>intro h)|refine⟨_,rfl,?_⟩|exact rfl)
  all_goals try exact⟨KO⟩
 intro⟨⟨p,acc⟩,hp,hal,hr⟩
 dsimp only at hp hal hr ⊢
 by_cases hlt:p < s.length
 ·have hD:=lI s (p:Int) hs (by omega)
  rw[ri hlt]at hr
  match hd:ck s (p:Int)with
  | none=>
   rw[hd]at hr hD
   dsimp only[rOp,opX,opZ,Option.isSome]at hr hD
   subst hr
   repeat' ((conv=>whnf);first|refine Or.inl ?_|apply oi|(apply fi<;>intro h)|refine ci hD (ai rfl (ai rfl trivial)) ?_|refine⟨_,rfl,?_⟩|exact rfl)
   all_goals try exact⟨KO⟩
   all_goals try exact KX
  | some (x,z)=>
   rw[hd]at hr hD
   have hz:=gK hd
   dsimp only[rOp,opX,opZ,Option.isSome]at hr hD
   repeat' ((conv=>whnf);first|refine Or.inl ?_|apply oi|(apply fi<;>intro h)|refine ci hD (ai rfl (ai rfl trivial)) ?_|refine⟨_,rfl,?_⟩|exact rfl)
   all_goals try exact⟨KO⟩
   all_goals try exact KX
   all_goals try exact⟨⟨by simp only[List.length_map,List.length_cons,List.length_nil];omega,by simp only[List.length_map,List.length_cons,List.length_nil];omega⟩⟩
   conv=>whnf
   refine⟨⟨(p+z,acc++[x]),by dsimp only;omega,by simp;omega,?_⟩,?_,KD⟩
   ·dsimp only
    rw[←hr,Option.map_map]
    congr 1
    funext l
    simp
   repeat' ((conv=>whnf);first|refine Or.inl ?_|apply oi|(apply fi<;>intro h)|refine⟨_,rfl,?_⟩|exact rfl)
   all_goals try exact⟨KO⟩
   all_goals first
    |(refine⟨congrArg (Tr.int _) ?_⟩;dsimp only;rw[IntWalk.i64_in _ (by omega)];omega)
    |(refine⟨?_⟩;dsimp only;rw[List.map_append];rfl)
 ·have hge:s.length≤p:=by omega
  rw[vK hge]at hr
  simp only[Option.map_some,List.append_nil]at hr
  subst hr
  repeat' ((conv=>whnf);first|refine Or.inl ?_|apply oi|(apply fi<;>intro h)|refine⟨_,rfl,?_⟩|exact rfl)
  all_goals try exact⟨KO⟩
  all_goals try exact KX
theorem ox (s:List UInt8)(hs:s.length≤1048576):Sim.Spec Tryz.prog 222 [tvS s] (.tup [.c (.arr 2 ((oL (eS s)).map HJ.tr)),.c (.t (.bool (eS s).isSome))]):=by
 refine aq hΓ ay Tryz.func222 rfl (by decide) rfl ?_
 have hR0:(lZ s (s.length - 0) 0).map (([]:List HJ)++·)=eS s:=by simp[eS]
 generalize eS s=R at hR0 ⊢
 repeat' ((conv=>whnf);first|refine Or.inl ?_|apply oi|(apply fi<;>intro h)|refine⟨_,rfl,?_⟩|exact rfl)
 all_goals try exact⟨KO⟩
 conv=>whnf
 refine⟨GC s R,fun q=>⟨[(0,tS s),(4,.r (.c (.own (9,0,0)))),(5,tI .i64 (q.1.1:Int))],[((9,0,0),some (.arr true 2 (q.1.2.map HJ.tr)))],[9]⟩,fun q=>s.length - q.1.1,⟨(0,[]),by simp,by simp,hR0⟩,?_,?_⟩
 ·skip
  repeat' ((conv=>whnf);first|refine Or.inl ?_|apply oi|(apply fi<;>intro h)|refine⟨_,rfl,?_⟩|exact rfl)
  all_goals try exact⟨KO⟩
 intro⟨⟨p,acc⟩,hp,hal,hr⟩
 dsimp only at hp hal hr ⊢
 by_cases hlt:p < s.length
 ·have hD:=sK s (p:Int) hs (by omega)
  rw[ri hlt]at hr
  match hd:ck s (p:Int)with
  | none=>
   rw[hd]at hr hD
   dsimp only[rOp,opX,opZ,Option.isSome]at hr hD
   subst hr
   repeat' ((conv=>whnf);first|refine Or.inl ?_|apply oi|(apply fi<;>intro h)|refine ci hD (ai rfl (ai rfl trivial)) ?_|refine⟨_,rfl,?_⟩|exact rfl)
   all_goals try exact⟨KO⟩
   all_goals try exact KX
  | some (x,z)=>
   rw[hd]at hr hD
   have hz:=gK hd
   dsimp only[rOp,opX,opZ,Option.isSome]at hr hD
   repeat' ((conv=>whnf);first|refine Or.inl ?_|apply oi|(apply fi<;>intro h)|refine ci hD (ai rfl (ai rfl trivial)) ?_|refine⟨_,rfl,?_⟩|exact rfl)
   all_goals try exact⟨KO⟩
   all_goals try exact KX
   all_goals try exact⟨⟨by simp only[List.length_map,List.length_cons,List.length_nil];omega,by simp only[List.length_map,List.length_cons,List.length_nil];omega⟩⟩
   conv=>whnf
   refine⟨⟨(p+z,acc++[x]),by dsimp only;omega,by simp;omega,?_⟩,?_,KD⟩
   ·dsimp only
    rw[←hr,Option.map_map]
    congr 1
    funext l
    simp
   repeat' ((conv=>whnf);first|refine Or.inl ?_|apply oi|(apply fi<;>intro h)|refine⟨_,rfl,?_⟩|exact rfl)
   all_goals try exact⟨KO⟩
   all_goals first
    |(refine⟨congrArg (Tr.int _) ?_⟩;dsimp only;rw[IntWalk.i64_in _ (by omega)];omega)
    |(refine⟨?_⟩;dsimp only;rw[List.map_append];rfl)
 ·have hge:s.length≤p:=by omega
  rw[vK hge]at hr
  simp only[Option.map_some,List.append_nil]at hr
  subst hr
  repeat' ((conv=>whnf);first|refine Or.inl ?_|apply oi|(apply fi<;>intro h)|refine⟨_,rfl,?_⟩|exact rfl)
  all_goals try exact⟨KO⟩
  all_goals try exact KX
def eY (seen:List HO)(nm:List UInt8):Bool:=seen.any fun y=>y.fac==nm
def uU (len a:Nat)(x:HO):Bool:=x.fah==(a:Int) && (decide (1≤x.fan) && (decide (x.fan≤(len:Int) - a) && cE x.fac))
def uZ (code:List UInt8)(seen:List HO)(a:Nat)(x:HO):Bool:=uU code.length a x && (!(eY seen x.fac) && (eS ((code.take (a+x.fan.toNat)).drop a)).isSome)
def ey (code:List UInt8):List HO→Nat→List HO→Bool
 | _,a,[]=>a==code.length
 | seen,a,x::l=>uZ code seen a x && ey code (seen++[x]) (a+x.fan.toNat) l
def bq (i:HE):Bool:=decide (i.fab.length≤1000000) && ey i.fab [] 0 i.faf
theorem DK {code:List UInt8}{l:List HO}{k a:Nat}{x:HO}(hx:l[k]?=some x):ey code (l.take k) a (l.drop k)=(uZ code (l.take k) a x && ey code (l.take (k+1)) (a+x.fan.toNat) (l.drop (k+1))):=by
 rw[dq hx,ey]
 obtain⟨hk,rfl⟩:=List.getElem?_eq_some_iff.1 hx
 rw[List.take_succ_eq_append_getElem hk]
theorem wY {l:List HO}{j:Nat}{y:HO}{nm:List UInt8}(hy:l[j]?=some y):eY (l.take (j+1)) nm=(eY (l.take j) nm || y.fac==nm):=by
 obtain⟨hk,rfl⟩:=List.getElem?_eq_some_iff.1 hy
 rw[List.take_succ_eq_append_getElem hk,eY,List.any_append]
 simp[eY]
theorem Ak {l:List HO}{j k:Nat}{y:HO}(hy:l[j]?=some y)(h:j < k):eY (l.take k) y.fac=true:=by
 rw[eY,List.any_eq_true]
 refine⟨y,?_,by simp⟩
 rw[List.mem_iff_getElem?]
 exact⟨j,by rw[List.getElem?_take,if_pos h];exact hy⟩
theorem imgPre_iff {len a:Nat}{x:HO}:uU len a x=true↔x.fah=(a:Int)∧1≤x.fan∧x.fan≤(len:Int) - a∧cE x.fac=true:=by
 unfold uU
 rw[Bool.and_eq_true,Bool.and_eq_true,Bool.and_eq_true,beq_iff_eq,decide_eq_true_eq,decide_eq_true_eq]
abbrev Gu (code:List UInt8)(l:List HO):={q:Nat×Nat // q.1≤l.length∧q.2≤code.length∧ey code (l.take q.1) q.2 (l.drop q.1)=ey code [] 0 l}
theorem tJ (i:HE)(hs:aK 1048576 i.tr):Sim.Spec Tryz.prog 101 [.agg i.tr] (rB (bq i)):=by
 refine aq hΓ ay Tryz.func101 rfl (by decide) rfl ?_
 obtain⟨code,l⟩:=i
 simp only[HE.tr,aK]at hs
 have hcl:code.length≤1048576:=by have:=hs.1;rw[aB]at this;omega
 have hl:=cv hs.2.1
 have hlen:(l.map HO.tr).length=l.length:=by simp
 unfold bq
 dsimp only
 by_cases hbig:code.length≤1000000
 ·rw[show decide (code.length≤1000000)=true from decide_eq_true hbig,Bool.true_and]
  repeat' ((conv=>whnf);first|refine Or.inl ?_|apply oi|(apply fi<;>intro h)|refine⟨_,rfl,?_⟩|exact rfl)
  all_goals try exact⟨KO⟩
  all_goals try(exfalso;have h':=of_decide_eq_true h;dsimp only at h';omega;done)
  conv=>whnf
  refine⟨Gu code l,fun q=>⟨[(1,.r (.c (.ptr (1,0,0) 0))),(3,tI .i64 (q.1.2:Int)),(15,.r (.c (.t (.lst 3 (l.map HO.tr))))),(16,tI .i64 ((l.map HO.tr).length:Int)),(17,tI .i64 (q.1.1:Int))],[((1,0,0),some (.box [.t (.str code),.t (.lst 3 (l.map HO.tr))]))],[1]⟩,fun q=>l.length - q.1.1,⟨(0,0),by simp,by simp,by simp⟩,?_,?_⟩
  ·skip
   repeat' ((conv=>whnf);first|refine Or.inl ?_|apply oi|(apply fi<;>intro h)|refine⟨_,rfl,?_⟩|exact rfl)
   all_goals try exact⟨KO⟩
  intro⟨⟨k,a⟩,hk,ha,hr⟩
  dsimp only at hk ha hr ⊢
  by_cases hlt:k < l.length
  ·obtain⟨x,hx⟩:=ae hlt
   have hxl:x.fac.length≤1099511627775:=by
    have:=aT hs.2.1 (List.mem_of_getElem? hx)
    simp only[HO.tr,aK,aB]at this
    omega
   have hN:=gD x.fac hxl
   rw[DK hx,uZ]at hr
   have hw1:IntKind.i64.wrap ((code.length:Int) - a)=(code.length:Int) - a:=IntWalk.i64_in _ (by omega)
   cases hpre:uU code.length a x with
   | false=>
    rw[hpre,Bool.false_and,Bool.false_and]at hr
    repeat' ((conv=>whnf);first|refine Or.inl ?_|apply oi|(apply fi<;>intro h)|refine⟨k,x.tr,rfl,ab hx,?_⟩|refine ci hN (ai rfl trivial) ?_|refine⟨_,rfl,?_⟩|exact rfl)
    all_goals try exact⟨KO⟩
    all_goals try(exfalso;have h':=of_decide_eq_false h;rw[hlen]at h';omega;done)
    all_goals try exact⟨by rw[←hr]⟩
    all_goals(exfalso;rw[←Bool.not_eq_true,imgPre_iff]at hpre;apply hpre;rw[hw1]at *;(simp_all) <;> omega)
   | true=>
    obtain⟨p1,p2,p3,p4⟩:=imgPre_iff.1 hpre
    rw[p4]at hN
    rw[hpre,Bool.true_and]at hr
    repeat' ((conv=>whnf);first|refine Or.inl ?_|apply oi|(apply fi<;>intro h)|refine⟨k,x.tr,rfl,ab hx,?_⟩|refine ci hN (ai rfl trivial) ?_|refine⟨_,rfl,?_⟩|exact rfl)
    all_goals try exact⟨KO⟩
    all_goals try(exfalso;first|(have h':=of_decide_eq_false h;rw[hlen]at h';omega)|(simp at h;done)|(rw[p1]at h;simp at h;done)|(have h':=of_decide_eq_true h;(try rw[hw1]at h');omega))
    conv=>whnf
    refine⟨0,k,rfl,rfl,by omega,by rw[hlen];omega,?_⟩
    repeat' ((conv=>whnf);first|refine Or.inl ?_|apply oi|(apply fi<;>intro h)|refine⟨_,rfl,?_⟩|exact rfl)
    all_goals try exact⟨KO⟩
    conv=>whnf
    have hrl:(((l.map HO.tr).take k).drop 0).length=k:=by simp;omega
    refine⟨{j:Nat // j≤k∧eY (l.take j) x.fac=false},fun j=>⟨[(1,.r (.c (.ptr (1,0,0) 0))),(3,tI .i64 (a:Int)),(5,.r (.c (.ptr (5,0,0) 0))),(15,.r (.c (.t (.lst 3 (l.map HO.tr))))),(16,tI .i64 ((l.map HO.tr).length:Int)),(17,tI .i64 (k:Int)),(50,.r (.c (.t (.lst 3 (((l.map HO.tr).take k).drop 0))))),(51,tI .i64 ((((l.map HO.tr).take k).drop 0).length:Int)),(52,tI .i64 (j.1:Int))],[((1,0,0),some (.box [.t (.str code),.t (.lst 3 (l.map HO.tr))])),((5,0,0),some (.box [.t (.str x.fac),.t (.int .i64 x.fah),.t (.int .i64 x.fan)]))],[5,1]⟩,fun j=>k - j.1,⟨0,by omega,rfl⟩,?_,?_⟩
    ·skip
     repeat' ((conv=>whnf);first|refine Or.inl ?_|apply oi|(apply fi<;>intro h)|refine⟨_,rfl,?_⟩|exact rfl)
     all_goals try exact⟨KO⟩
    intro⟨j,hj,hsn⟩
    dsimp only
    by_cases hjk:j < k
    ·obtain⟨y,hy⟩:=ae (l:=l) (k:=j) (by omega)
     have hyr:(((l.map HO.tr).take k).drop 0)[j]?=some y.tr:=by rw[List.drop_zero,List.getElem?_take,if_pos hjk];exact ab hy
     have hst:=wY (nm:=x.fac) hy
     rw[hsn,Bool.false_or]at hst
     cases hyx:(y.fac==x.fac)with
     | true=>
      have hs2:=Ak hy hjk
      rw[beq_iff_eq.1 hyx]at hs2
      rw[hs2]at hr
      repeat' ((conv=>whnf);first|refine Or.inl ?_|apply oi|(apply fi<;>intro h)|refine⟨j,y.tr,rfl,hyr,?_⟩|refine⟨_,rfl,?_⟩|exact rfl)
      all_goals try exact⟨KO⟩
      all_goals first
       |(exfalso;have h':=of_decide_eq_false h;rw[hrl]at h';omega)
       | exact⟨by rw[←hr];rfl⟩
       |(exfalso;rw[hyx]at h;simp at h;done)
     | false=>
      rw[hyx]at hst
      repeat' ((conv=>whnf);first|refine Or.inl ?_|apply oi|(apply fi<;>intro h)|refine⟨j,y.tr,rfl,hyr,?_⟩|refine⟨_,rfl,?_⟩|exact rfl)
      all_goals try exact⟨KO⟩
      all_goals try(exfalso;first|(have h':=of_decide_eq_false h;rw[hrl]at h';omega)|(rw[hyx]at h;simp at h;done))
      conv=>whnf
      refine⟨⟨j+1,by omega,hst⟩,?_,KD⟩
      repeat' ((conv=>whnf);first|refine Or.inl ?_|apply oi|(apply fi<;>intro h)|refine⟨_,rfl,?_⟩|exact rfl)
      all_goals try exact⟨KO⟩
      all_goals exact⟨by dsimp only;rw[IntWalk.i64_in _ (by omega)];rfl⟩
    ·have hjk2:j=k:=by omega
     subst hjk2
     obtain⟨z,hz⟩:=Int.eq_ofNat_of_zero_le (show 0≤x.fan by omega)
     have hw2:IntKind.i64.wrap ((a:Int)+x.fan)=((a+z:Nat):Int):=by rw[IntWalk.i64_in _ (by omega),hz];rfl
     rw[hsn,hz,Int.toNat_natCast]at hr
     have hD:=oo ((code.take (a+z)).drop a) (by simp;omega)
     repeat' ((conv=>whnf);first|refine Or.inl ?_|apply oi|(apply fi<;>intro h)|refine⟨_,rfl,?_⟩|exact rfl)
     all_goals try exact⟨KO⟩
     all_goals try(exfalso;have h':=of_decide_eq_true h;rw[hrl]at h';omega)
     conv=>whnf
     refine⟨a,a+z,p1,hw2,by omega,by omega,?_⟩
     cases hds:(eS ((code.take (a+z)).drop a)).isSome with
     | false=>
      rw[hds]at hr hD
      repeat' ((conv=>whnf);first|refine Or.inl ?_|apply oi|(apply fi<;>intro h)|refine ci hD (ai rfl trivial) ?_|refine⟨_,rfl,?_⟩|exact rfl)
      all_goals try exact⟨KO⟩
      all_goals first
       | exact⟨by rw[←hr];rfl⟩
       |(exfalso;simp at h;done)
     | true=>
      rw[hds]at hr hD
      repeat' ((conv=>whnf);first|refine Or.inl ?_|apply oi|(apply fi<;>intro h)|refine ci hD (ai rfl trivial) ?_|refine⟨_,rfl,?_⟩|exact rfl)
      all_goals try exact⟨KO⟩
      all_goals try(exfalso;simp at h;done)
      conv=>whnf
      refine⟨⟨(j+1,a+z),by dsimp only;omega,by dsimp only;omega,by simpa using hr⟩,?_,KD⟩
      repeat' ((conv=>whnf);first|refine Or.inl ?_|apply oi|(apply fi<;>intro h)|refine⟨_,rfl,?_⟩|exact rfl)
      all_goals try exact⟨KO⟩
      all_goals first
       | exact⟨by dsimp only;rw[hw2]⟩
       | exact⟨by dsimp only;rw[IntWalk.i64_in _ (by omega)];rfl⟩
  ·have hge:l.length≤k:=by omega
   rw[List.drop_eq_nil_of_le hge,ey]at hr
   repeat' ((conv=>whnf);first|refine Or.inl ?_|apply oi|(apply fi<;>intro h)|refine⟨_,rfl,?_⟩|exact rfl)
   all_goals try exact⟨KO⟩
   all_goals try exact KX
   exact⟨by rw[←hr];congr 1;rw[Bool.eq_iff_iff,beq_iff_eq,beq_iff_eq];omega⟩
 ·rw[show decide (code.length≤1000000)=false from decide_eq_false hbig,Bool.false_and]
  repeat' ((conv=>whnf);first|refine Or.inl ?_|apply oi|(apply fi<;>intro h)|refine⟨_,rfl,?_⟩|exact rfl)
  all_goals try exact⟨KO⟩
  all_goals(exfalso;have h':=of_decide_eq_false h;dsimp only at h';omega)
theorem vq (i:HE)(hs:aK 1048576 i.tr):Sim.Spec Tryz.prog 164 [.agg i.tr] (rB (bq i)):=by
 refine aq hΓ ay Tryz.func164 rfl (by decide) rfl ?_
 obtain⟨code,l⟩:=i
 simp only[HE.tr,aK]at hs
 have hcl:code.length≤1048576:=by have:=hs.1;rw[aB]at this;omega
 have hl:=cv hs.2.1
 have hlen:(l.map HO.tr).length=l.length:=by simp
 unfold bq
 dsimp only
 repeat' ((conv=>whnf);first|refine Or.inl ?_|apply oi|(apply fi<;>intro h)|refine⟨_,rfl,?_⟩|exact rfl)
 all_goals try exact⟨KO⟩
 conv=>whnf
 refine⟨Gu code l,fun q=>⟨[(1,.r (.c (.ptr (1,0,0) 0))),(3,tI .i64 (q.1.2:Int)),(4,tI .i64 (q.1.1:Int))],[((1,0,0),some (.box [.t (.str code),.t (.lst 3 (l.map HO.tr))]))],[1]⟩,fun q=>l.length - q.1.1,⟨(0,0),by simp,by simp,by simp⟩,?_,?_⟩
 ·skip
  repeat' ((conv=>whnf);first|refine Or.inl ?_|apply oi|(apply fi<;>intro h)|refine⟨_,rfl,?_⟩|exact rfl)
  all_goals try exact⟨KO⟩
 intro⟨⟨k,a⟩,hk,ha,hr⟩
 dsimp only at hk ha hr ⊢
 by_cases hlt:k < l.length
 ·obtain⟨x,hx⟩:=ae hlt
  have hxl:x.fac.length≤1099511627775:=by
   have:=aT hs.2.1 (List.mem_of_getElem? hx)
   simp only[HO.tr,aK,aB]at this
   omega
  have hN:=eU x.fac hxl
  rw[DK hx,uZ]at hr
  have hw1:IntKind.i64.wrap ((code.length:Int) - a)=(code.length:Int) - a:=IntWalk.i64_in _ (by omega)
  cases hpre:uU code.length a x with
  | false=>
   rw[hpre,Bool.false_and,Bool.false_and]at hr
   repeat' ((conv=>whnf);first|refine Or.inl ?_|apply oi|(apply fi<;>intro h)|refine⟨k,x.tr,rfl,ab hx,?_⟩|refine ci hN (ai rfl trivial) ?_|refine⟨_,rfl,?_⟩|exact rfl)
   all_goals try exact⟨KO⟩
   all_goals try(exfalso;have h':=of_decide_eq_false h;rw[hlen]at h';omega;done)
   all_goals try exact KX
   all_goals try exact⟨by rw[←hr,Bool.and_false]⟩
   all_goals(exfalso;rw[←Bool.not_eq_true,imgPre_iff]at hpre;apply hpre;rw[hw1]at *;(simp_all) <;> omega)
  | true=>
   obtain⟨p1,p2,p3,p4⟩:=imgPre_iff.1 hpre
   rw[p4]at hN
   rw[hpre,Bool.true_and]at hr
   repeat' ((conv=>whnf);first|refine Or.inl ?_|apply oi|(apply fi<;>intro h)|refine⟨k,x.tr,rfl,ab hx,?_⟩|refine ci hN (ai rfl trivial) ?_|refine⟨_,rfl,?_⟩|exact rfl)
   all_goals try exact⟨KO⟩
   all_goals try exact KX
   all_goals try(exfalso;first|(have h':=of_decide_eq_false h;rw[hlen]at h';omega)|(simp at h;done)|(rw[p1]at h;simp at h;done)|(have h':=of_decide_eq_true h;(try rw[hw1]at h');omega))
   conv=>whnf
   have hrl:(((l.map HO.tr).take k).drop 0).length=k:=by simp;omega
   refine⟨{j:Nat // j≤k∧eY (l.take j) x.fac=false},fun j=>⟨[(1,.r (.c (.ptr (1,0,0) 0))),(3,tI .i64 (a:Int)),(5,.r (.c (.ptr (5,0,0) 0))),(4,tI .i64 (k:Int)),(6,tI .i64 (j.1:Int))],[((1,0,0),some (.box [.t (.str code),.t (.lst 3 (l.map HO.tr))])),((5,0,0),some (.box [.t (.str x.fac),.t (.int .i64 x.fah),.t (.int .i64 x.fan)]))],[5,1]⟩,fun j=>k - j.1,⟨0,by omega,rfl⟩,?_,?_⟩
   ·skip
    repeat' ((conv=>whnf);first|refine Or.inl ?_|apply oi|(apply fi<;>intro h)|refine⟨_,rfl,?_⟩|exact rfl)
    all_goals try exact⟨KO⟩
   intro⟨j,hj,hsn⟩
   dsimp only
   by_cases hjk:j < k
   ·obtain⟨y,hy⟩:=ae (l:=l) (k:=j) (by omega)
    have hyr:(((l.map HO.tr).take k).drop 0)[j]?=some y.tr:=by rw[List.drop_zero,List.getElem?_take,if_pos hjk];exact ab hy
    have hst:=wY (nm:=x.fac) hy
    rw[hsn,Bool.false_or]at hst
    cases hyx:(y.fac==x.fac)with
    | true=>
     have hs2:=Ak hy hjk
     rw[beq_iff_eq.1 hyx]at hs2
     rw[hs2]at hr
     repeat' ((conv=>whnf);first|refine Or.inl ?_|apply oi|(apply fi<;>intro h)|refine⟨j,y.tr,rfl,ab hy,?_⟩|refine⟨_,rfl,?_⟩|exact rfl)
     all_goals try exact⟨KO⟩
     all_goals first
      |(exfalso;have h':=of_decide_eq_false h;omega)
      | exact⟨by rw[←hr];simp⟩
      |(exfalso;rw[hyx]at h;simp at h;done)
    | false=>
     rw[hyx]at hst
     repeat' ((conv=>whnf);first|refine Or.inl ?_|apply oi|(apply fi<;>intro h)|refine⟨j,y.tr,rfl,ab hy,?_⟩|refine⟨_,rfl,?_⟩|exact rfl)
     all_goals try exact⟨KO⟩
     all_goals try(exfalso;first|(have h':=of_decide_eq_false h;omega)|(rw[hyx]at h;simp at h;done))
     conv=>whnf
     refine⟨⟨j+1,by omega,hst⟩,?_,KD⟩
     repeat' ((conv=>whnf);first|refine Or.inl ?_|apply oi|(apply fi<;>intro h)|refine⟨_,rfl,?_⟩|exact rfl)
     all_goals try exact⟨KO⟩
     all_goals exact⟨by dsimp only;rw[IntWalk.i64_in _ (by omega)];rfl⟩
   ·have hjk2:j=k:=by omega
    subst hjk2
    obtain⟨z,hz⟩:=Int.eq_ofNat_of_zero_le (show 0≤x.fan by omega)
    have hw2:IntKind.i64.wrap ((a:Int)+x.fan)=((a+z:Nat):Int):=by rw[IntWalk.i64_in _ (by omega),hz];rfl
    rw[hsn,hz,Int.toNat_natCast]at hr
    have hD:=ox ((code.take (a+z)).drop a) (by simp;omega)
    repeat' ((conv=>whnf);first|refine Or.inl ?_|apply oi|(apply fi<;>intro h)|refine⟨_,rfl,?_⟩|exact rfl)
    all_goals try exact⟨KO⟩
    all_goals try(exfalso;have h':=of_decide_eq_true h;omega)
    conv=>whnf
    refine⟨a,a+z,rfl,hw2,by omega,by omega,?_⟩
    cases hds:(eS ((code.take (a+z)).drop a)).isSome with
    | false=>
     rw[hds]at hr hD
     repeat' ((conv=>whnf);first|refine Or.inl ?_|apply oi|(apply fi<;>intro h)|refine ci hD (ai rfl trivial) ?_|refine⟨_,rfl,?_⟩|exact rfl)
     all_goals try exact⟨KO⟩
     all_goals first
      | exact⟨by rw[←hr];simp⟩
      |(exfalso;simp at h;done)
    | true=>
     rw[hds]at hr hD
     repeat' ((conv=>whnf);first|refine Or.inl ?_|apply oi|(apply fi<;>intro h)|refine ci hD (ai rfl trivial) ?_|refine⟨_,rfl,?_⟩|exact rfl)
     all_goals try exact⟨KO⟩
     all_goals try(exfalso;simp at h;done)
     conv=>whnf
     refine⟨⟨(j+1,a+z),by dsimp only;omega,by dsimp only;omega,by simpa using hr⟩,?_,KD⟩
     repeat' ((conv=>whnf);first|refine Or.inl ?_|apply oi|(apply fi<;>intro h)|refine⟨_,rfl,?_⟩|exact rfl)
     all_goals try exact⟨KO⟩
     all_goals first
      | exact⟨by dsimp only;rw[hw2]⟩
      | exact⟨by dsimp only;rw[IntWalk.i64_in _ (by omega)];rfl⟩
 ·have hge:l.length≤k:=by omega
  rw[List.drop_eq_nil_of_le hge,ey]at hr
  repeat' ((conv=>whnf);first|refine Or.inl ?_|apply oi|(apply fi<;>intro h)|refine⟨_,rfl,?_⟩|exact rfl)
  all_goals try exact⟨KO⟩
  all_goals try exact KX
  ·have h9:a=code.length:=by have:=eq_of_beq h;omega
   refine⟨congrArg Tr.bool ?_⟩
   rw[←hr,h9,beq_self_eq_true,Bool.and_true]
   exact decide_eq_decide.2 (by omega)
  ·have h9:(a==code.length)=false:=by rw[beq_eq_false_iff_ne]at h ⊢;omega
   refine⟨congrArg Tr.bool ?_⟩
   rw[←hr,h9,Bool.and_false]
theorem dL {code:List UInt8}:∀{l:List HO} {seen:List HO} {a:Nat},ey code seen a l=true→a≤code.length→∀x∈l,(a:Int)≤x.fah∧1≤x.fan∧x.fah+x.fan≤code.length
 | [],_,_,_,_,x,hx=>by cases hx
 | y::l,seen,a,h,ha,x,hx=>by
  rw[ey,Bool.and_eq_true,uZ,Bool.and_eq_true,imgPre_iff]at h
  obtain⟨⟨⟨p1,p2,p3,_⟩,_⟩,h2⟩:=h
  rcases List.mem_cons.1 hx with rfl|hx
  ·omega
  ·have:=dL h2 (by omega) x hx
   omega
theorem uK {code:List UInt8}:∀{l:List HO} {seen:List HO} {a j k:Nat} {x:HO},ey code seen a l=true→a≤code.length→code.length≤1000000→l[k]?=some x→dg x.fah l j=((j+k:Nat):Int)
 | [],_,_,_,_,_,_,_,_,hx=>by simp at hx
 | y::l,seen,a,j,k,x,h,ha,hc,hx=>by
  have hall:=dL h ha
  rw[ey,Bool.and_eq_true,uZ,Bool.and_eq_true,imgPre_iff]at h
  obtain⟨⟨⟨p1,p2,p3,_⟩,_⟩,h2⟩:=h
  rw[dg]
  match k,hx with
  | 0,hx=>
   rw[List.getElem?_cons_zero]at hx
   injection hx with hx
   subst hx
   have hh:dh y.fah y=true:=by
    unfold dh
    rw[Bool.and_eq_true,Bool.and_eq_true,Bool.and_eq_true,within_iff,within_iff,decide_eq_true_eq,decide_eq_true_eq]
    omega
   rw[if_pos hh]
   rfl
  | k+1,hx=>
   rw[List.getElem?_cons_succ]at hx
   have h3:=dL h2 (by omega) x (List.mem_of_getElem? hx)
   have hh:¬dh x.fah y=true:=by
    unfold dh
    rw[Bool.and_eq_true,Bool.and_eq_true,Bool.and_eq_true,within_iff,within_iff,decide_eq_true_eq,decide_eq_true_eq]
    omega
   rw[if_neg hh,uK h2 (by omega) hc hx]
   congr 1
   omega
def bv (i:HE)(b e:Int):Bool:=i.faf.any fun x=>b+x.fah==e
def gv (i0 i1:HE)(b0 b1 e:Int):Int×Int:=
 if b0≤e∧e < b0+i0.fab.length then(0,e - b0)else if b1≤e∧e < b1+i1.fab.length then(1,e - b1)else(-1,-1)
def jJ (i:HE)(off:Int):Bool:=decide (0≤cU i.faf off) && (match i.faf[(cU i.faf off).toNat]? with|some x=>x.fah==off|none=>false)
theorem imageOk_iff {i:HE}:bq i=true↔i.fab.length≤1000000∧ey i.fab [] 0 i.faf=true:=by
 rw[bq,Bool.and_eq_true,decide_eq_true_eq]
theorem mO {i:HE}(h:bq i=true){off:Int}:jJ i off=true↔∃x∈i.faf,x.fah=off:=by
 obtain⟨hc,ho⟩:=imageOk_iff.1 h
 unfold jJ
 constructor
 ·intro h1
  rw[Bool.and_eq_true]at h1
  split at h1
  ·rename_i x hx
   exact⟨x,List.mem_of_getElem? hx,by simpa using h1.2⟩
  ·cases h1.2
 ·rintro⟨x,hx,rfl⟩
  obtain⟨k,hk⟩:=List.mem_iff_getElem?.1 hx
  have:=uK (j:=0) ho (by omega) hc hk
  rw[Nat.zero_add]at this
  rw[cU,this,Int.toNat_natCast,hk]
  simp
def Bb (i0 i1:HE)(b0 b1 e:Int):Bool:=
 if(gv i0 i1 b0 b1 e).1=0 then jJ i0 (gv i0 i1 b0 b1 e).2 else if(gv i0 i1 b0 b1 e).1=1 then jJ i1 (gv i0 i1 b0 b1 e).2 else false
def dB (i0 i1:HE)(b0 b1:Int):Bool:=decide (0 < i0.fab.length) && (decide (0 < i1.fab.length) && (decide (b0 < b1+i1.fab.length) && decide (b1 < b0+i0.fab.length)))
theorem AN {i0 i1:HE}{b0 b1 e:Int}(h0:bq i0=true)(h1:bq i1=true)(ho:dB i0 i1 b0 b1=false):Bb i0 i1 b0 b1 e=(bv i0 b0 e || bv i1 b1 e):=by
 have hno:¬(0 < i0.fab.length∧0 < i1.fab.length∧b0 < b1+i1.fab.length∧b1 < b0+i0.fab.length):=by
  intro⟨a,b,c,d⟩
  rw[dB,decide_eq_true a,decide_eq_true b,decide_eq_true c,decide_eq_true d]at ho
  cases ho
 have m0:=dL (imageOk_iff.1 h0).2 (by omega)
 have m1:=dL (imageOk_iff.1 h1).2 (by omega)
 have e0:∀{i:HE} {b:Int},bv i b e=true↔∃x∈i.faf,b+x.fah=e:=by
  intro i b
  rw[bv,List.any_eq_true]
  simp only[beq_iff_eq]
 rw[Bool.eq_iff_iff,Bool.or_eq_true,e0,e0,Bb,gv]
 by_cases c0:b0≤e∧e < b0+i0.fab.length
 ·rw[if_pos c0,if_pos rfl,mO h0]
  constructor
  ·rintro⟨x,hx,h⟩
   exact .inl ⟨x,hx,by dsimp only at h;omega⟩
  ·rintro(⟨x,hx,h⟩|⟨x,hx,h⟩)
   ·exact⟨x,hx,by dsimp only;omega⟩
   ·have:=m1 x hx
    exfalso;apply hno;omega
 ·rw[if_neg c0]
  by_cases c1:b1≤e∧e < b1+i1.fab.length
  ·rw[if_pos c1,if_neg (by simp),if_pos rfl,mO h1]
   constructor
   ·rintro⟨x,hx,h⟩
    exact .inr ⟨x,hx,by dsimp only at h;omega⟩
   ·rintro(⟨x,hx,h⟩|⟨x,hx,h⟩)
    ·have:=m0 x hx
     exfalso;apply c0;omega
    ·exact⟨x,hx,by dsimp only;omega⟩
  ·rw[if_neg c1,if_neg (by decide),if_neg (by decide)]
   constructor
   ·intro h;cases h
   ·rintro(⟨x,hx,h⟩|⟨x,hx,h⟩)
    ·have:=m0 x hx
     exfalso;apply c0;omega
    ·have:=m1 x hx
     exfalso;apply c1;omega
def fX (i0 i1:HE)(b0 b1:Int)(es:List Int):Bool:=
 af es.length 1 6 && (bq i0 && (af b0 1 1000000 && (bq i1 && (af b1 1 1000000 && (!(dB i0 i1 b0 b1) && es.all fun e=>bv i0 b0 e || bv i1 b1 e)))))
def eL (s:HN):Bool:=match s.fau,s.fav with
 | [i0,i1],[b0,b1]=>fX i0 i1 b0 b1 s.fay
 | _,_=>false
abbrev ru (i0 i1:HE)(b0 b1:Int)(es:List Int):List AC:=[.t (.lst 2 [i0.tr,i1.tr]),.t (.lst 1 [aa b0,aa b1]),.t (.lst 1 (es.map aa))]
theorem ua (i0 i1:HE)(b0 b1 e:Int)(es:List Int)(h0:∀x∈i0.faf,0≤x.fah∧x.fah≤1000000)(h1:∀x∈i1.faf,0≤x.fah∧x.fah≤1000000)(hb0:0≤b0∧b0≤1000000)(hb1:0≤b1∧b1≤1000000)(hl0:i0.faf.length≤1048576)(hl1:i1.faf.length≤1048576):Sim.Spec Tryz.prog 102 [.agg (HN.mk [i0,i1] [b0,b1] es).tr,tvI e] (rB (bv i0 b0 e || bv i1 b1 e)):=by
 refine aq hΓ ay Tryz.func102 rfl (by decide) rfl ?_
 repeat' ((conv=>whnf);first|refine Or.inl ?_|apply oi|(apply fi<;>intro h)|refine⟨_,rfl,?_⟩|exact rfl)
 all_goals try exact⟨KO⟩
 conv=>whnf
 refine⟨{k:Nat // k≤2∧(1≤k→bv i0 b0 e=false)∧(2≤k→bv i1 b1 e=false)},fun k=>⟨[(1,tI .i64 e),(2,.r (.c (.ptr (2,0,0) 0))),(10,.r (.c (.t (.lst 2 [i0.tr,i1.tr])))),(11,tI .i64 2),(12,tI .i64 (k.1:Int))],[((2,0,0),some (.box (ru i0 i1 b0 b1 es)))],[2]⟩,fun k=>2 - k.1,⟨0,by omega,by omega,by omega⟩,?_,?_⟩
 ·skip
  repeat' ((conv=>whnf);first|refine Or.inl ?_|apply oi|(apply fi<;>intro h)|refine⟨_,rfl,?_⟩|exact rfl)
  all_goals try exact⟨KO⟩
 intro⟨k,hk,hk1,hk2⟩
 dsimp only
 by_cases hlt:k < 2
 ·obtain⟨i,b,hi,hb,hst,hbb,hll,hyes,hno⟩:∃(i:HE) (b:Int),([i0.tr,i1.tr]:List (List Tr))[k]?=some i.tr∧([aa b0,aa b1]:List (List Tr))[k]?=some (aa b)∧(∀x∈i.faf,0≤x.fah∧x.fah≤1000000)∧(0≤b∧b≤1000000)∧i.faf.length≤1048576∧
    (bv i b e=true→(bv i0 b0 e || bv i1 b1 e)=true)∧(bv i b e=false→(1≤k+1→bv i0 b0 e=false)∧(2≤k+1→bv i1 b1 e=false)):=by
   have:k=0∨k=1:=by omega
   rcases this with rfl|rfl
   ·exact⟨i0,b0,rfl,rfl,h0,hb0,hl0,fun h=>by rw[h];rfl,fun h=>⟨fun _=>h,fun h2=>by omega⟩⟩
   ·exact⟨i1,b1,rfl,rfl,h1,hb1,hl1,fun h=>by rw[h];simp,fun h=>⟨fun _=>hk1 (by omega),fun _=>h⟩⟩
  have hlen:(i.faf.map HO.tr).length=i.faf.length:=by simp
  repeat' ((conv=>whnf);first|refine Or.inl ?_|apply oi|(apply fi<;>intro h)|refine⟨k,i.tr,rfl,hi,?_⟩|refine⟨_,rfl,?_⟩|exact rfl)
  all_goals try exact⟨KO⟩
  all_goals try(exfalso;have h':=of_decide_eq_false h;omega)
  conv=>whnf
  refine⟨{j:Nat // j≤i.faf.length∧((i.faf.take j).any fun x=>b+x.fah==e)=false},fun j=>⟨[(1,tI .i64 e),(2,.r (.c (.ptr (2,0,0) 0))),(5,tI .i64 (k:Int)),(10,.r (.c (.t (.lst 2 [i0.tr,i1.tr])))),(11,tI .i64 2),(12,tI .i64 (k:Int)),(18,.r (.c (.t (.lst 3 (i.faf.map HO.tr))))),(19,tI .i64 ((i.faf.map HO.tr).length:Int)),(20,tI .i64 (j.1:Int))],[((2,0,0),some (.box (ru i0 i1 b0 b1 es)))],[2]⟩,fun j=>i.faf.length - j.1,⟨0,by omega,rfl⟩,?_,?_⟩
  ·skip
   repeat' ((conv=>whnf);first|refine Or.inl ?_|apply oi|(apply fi<;>intro h)|refine⟨_,rfl,?_⟩|exact rfl)
   all_goals try exact⟨KO⟩
  intro⟨j,hj,hr⟩
  dsimp only
  by_cases hjl:j < i.faf.length
  ·obtain⟨x,hx⟩:=ae hjl
   have hxm:=List.mem_of_getElem? hx
   have hxs:=hst x hxm
   have hw1:IntKind.i64.wrap (b+x.fah)=b+x.fah:=IntWalk.i64_in _ (by omega)
   have hnext:((i.faf.take (j+1)).any fun x=>b+x.fah==e)=(b+x.fah==e):=by
    obtain⟨hk',rfl⟩:=List.getElem?_eq_some_iff.1 hx
    rw[List.take_succ_eq_append_getElem hk',List.any_append,hr,Bool.false_or]
    simp
   cases hxe:(b+x.fah==e)with
   | true=>
    have hall:=hyes (by rw[bv,List.any_eq_true];exact⟨x,hxm,hxe⟩)
    repeat' ((conv=>whnf);first|refine Or.inl ?_|apply oi|(apply fi<;>intro h)|refine⟨j,x.tr,rfl,ab hx,?_⟩|refine⟨k,aa b,rfl,hb,?_⟩|refine⟨_,rfl,?_⟩|exact rfl)
    all_goals try exact⟨KO⟩
    all_goals first
     |(exfalso;have h':=of_decide_eq_false h;rw[hlen]at h';omega)
     | exact⟨by rw[hall]⟩
     |(exfalso;rw[hw1,hxe]at h;simp at h;done)
   | false=>
    rw[hxe]at hnext
    repeat' ((conv=>whnf);first|refine Or.inl ?_|apply oi|(apply fi<;>intro h)|refine⟨j,x.tr,rfl,ab hx,?_⟩|refine⟨k,aa b,rfl,hb,?_⟩|refine⟨_,rfl,?_⟩|exact rfl)
    all_goals try exact⟨KO⟩
    all_goals try(exfalso;first|(have h':=of_decide_eq_false h;rw[hlen]at h';omega)|(rw[hw1,hxe]at h;simp at h;done))
    conv=>whnf
    refine⟨⟨j+1,by omega,hnext⟩,?_,KD⟩
    repeat' ((conv=>whnf);first|refine Or.inl ?_|apply oi|(apply fi<;>intro h)|refine⟨_,rfl,?_⟩|exact rfl)
    all_goals try exact⟨KO⟩
    all_goals exact⟨by dsimp only;rw[IntWalk.i64_in _ (by omega)];rfl⟩
  ·have hjn:i.faf.length≤j:=by omega
   rw[List.take_of_length_le hjn]at hr
   have hnx:=hno hr
   repeat' ((conv=>whnf);first|refine Or.inl ?_|apply oi|(apply fi<;>intro h)|refine⟨_,rfl,?_⟩|exact rfl)
   all_goals try exact⟨KO⟩
   all_goals try(exfalso;have h':=of_decide_eq_true h;rw[hlen]at h';omega)
   conv=>whnf
   refine⟨⟨k+1,by omega,hnx⟩,?_,KD⟩
   repeat' ((conv=>whnf);first|refine Or.inl ?_|apply oi|(apply fi<;>intro h)|refine⟨_,rfl,?_⟩|exact rfl)
   all_goals try exact⟨KO⟩
   all_goals exact⟨by dsimp only;rw[IntWalk.i64_in _ (by omega)];rfl⟩
 ·have hk2':k=2:=by omega
  subst hk2'
  repeat' ((conv=>whnf);first|refine Or.inl ?_|apply oi|(apply fi<;>intro h)|refine⟨_,rfl,?_⟩|exact rfl)
  all_goals try exact⟨KO⟩
  all_goals exact⟨by rw[hk1 (by omega),hk2 (by omega)];rfl⟩
theorem sq (i0 i1:HE)(b0 b1:Int)(es:List Int)(hs:aK 1048576 (HN.mk [i0,i1] [b0,b1] es).tr):Sim.Spec Tryz.prog 29 [.agg (HN.mk [i0,i1] [b0,b1] es).tr] (rB (fX i0 i1 b0 b1 es)):=by
 refine aq hΓ ay Tryz.func29 rfl (by decide) rfl ?_
 have hlen:(es.map aa).length=es.length:=by simp
 have hE:=aD es.length 1 6
 unfold fX
 cases hw:af es.length 1 6 with
 | false=>
  rw[hw]at hE
  repeat' ((conv=>whnf);first|refine Or.inl ?_|apply oi|(apply fi<;>intro h)|refine ci hE (ai KW (ai rfl (ai rfl trivial))) ?_|refine⟨_,rfl,?_⟩|exact rfl)
  all_goals try exact⟨KO⟩
  all_goals(exfalso;simp at h;done)
 | true=>
  rw[hw]at hE
  repeat' ((conv=>whnf);first|refine Or.inl ?_|apply oi|(apply fi<;>intro h)|refine ci hE (ai KW (ai rfl (ai rfl trivial))) ?_|refine⟨_,rfl,?_⟩|exact rfl)
  all_goals try exact⟨KO⟩
  all_goals try(exfalso;simp at h;done)
  have hsp:=hs
  simp only[HN.tr,aK]at hsp
  have hsI:=hsp.1
  have hi0:aK 1048576 i0.tr:=aT hsI (by simp)
  have hi1:aK 1048576 i1.tr:=aT hsI (by simp)
  have hc0:i0.fab.length≤1048576:=by have:=hi0;simp only[HE.tr,aK,aB]at this;omega
  have hc1:i1.fab.length≤1048576:=by have:=hi1;simp only[HE.tr,aK,aB]at this;omega
  have hsy0:i0.faf.length≤1048576:=by have:=hi0;simp only[HE.tr,aK]at this;exact cv this.2.1
  have hsy1:i1.faf.length≤1048576:=by have:=hi1;simp only[HE.tr,aK]at this;exact cv this.2.1
  have hel:es.length≤1048576:=cv hsp.2.2.1
  rw[Bool.true_and]
  generalize hR:(bq i0 && (af b0 1 1000000 && (bq i1 && (af b1 1 1000000 && (!(dB i0 i1 b0 b1) && es.all fun e=>bv i0 b0 e || bv i1 b1 e)))))=R
  conv=>whnf
  refine⟨{k:Nat // k≤2∧(1≤k→bq i0=true∧af b0 1 1000000=true)∧(2≤k→bq i1=true∧af b1 1 1000000=true)},fun k=>⟨[(1,.r (.c (.ptr (1,0,0) 0))),(27,tI .i64 2),(28,tI .i64 (k.1:Int))],[((1,0,0),some (.box (ru i0 i1 b0 b1 es)))],[1]⟩,fun k=>2 - k.1,⟨0,by omega,by omega,by omega⟩,?_,?_⟩
  ·skip
   repeat' ((conv=>whnf);first|refine Or.inl ?_|apply oi|(apply fi<;>intro h)|refine⟨_,rfl,?_⟩|exact rfl)
   all_goals try exact⟨KO⟩
  intro⟨k,hk,hk1,hk2⟩
  dsimp only
  by_cases hlt:k < 2
  ·obtain⟨i,b,hi,hb,hsi,hn1,hn2,hyes⟩:∃(i:HE) (b:Int),([i0.tr,i1.tr]:List (List Tr))[k]?=some i.tr∧([aa b0,aa b1]:List (List Tr))[k]?=some (aa b)∧aK 1048576 i.tr∧
     (bq i=false→R=false)∧(af b 1 1000000=false→R=false)∧(bq i=true→af b 1 1000000=true→(1≤k+1→bq i0=true∧af b0 1 1000000=true)∧(2≤k+1→bq i1=true∧af b1 1 1000000=true)):=by
    have:k=0∨k=1:=by omega
    rcases this with rfl|rfl
    ·exact⟨i0,b0,rfl,rfl,hi0,fun h=>by rw[←hR,h];rfl,fun h=>by rw[←hR,h];simp,fun h h'=>⟨fun _=>⟨h,h'⟩,fun h2=>by omega⟩⟩
    ·exact⟨i1,b1,rfl,rfl,hi1,fun h=>by rw[←hR,h];simp,fun h=>by rw[←hR,h];simp,fun h h'=>⟨fun _=>hk1 (by omega),fun _=>⟨h,h'⟩⟩⟩
   have hI:=tJ i hsi
   have hB:=aD b 1 1000000
   cases hio:bq i with
   | false=>
    rw[hio]at hI
    rw[hn1 hio]
    repeat' ((conv=>whnf);first|refine Or.inl ?_|apply oi|(apply fi<;>intro h)|refine⟨k,i.tr,rfl,hi,?_⟩|refine ci hI (ai (ai rfl (ai rfl trivial)) trivial) ?_|refine⟨_,rfl,?_⟩|exact rfl)
    all_goals try exact⟨KO⟩
    all_goals(exfalso;first|(have h':=of_decide_eq_false h;omega)|(simp at h;done))
   | true=>
    rw[hio]at hI
    cases hbo:af b 1 1000000 with
    | false=>
     rw[hbo]at hB
     rw[hn2 hbo]
     repeat' ((conv=>whnf);first|refine Or.inl ?_|apply oi|(apply fi<;>intro h)|refine⟨k,i.tr,rfl,hi,?_⟩|refine⟨k,aa b,rfl,hb,?_⟩|refine ci hI (ai (ai rfl (ai rfl trivial)) trivial) ?_|refine ci hB (ai rfl (ai rfl (ai rfl trivial))) ?_|refine⟨_,rfl,?_⟩|exact rfl)
     all_goals try exact⟨KO⟩
     all_goals(exfalso;first|(have h':=of_decide_eq_false h;omega)|(simp at h;done))
    | true=>
     rw[hbo]at hB
     repeat' ((conv=>whnf);first|refine Or.inl ?_|apply oi|(apply fi<;>intro h)|refine⟨k,i.tr,rfl,hi,?_⟩|refine⟨k,aa b,rfl,hb,?_⟩|refine ci hI (ai (ai rfl (ai rfl trivial)) trivial) ?_|refine ci hB (ai rfl (ai rfl (ai rfl trivial))) ?_|refine⟨_,rfl,?_⟩|exact rfl)
     all_goals try exact⟨KO⟩
     all_goals try(exfalso;first|(have h':=of_decide_eq_false h;omega)|(simp at h;done))
     conv=>whnf
     refine⟨⟨k+1,by omega,hyes hio hbo⟩,?_,KD⟩
     repeat' ((conv=>whnf);first|refine Or.inl ?_|apply oi|(apply fi<;>intro h)|refine⟨_,rfl,?_⟩|exact rfl)
     all_goals try exact⟨KO⟩
     all_goals exact⟨by dsimp only;rw[IntWalk.i64_in _ (by omega)];rfl⟩
  ·have hk2':k=2:=by omega
   subst hk2'
   obtain⟨g0,w0⟩:=hk1 (by omega)
   obtain⟨g1,w1⟩:=hk2 (by omega)
   have v0:=within_iff.1 w0
   have v1:=within_iff.1 w1
   rw[g0,g1,w0,w1,Bool.true_and,Bool.true_and,Bool.true_and,Bool.true_and]at hR
   have x0:IntKind.i64.wrap (b1+(i1.fab.length:Int))=b1+i1.fab.length:=IntWalk.i64_in _ (by omega)
   have x1:IntKind.i64.wrap (b0+(i0.fab.length:Int))=b0+i0.fab.length:=IntWalk.i64_in _ (by omega)
   cases ho:dB i0 i1 b0 b1 with
   | true=>
    rw[ho]at hR
    rw[dB,Bool.and_eq_true,Bool.and_eq_true,Bool.and_eq_true,decide_eq_true_eq,decide_eq_true_eq,decide_eq_true_eq,decide_eq_true_eq]at ho
    obtain⟨o1,o2,o3,o4⟩:=ho
    subst hR
    repeat' ((conv=>whnf);first|refine Or.inl ?_|apply oi|(apply fi<;>intro h)|refine⟨0,_,rfl,rfl,?_⟩|refine⟨1,_,rfl,rfl,?_⟩|refine⟨_,rfl,?_⟩|exact rfl)
    all_goals try exact⟨KO⟩
    all_goals(exfalso;first|(have h':=of_decide_eq_false h;(try rw[x0]at h');(try rw[x1]at h');omega)|(have h':=of_decide_eq_true h;omega))
   | false=>
    rw[ho,Bool.not_false,Bool.true_and]at hR
    have hno:¬(0 < i0.fab.length∧0 < i1.fab.length∧b0 < b1+i1.fab.length∧b1 < b0+i0.fab.length):=by
     intro⟨a,b,c,d⟩
     rw[dB,decide_eq_true a,decide_eq_true b,decide_eq_true c,decide_eq_true d]at ho
     cases ho
    have m0:=dL (imageOk_iff.1 g0).2 (by omega)
    have m1:=dL (imageOk_iff.1 g1).2 (by omega)
    have l0:=(imageOk_iff.1 g0).1
    have l1:=(imageOk_iff.1 g1).1
    repeat' ((conv=>whnf);first|refine Or.inl ?_|apply oi|(apply fi<;>intro h)|refine⟨0,_,rfl,rfl,?_⟩|refine⟨1,_,rfl,rfl,?_⟩|refine⟨_,rfl,?_⟩|exact rfl)
    all_goals try exact⟨KO⟩
    all_goals try(
     exfalso
     rename_i a1 a2 a3
     have c1:=of_decide_eq_true a1
     have c2:=of_decide_eq_true a2
     have c3:=of_decide_eq_true a3
     have c4:=of_decide_eq_true h
     rw[x0]at c3
     rw[x1]at c4
     exact hno ⟨by omega,by omega,c3,c4⟩)
    all_goals(
     conv=>whnf
     refine⟨{j:Nat // j≤es.length∧((es.drop j).all fun e=>bv i0 b0 e || bv i1 b1 e)=R},fun j=>⟨[(1,.r (.c (.ptr (1,0,0) 0))),(93,.r (.c (.t (.lst 1 (es.map aa))))),(94,tI .i64 ((es.map aa).length:Int)),(95,tI .i64 (j.1:Int))],[((1,0,0),some (.box (ru i0 i1 b0 b1 es)))],[1]⟩,fun j=>es.length - j.1,⟨0,by omega,hR⟩,?_,?_⟩
     ·skip
      repeat' ((conv=>whnf);first|refine Or.inl ?_|apply oi|(apply fi<;>intro h)|refine⟨_,rfl,?_⟩|exact rfl)
      all_goals try exact⟨KO⟩
     intro⟨j,hj,hr⟩
     dsimp only
     by_cases hjl:j < es.length
     ·obtain⟨e,he⟩:=ae hjl
      have hEn:=ua i0 i1 b0 b1 e es (fun x hx=>by have:=m0 x hx;omega) (fun x hx=>by have:=m1 x hx;omega) (by omega) (by omega) hsy0 hsy1
      rw[dq he,List.all_cons]at hr
      cases hee:(bv i0 b0 e || bv i1 b1 e)with
      | false=>
       rw[hee]at hEn hr
       rw[Bool.false_and]at hr
       subst hr
       repeat' ((conv=>whnf);first|refine Or.inl ?_|apply oi|(apply fi<;>intro h)|refine⟨j,aa e,rfl,ab he,?_⟩|refine ci hEn (ai (ai rfl (ai rfl (ai rfl trivial))) (ai rfl trivial)) ?_|refine⟨_,rfl,?_⟩|exact rfl)
       all_goals try exact⟨KO⟩
       all_goals(exfalso;first|(have h':=of_decide_eq_false h;rw[hlen]at h';omega)|(simp at h;done))
      | true=>
       rw[hee]at hEn hr
       rw[Bool.true_and]at hr
       repeat' ((conv=>whnf);first|refine Or.inl ?_|apply oi|(apply fi<;>intro h)|refine⟨j,aa e,rfl,ab he,?_⟩|refine ci hEn (ai (ai rfl (ai rfl (ai rfl trivial))) (ai rfl trivial)) ?_|refine⟨_,rfl,?_⟩|exact rfl)
       all_goals try exact⟨KO⟩
       all_goals try(exfalso;first|(have h':=of_decide_eq_false h;rw[hlen]at h';omega)|(simp at h;done))
       conv=>whnf
       refine⟨⟨j+1,by omega,hr⟩,?_,KD⟩
       repeat' ((conv=>whnf);first|refine Or.inl ?_|apply oi|(apply fi<;>intro h)|refine⟨_,rfl,?_⟩|exact rfl)
       all_goals try exact⟨KO⟩
       all_goals exact⟨by dsimp only;rw[IntWalk.i64_in _ (by omega)];rfl⟩
     ·have hge:es.length≤j:=by omega
      rw[List.drop_eq_nil_of_le hge,List.all_nil]at hr
      subst hr
      repeat' ((conv=>whnf);first|refine Or.inl ?_|apply oi|(apply fi<;>intro h)|refine⟨_,rfl,?_⟩|exact rfl)
      all_goals try exact⟨KO⟩
      all_goals(exfalso;have h':=of_decide_eq_true h;rw[hlen]at h';omega))
theorem yc (a:Int)(k:Nat):((jW a k).toNat:Int)=(a / (2 ^ (8 * k))) % 256:=by
 unfold jW
 rw[Int.fdiv_eq_ediv_of_nonneg _ (Int.pow_nonneg (by decide))]
 generalize a / 2 ^ (8 * k)=z
 have h1:=Int.emod_nonneg z (show(256:Int)≠0 by decide)
 have h2:=Int.emod_lt_of_pos z (show(0:Int) < 256 by decide)
 simp
 omega
theorem tT (pre rest:List UInt8)(c:UInt8)(k:Nat)(m:List UInt8)(h:m[k]?=some c):cH (pre++m++rest) (pre.length+k)=c.toNat:=by
 have hk:=aM h
 unfold cH
 rw[List.append_assoc,List.getElem?_append_right (by omega),Nat.add_sub_cancel_left,List.getElem?_append_left hk,h]
theorem Bj {a:Int}{n k:Nat}(h:k < n):(fA a n)[k]?=some (jW a k):=by
 unfold fA
 rw[List.getElem?_map,List.getElem?_range h]
 rfl
theorem DG {c a:Int}(h:cW c a=true){s:List UInt8}{p:Nat}(hb:∀k,k < (bk c).1.toNat→cH s (p+k)=(jW a k).toNat):yk c (bm s p (bk c).1.toNat)=a:=by
 unfold cW at h
 rw[Bool.and_eq_true,within_iff,within_iff]at h
 obtain⟨_,ha⟩:=h
 have hd:∀k,k < (bk c).1.toNat→(cH s (p+k):Int)=(a / (2 ^ (8 * k))) % 256:=fun k hk=>by rw[hb k hk,yc]
 have b0:0 < (bk c).1.toNat→((bm s p 1:Nat):Int)=a % 256:=fun h=>by
  have d0:=hd 0 h
  rw[show(2:Int) ^ (8 * 0)=1 from rfl]at d0
  simp only[bm,Nat.pow_zero,Nat.mul_one,Nat.zero_add]
  omega
 have b1:1 < (bk c).1.toNat→((bm s p 2:Nat):Int)=a % 65536:=fun h=>by
  have d0:=b0 (by omega)
  have d1:=hd 1 h
  rw[show(2:Int) ^ (8 * 1)=256 from rfl]at d1
  rw[bm,show(256:Nat) ^ 1=256 from rfl]
  omega
 have b2:2 < (bk c).1.toNat→((bm s p 3:Nat):Int)=a % 16777216:=fun h=>by
  have d0:=b1 (by omega)
  have d1:=hd 2 h
  rw[show(2:Int) ^ (8 * 2)=65536 from rfl]at d1
  rw[bm,show(256:Nat) ^ 2=65536 from rfl]
  omega
 have b3:3 < (bk c).1.toNat→((bm s p 4:Nat):Int)=a % 4294967296:=fun h=>by
  have d0:=b2 (by omega)
  have d1:=hd 3 h
  rw[show(2:Int) ^ (8 * 3)=16777216 from rfl]at d1
  rw[bm,show(256:Nat) ^ 3=16777216 from rfl]
  omega
 unfold yk
 rcases vJ c with⟨e1,e2⟩|⟨e1,e2⟩|⟨e1,e2⟩|⟨e1,e2⟩|⟨e1,e2⟩
 ·rw[e1]at b3 ⊢
  rw[e2]at ha
  have b3:=b3 (by decide)
  have ha:-2147483648≤a∧a≤2147483647:=ha
  show(if(true:Bool)=true∧(2147483648:Nat)≤bm s p 4 then((bm s p 4:Nat):Int) - ((4294967296:Nat):Int)else((bm s p 4:Nat):Int))=a
  split
  ·rename_i hc;have:=hc.2;omega
  ·rename_i hc;have:¬(2147483648≤bm s p 4):=fun h=>hc ⟨rfl,h⟩;omega
 ·rw[e1]at b1 ⊢
  rw[e2]at ha
  have b1:=b1 (by decide)
  have ha:-32768≤a∧a≤32767:=ha
  show(if(true:Bool)=true∧(32768:Nat)≤bm s p 2 then((bm s p 2:Nat):Int) - ((65536:Nat):Int)else((bm s p 2:Nat):Int))=a
  split
  ·rename_i hc;have:=hc.2;omega
  ·rename_i hc;have:¬(32768≤bm s p 2):=fun h=>hc ⟨rfl,h⟩;omega
 ·rw[e1]at b1 ⊢
  rw[e2]at ha
  have b1:=b1 (by decide)
  have ha:0≤a∧a≤65535:=ha
  rw[if_neg (by simp)]
  show((bm s p 2:Nat):Int)=a
  omega
 ·rw[e1]at b0 ⊢
  rw[e2]at ha
  have b0:=b0 (by decide)
  have ha:0≤a∧a≤255:=ha
  rw[if_neg (by simp)]
  show((bm s p 1:Nat):Int)=a
  omega
 ·rw[e1]
  rw[e2]at ha
  have ha:0≤a∧a≤0:=ha
  rw[if_neg (by simp)]
  show((0:Nat):Int)=a
  omega
theorem rC {x:HJ}(h:cW x.fab x.fak=true):aS x=UInt8.ofNat x.fab.toNat::fA x.fak (bk x.fab).1.toNat:=by rw[aS,if_pos h]
theorem wq {x:HJ}(h:cW x.fab x.fak=true)(pre rest:List UInt8):ck (pre++aS x++rest) (pre.length:Int)=some (x,(aN x.fab).toNat):=by
 have hc:0≤x.fab∧x.fab≤17:=by
  unfold cW at h
  rw[Bool.and_eq_true,within_iff,within_iff]at h
  exact h.1
 have hlen:=fH h
 have hle:=cL x.fab
 have hz:aN x.fab=(bk x.fab).1+1:=by rw[aN,if_pos (within_iff.2 hc)]
 have hb0:((cH (pre++aS x++rest) pre.length:Nat):Int)=x.fab:=by
  have:=tT pre rest (UInt8.ofNat x.fab.toNat) 0 (aS x) (by rw[rC h];rfl)
  rw[Nat.add_zero]at this
  rw[this]
  simp
  omega
 have hbk:∀k,k < (bk x.fab).1.toNat→cH (pre++aS x++rest) (pre.length+1+k)=(jW x.fak k).toNat:=fun k hk=>by
  have:=tT pre rest (jW x.fak k) (k+1) (aS x) (by rw[rC h,List.getElem?_cons_succ];exact Bj hk)
  rw[show pre.length+1+k=pre.length+(k+1) by omega]
  exact this
 have hav:=DG h hbk
 have hsl:(pre++aS x++rest).length=pre.length+(aS x).length+rest.length:=by simp;omega
 generalize pre++aS x++rest=s at *
 rw[ck,if_pos ⟨by omega,by omega⟩,Int.toNat_natCast,hb0,if_neg (by omega),hav]
theorem Al {l:List HK}(h:∀y∈l,cW y.fai.fae.fab y.fai.fae.fak=true){k:Nat}{y:HK}(hy:l[k]?=some y)(pre rest:List UInt8):ck (pre++ao l++rest) (((pre++ao (l.take k)).length:Nat):Int)=some (y.fai.fae,(aN y.fai.fae.fab).toNat):=by
 have e:l=l.take k++(y::l.drop (k+1)):=by rw[←dq hy,List.take_append_drop]
 have e2:ao l=ao (l.take k)++(aS y.fai.fae++ao (l.drop (k+1))):=by
  conv=>lhs;rw[e]
  rw[aH,show y::l.drop (k+1)=[y]++l.drop (k+1) from rfl,aH,ew]
 have:=wq (h y (List.mem_of_getElem? hy)) (pre++ao (l.take k)) (ao (l.drop (k+1))++rest)
 rw[e2]
 simpa [List.append_assoc]using this
theorem rR:∀{l:List HK} (pre:List UInt8),(∀y∈l,cW y.fai.fae.fab y.fai.fae.fak=true)→lZ (pre++ao l) ((pre++ao l).length - pre.length) pre.length=some (l.map fun y=>y.fai.fae)
 | [],pre,_=>by
  rw[show ao []=[] from rfl,List.append_nil]
  exact vK (Nat.le_refl _)
 | y::l,pre,h=>by
  have hy:=h y (by simp)
  have hlen:=fH hy
  have hle:=cL y.fai.fae.fab
  have hc:af y.fai.fae.fab 0 17=true:=by
   unfold cW at hy
   rw[Bool.and_eq_true]at hy
   exact hy.1
  have hz:aN y.fai.fae.fab=(bk y.fai.fae.fab).1+1:=by rw[aN,if_pos hc]
  have e:ao (y::l)=aS y.fai.fae++ao l:=by rw[show y::l=[y]++l from rfl,aH,ew]
  have ih:=rR (l:=l) (pre++aS y.fai.fae) (fun z hz=>h z (by simp[hz]))
  have hd:=wq hy pre (ao l)
  rw[List.append_assoc]at hd ih
  have hl2:(pre++(aS y.fai.fae++ao l)).length=pre.length+(aS y.fai.fae).length+(ao l).length:=by simp;omega
  have hl3:(pre++aS y.fai.fae).length=pre.length+(aN y.fai.fae.fab).toNat:=by rw[List.length_append];omega
  rw[e,ri (by omega),hd]
  dsimp only
  rw[hl3]at ih
  rw[ih]
  rfl
theorem zU {l:List HK}(h:∀y∈l,cW y.fai.fae.fab y.fai.fae.fak=true):(eS (ao l)).isSome=true:=by
 have:=rR [] h
 rw[List.nil_append]at this
 have e:eS (ao l)=some (l.map fun y=>y.fai.fae):=by
  unfold eS
  simpa using this
 rw[e];rfl
theorem oO:∀(l:List HH) (i:Nat),(funsF l i).Pairwise (· < ·)
 | [],_=>by rw[funsF];exact List.Pairwise.nil
 | x::l,i=>by
  have ih:=oO l (i+1)
  rw[funsF]
  split
  ·refine List.pairwise_append.2 ⟨List.pairwise_singleton _ _,ih,fun a ha b hb=>?_⟩
   rw[List.mem_singleton]at ha
   have:=(pj hb).1
   omega
  ·rw[List.nil_append];exact ih
theorem Fa {p:List HH}{f g k:Nat}(hf:(ak p)[f]?=some k)(hg:(ak p)[g]?=some k):f=g:=by
 have hs:=List.pairwise_iff_getElem.1 (oO p 0)
 obtain⟨h1,e1⟩:=List.getElem?_eq_some_iff.1 hf
 obtain⟨h2,e2⟩:=List.getElem?_eq_some_iff.1 hg
 rcases Nat.lt_trichotomy f g with h|h|h
 ·have:=hs f g h1 h2 h
  change(ak p)[f] < (ak p)[g]at this
  rw[e1,e2]at this
  omega
 ·exact h
 ·have:=hs g f h2 h1 h
  change(ak p)[g] < (ak p)[f]at this
  rw[e1,e2]at this
  omega
theorem mj {p:List HH}(h:aw p=true){f k:Nat}(hf:(ak p)[f]?=some k):∃y,p[k]?=some y∧y.faa=0∧bb p f=y.fac∧cE y.fac=true∧findN p 0 y.fac=some k:=by
 unfold aw at h
 simp only[Bool.and_eq_true,decide_eq_true_eq]at h
 obtain⟨_,_,h3,_,h5,_⟩:=h
 obtain⟨_,y,hy,h0⟩:=iC (List.mem_of_getElem? hf)
 have hl:=List.all_eq_true.1 h3 y (List.mem_of_getElem? hy)
 have hn:=List.all_eq_true.1 h5 k (List.mem_of_getElem? hf)
 refine⟨y,hy,h0,by rw[bb,hf];dsimp only;rw[hy],?_,?_⟩
 ·unfold cy at hl
  simp only[Bool.and_eq_true]at hl
  have:=hl.2.1
  rwa [if_pos (.inl h0)]at this
 ·unfold bo at hn
  rw[hy]at hn
  exact eq_of_beq hn
theorem At {p:List HH}(h:aw p=true){f g:Nat}(hf:f < (ak p).length)(hg:g < (ak p).length)(he:bb p f=bb p g):f=g:=by
 obtain⟨k,hk⟩:=ae hf
 obtain⟨j,hj⟩:=ae hg
 obtain⟨_,_,_,e1,_,f1⟩:=mj h hk
 obtain⟨_,_,_,e2,_,f2⟩:=mj h hj
 rw[e1,e2]at he
 rw[he,f2]at f1
 injection f1 with f1
 subst f1
 exact Fa hk hj
theorem um {p:List HH}:∀(L:List (Nat×List HK)) (pre post:List UInt8) (seen:List HO),
  (∀x∈L,0 < (ao x.2).length∧(∀y∈x.2,cW y.fai.fae.fab y.fai.fae.fak=true)∧cE (bb p x.1)=true)→L.Pairwise (fun x y=>bb p x.1≠bb p y.1)→(∀x∈L,∀y∈seen,y.fac≠bb p x.1)→post=[]→
  ey (pre++ao (aC L)++post) seen pre.length (bx p pre.length L)=true
 | [],pre,post,seen,_,_,_,hp=>by subst hp;simp[bx,ey,aC,ao]
 |(f,l)::L,pre,post,seen,h1,h2,h3,hp=>by
  subst hp
  obtain⟨q1,q2,q3⟩:=h1 (f,l) (by simp)
  dsimp only at q1 q2 q3
  have e:ao (aC ((f,l)::L))=ao l++ao (aC L):=by rw[show aC ((f,l)::L)=l++aC L by simp[aC],aH]
  rw[List.pairwise_cons]at h2
  rw[e,List.append_nil,bx,ey,Bool.and_eq_true]
  constructor
  ·unfold uZ
   rw[Bool.and_eq_true,Bool.and_eq_true]
   refine⟨imgPre_iff.2 ⟨rfl,by dsimp only;omega,by dsimp only;simp;omega,q3⟩,?_,?_⟩
   ·rw[Bool.not_eq_true',eY,List.any_eq_false]
    intro y hy
    have:=h3 (f,l) (by simp) y hy
    simpa using this
   ·dsimp only
    rw[Int.toNat_natCast]
    have e2:((pre++(ao l++ao (aC L))).take (pre.length+(ao l).length)).drop pre.length=ao l:=by
     rw[←List.append_assoc,List.take_left' (by simp),List.drop_left]
    rw[e2]
    exact zU q2
  ·dsimp only
   rw[Int.toNat_natCast]
   have ih:=um L (pre++ao l) [] (seen++[⟨bb p f,(pre.length:Int),((ao l).length:Int)⟩]) (fun x hx=>h1 x (by simp[hx])) h2.2 (fun x hx y hy=>by
    rcases List.mem_append.1 hy with hy|hy
    ·exact h3 x (by simp[hx]) y hy
    ·rw[List.mem_singleton]at hy
     subst hy
     exact h2.1 x hx) rfl
   rw[List.append_nil,List.length_append,List.append_assoc]at ih
   simpa using ih
theorem jK {p:List HH}{b:Hz}{image:Int}:∀(n f:Nat) (at0:Int),(bZ p b image n f at0).Pairwise (fun x y=>x.1 < y.1)
 | 0,_,_=>by rw[bZ];exact List.Pairwise.nil
 | n+1,f,at0=>by
  rw[kH]
  split
  ·refine List.pairwise_cons.2 ⟨fun y hy=>?_,jK n _ _⟩
   have:=(kp hy).1
   dsimp only
   omega
  ·exact jK n _ _
theorem dJ {p:List HH}{b:Hz}(hs:aB 1048576 (.lst 4 (p.map HH.tr)))(h1:aw p=true)(h2:aJ b=true){image:Int}(h3:af image 0 1=true):bq (ag p b image)=true∧(ag p b image).fab.length≤75000:=by
 rw[ag,if_pos ⟨h1,h2,h3⟩]
 obtain⟨h6,_⟩:=dU h1
 have hll:=jc p b image (ak p).length 0 0
 have hlc:=fun x (hx:x∈bZ p b image (ak p).length 0 0)=>(jf hs hx).1
 have hlf:=fun x (hx:x∈bZ p b image (ak p).length 0 0)=>(kp hx).2
 have hso:=jK (p:=p) (b:=b) (image:=image) (ak p).length 0 0
 have hat:∀x∈bZ p b image (ak p).length 0 0,0 < x.2.length∧∀y∈x.2,cW y.fai.fae.fab y.fai.fae.fak=true:=fun x hx=>by
  obtain⟨i,hi⟩:=List.mem_iff_getElem?.1 hx
  have hl:=(mT hs h1 h2 (by omega) hi).2.2
  have ho:∀y∈x.2,cW y.fai.fae.fab y.fai.fae.fak=true:=fun y hy=>by
   obtain⟨j,hj⟩:=List.mem_iff_getElem?.1 hy
   exact(kO hs h1 h2 hi hj).1.op
  exact⟨hl,ho⟩
 generalize bZ p b image (ak p).length 0 0=L at *
 have hal:=na hlc (Nat.le_refl L.length)
 rw[List.take_of_length_le (Nat.le_refl _)]at hal
 have hal2:=Nat.mul_le_mul_left 2500 (show L.length≤6 by omega)
 have hcl:=eu (aC L)
 refine⟨imageOk_iff.2 ⟨by dsimp only;omega,?_⟩,by dsimp only;omega⟩
 have:=um (p:=p) L [] [] [] (fun x hx=>?_) ?_ (fun x hx y hy=>by cases hy) rfl
 ·simpa using this
 ·obtain⟨q1,q2⟩:=hat x hx
  obtain⟨k,hk⟩:=ae (l:=ak p) (k:=x.1) (by have:=hlf x hx;omega)
  obtain⟨y,_,_,e,hn,_⟩:=mj h1 hk
  refine⟨?_,q2,by rw[e];exact hn⟩
  obtain⟨z,l',hz⟩:=List.exists_cons_of_length_pos q1
  rw[hz,show z::l'=[z]++l' from rfl,aH,ew,List.length_append]
  have hop:=q2 z (by rw[hz];simp)
  have:=fH hop
  have h4:=cL z.fai.fae.fab
  have hc:af z.fai.fae.fab 0 17=true:=by
   unfold cW at hop
   rw[Bool.and_eq_true]at hop
   exact hop.1
  rw[aN,if_pos hc]at this
  omega
 ·refine hso.imp_of_mem fun{x y} hx hy hlt he=>?_
  have:=At h1 (by have:=hlf x hx;omega) (by have:=hlf y hy;omega) he
  omega
def eG (nm:List UInt8)(b:Int)(l:List HO):List Int:=(l.filter fun y=>y.fac==nm).map fun y=>IntKind.i64.wrap (b+y.fah)
theorem zf (nm:List UInt8)(b:Int):eG nm b []=[]:=rfl
theorem Dn (nm:List UInt8)(b:Int)(l:List HO)(y:HO):eG nm b (l++[y])=eG nm b l++if(y.fac==nm)=true then [IntKind.i64.wrap (b+y.fah)]else []:=by
 unfold eG
 rw[List.filter_append,List.map_append]
 congr 1
 split
 ·rename_i h;simp[h]
 ·rename_i h;simp[h]
theorem wP {nm:List UInt8}{b:Int}{l:List HO}{k:Nat}{y:HO}(h:l[k]?=some y):eG nm b (l.take (k+1))=eG nm b (l.take k)++if(y.fac==nm)=true then [IntKind.i64.wrap (b+y.fah)]else []:=by
 rw[cr h,Dn]
theorem iT (nm:List UInt8)(b:Int)(l:List HO):(eG nm b l).length≤l.length:=by
 unfold eG
 rw[List.length_map]
 exact List.length_filter_le _ _
def fI (f:Nat):List (Nat×List HK)→Int→Option Int
 | [],_=>none
 | x::L,a=>if x.1=f then some a else fI f L (a+(ao x.2).length)
theorem wu {p:List HH}{nm:List UInt8}{b:Int}:∀(L:List (Nat×List HK)) (a:Int),(∀x∈L,bb p x.1≠nm)→eG nm b (bx p a L)=[]
 | [],_,_=>rfl
 |(g,l)::L,a,h=>by
  have h1:=h (g,l) (by simp)
  have ih:=wu (p:=p) (nm:=nm) (b:=b) L (a+(ao l).length) (fun x hx=>h x (by simp[hx]))
  unfold eG at ih ⊢
  rw[bx,List.filter_cons,if_neg (by simpa using h1)]
  exact ih
theorem wC {p:List HH}{b:Int}{f:Nat}:∀(L:List (Nat×List HK)) (a:Int),(∀x∈L,bb p x.1=bb p f→x.1=f)→L.Pairwise (fun x y=>x.1 < y.1)→
  eG (bb p f) b (bx p a L)=match fI f L a with|some s=>[IntKind.i64.wrap (b+s)]|none=>[]
 | [],_,_,_=>rfl
 |(g,l)::L,a,h,hs=>by
  rw[List.pairwise_cons]at hs
  rw[fI]
  by_cases hg:g=f
  ·subst hg
   rw[if_pos rfl]
   have hn:=wu (p:=p) (nm:=bb p g) (b:=b) L (a+(ao l).length) (fun x hx he=>by
    have h1:=h x (by simp[hx]) he
    have h2:=hs.1 x hx
    dsimp only at h2
    omega)
   unfold eG at hn ⊢
   rw[bx,List.filter_cons,if_pos (by simp),List.map_cons,hn]
  ·rw[if_neg hg]
   have ih:=wC (p:=p) (b:=b) (f:=f) L (a+(ao l).length) (fun x hx=>h x (by simp[hx])) hs.2
   rw[←ih]
   unfold eG
   rw[bx,List.filter_cons,if_neg]
   simp only[beq_iff_eq]
   exact fun he=>hg (h (g,l) (by simp) he)
theorem ll {f:Nat}:∀{L:List (Nat×List HK)} {a:Int},(∃x∈L,x.1=f)→∃s,fI f L a=some s
 | [],_,⟨_,h,_⟩=>by cases h
 | x::L,a,⟨y,hy,he⟩=>by
  rw[fI]
  split
  ·exact⟨_,rfl⟩
  ·rename_i hx
   rcases List.mem_cons.1 hy with rfl|hy
   ·exact absurd he hx
   ·exact ll ⟨y,hy,he⟩
theorem oU {f:Nat}:∀{L:List (Nat×List HK)} {a:Int},(∀x∈L,x.1≠f)→fI f L a=none
 | [],_,_=>rfl
 | x::L,a,h=>by rw[fI,if_neg (h x (by simp)),oU fun y hy=>h y (by simp[hy])]
theorem vm {f:Nat}:∀{L:List (Nat×List HK)} {a s:Int},fI f L a=some s→∃i x,L[i]?=some x∧x.1=f∧s=a+((ao (aC (L.take i))).length:Int)
 | [],_,_,h=>by rw[fI]at h;cases h
 | x::L,a,s,h=>by
  rw[fI]at h
  split at h
  ·injection h with h
   exact⟨0,x,rfl,by assumption,by subst h;simp[aC,ao]⟩
  ·obtain⟨i,y,h1,h2,h3⟩:=vm h
   refine⟨i+1,y,by simpa using h1,h2,?_⟩
   rw[List.take_succ_cons,show aC (x::L.take i)=x.2++aC (L.take i) by simp[aC],aH,List.length_append]
   omega
theorem imgL_mem {p:List HH}{b:Hz}{image:Int}:∀{n f:Nat} {at0:Int} {g:Nat},(∃x∈bZ p b image n f at0,x.1=g)↔(f≤g∧g < f+n∧mi b image g=true)
 | 0,f,at0,g=>by
  rw[bZ]
  constructor
  ·rintro⟨x,h,_⟩;cases h
  ·rintro⟨h1,h2,_⟩;omega
 | n+1,f,at0,g=>by
  rw[kH]
  split
  ·rename_i hin
   constructor
   ·rintro⟨x,hx,he⟩
    rcases List.mem_cons.1 hx with rfl|hx
    ·dsimp only at he;subst he;exact⟨by omega,by omega,hin⟩
    ·have:=imgL_mem.1 ⟨x,hx,he⟩;exact⟨by omega,by omega,this.2.2⟩
   ·rintro⟨h1,h2,h3⟩
    by_cases hg:g=f
    ·exact⟨_,List.mem_cons_self ..,hg.symm⟩
    ·obtain⟨x,hx,he⟩:=(imgL_mem (p:=p) (at0:=sG at0 (aL p f b)) (n:=n) (f:=f+1)).2 ⟨by omega,by omega,h3⟩
     exact⟨x,List.mem_cons_of_mem _ hx,he⟩
  ·rename_i hin
   constructor
   ·intro h
    have:=imgL_mem.1 h
    exact⟨by omega,by omega,this.2.2⟩
   ·rintro⟨h1,h2,h3⟩
    have hg:g≠f:=fun e=>by subst e;exact hin h3
    exact imgL_mem.2 ⟨by omega,by omega,h3⟩
noncomputable abbrev imL (p:List HH) (b:Hz) (image:Int):List (Nat×List HK):=bZ p b image (ak p).length 0 0
def cA (b:Hz)(f:Nat):Int:=if b.fas=true then(f:Int) % 2 else 0
theorem qQ {b:Hz}{f:Nat}{image:Int}(h:image=0∨image=1):mi b image f=true↔image=cA b f:=by
 unfold mi cA
 split
 ·rw[beq_iff_eq];omega
 ·rw[beq_iff_eq]
def nA (p:List HH)(b:Hz)(i0 i1:HE)(first second:Int)(f:Nat):List Int:=eG (bb p f) first i0.faf++eG (bb p f) second i1.faf
def sN (p:List HH)(b:Hz)(i0 i1:HE)(first second:Int)(f:Nat):List Int:=if cA b f=1 then eG (bb p f) second i1.faf else eG (bb p f) first i0.faf
def dP (F:Nat→List Int):Nat→List Int
 | 0=>[]
 | n+1=>dP F n++F n
noncomputable def bt (p:List HH) (b:Hz) (f:Nat):Int:=(fI f (imL p b (cA b f)) 0).getD 0
noncomputable def bd (p:List HH) (b:Hz) (first second:Int) (f:Nat):Int:=IntKind.i64.wrap ((if cA b f=1 then second else first)+bt p b f)
theorem gW (b:Hz)(f:Nat):cA b f=0∨cA b f=1:=by unfold cA;split <;> omega
theorem jh {p:List HH}{b:Hz}(h1:aw p=true)(h2:aJ b=true){image:Int}(hi:image=0∨image=1){f:Nat}(hf:f < (ak p).length)(base:Int):
  eG (bb p f) base (ag p b image).faf=if cA b f=image then [IntKind.i64.wrap (base+bt p b f)]else []:=by
 have h3:af image 0 1=true:=by rw[within_iff];omega
 rw[ag,if_pos ⟨h1,h2,h3⟩]
 dsimp only
 rw[wC _ _ (fun x hx he=>At h1 (by have:=(kp hx).2;omega) hf he) (jK _ _ _)]
 by_cases he:cA b f=image
 ·subst he
  obtain⟨s,hs⟩:=ll (f:=f) (a:=0) ((imgL_mem (p:=p) (b:=b) (image:=cA b f) (n:=(ak p).length) (f:=0) (at0:=0) (g:=f)).2 ⟨by omega,by omega,(qQ hi).2 rfl⟩)
  rw[hs,if_pos rfl,bt,show imL p b (cA b f)=bZ p b (cA b f) (ak p).length 0 0 from rfl,hs]
  rfl
 ·rw[if_neg he,oU fun x hx hxe=>?_]
  have:=(imgL_mem (g:=f)).1 ⟨x,hx,hxe⟩
  exact he ((qQ hi).1 this.2.2).symm
theorem FF {p:List HH}{b:Hz}(h1:aw p=true)(h2:aJ b=true){f:Nat}(hf:f < (ak p).length)(first second:Int):sN p b (ag p b 0) (ag p b 1) first second f=[bd p b first second f]:=by
 unfold sN bd
 rw[jh h1 h2 (.inr rfl) hf,jh h1 h2 (.inl rfl) hf]
 rcases gW b f with e|e
 ·rw[e];rfl
 ·rw[e];rfl
theorem Fw {p:List HH}{b:Hz}(h1:aw p=true)(h2:aJ b=true){f:Nat}(hf:f < (ak p).length)(first second:Int):nA p b (ag p b 0) (ag p b 1) first second f=[bd p b first second f]:=by
 unfold nA bd
 rw[jh h1 h2 (.inr rfl) hf,jh h1 h2 (.inl rfl) hf]
 rcases gW b f with e|e
 ·rw[e];rfl
 ·rw[e];rfl
theorem qN {F:Nat→List Int}{G:Nat→Int}:∀{n:Nat},(∀f,f < n→F f=[G f])→dP F n=(List.range n).map G
 | 0,_=>rfl
 | n+1,h=>by rw[dP,qN fun f hf=>h f (by omega),h n (by omega),List.range_succ,List.map_append];rfl
noncomputable def entries (p:List HH) (b:Hz) (first second:Int):List Int:=(List.range (ak p).length).map (bd p b first second)
noncomputable def cQ (p:List HH) (b:Hz) (first second:Int):HN:=⟨[ag p b 0,ag p b 1],[first,second],entries p b first second⟩
noncomputable def dy (p:List HH) (b:Hz) (first second:Int):Option HN:=if aw p=true∧aJ b=true∧eL (cQ p b first second)=true then some (cQ p b first second)else none
def oSp (o:Option HN):HN:=match o with|some s=>s|none=>⟨[],[],[]⟩
theorem ph {p:List HH}:∀(L:List (Nat×List HK)) (a:Int) (y:HO),y∈bx p a L→a≤y.fah∧y.fah≤a+(ao (aC L)).length
 | [],_,_,h=>by cases h
 |(f,l)::L,a,y,h=>by
  have e:((ao (aC ((f,l)::L))).length:Int)=(ao l).length+(ao (aC L)).length:=by
   rw[show aC ((f,l)::L)=l++aC L by simp[aC],aH,List.length_append];simp
  rw[e]
  rw[bx]at h
  rcases List.mem_cons.1 h with rfl|h
  ·dsimp only;omega
  ·have:=ph L _ y h;omega
theorem vy {p:List HH}{b:Hz}(hs:aB 1048576 (.lst 4 (p.map HH.tr)))(h1:aw p=true)(h2:aJ b=true){image:Int}(h3:af image 0 1=true){y:HO}(hy:y∈(ag p b image).faf):0≤y.fah∧y.fah≤75000:=by
 have hl:=(dJ hs h1 h2 h3).2
 rw[ag,if_pos ⟨h1,h2,h3⟩]at hy hl
 have:=ph _ _ y hy
 dsimp only at hl
 omega
theorem DL {p:List HH}(h1:aw p=true):1≤(ak p).length∧(ak p).length≤6:=by
 unfold aw at h1
 simp only[Bool.and_eq_true,decide_eq_true_eq]at h1
 exact h1.2.1
theorem vl {p:List HH}{b:Hz}(hs:aB 1048576 (.lst 4 (p.map HH.tr)))(h1:aw p=true)(h2:aJ b=true){first second:Int}(hf:1≤first∧first≤1000000)(hse:1≤second∧second≤1000000){f:Nat}(hlt:f < (ak p).length):
  (cA b f=0∧∃y∈(ag p b 0).faf,first+y.fah=bd p b first second f)∨(cA b f=1∧∃y∈(ag p b 1).faf,second+y.fah=bd p b first second f):=by
 have key:∀(image base:Int),(image=0∨image=1)→1≤base∧base≤1000000→cA b f=image→∃y∈(ag p b image).faf,base+y.fah=IntKind.i64.wrap (base+bt p b f):=by
  intro image base hi hb he
  have hh:=jh h1 h2 hi hlt base
  rw[if_pos he]at hh
  have hm:IntKind.i64.wrap (base+bt p b f)∈eG (bb p f) base (ag p b image).faf:=by rw[hh];simp
  unfold eG at hm
  obtain⟨y,hy,e⟩:=List.mem_map.1 hm
  have hy':=(List.mem_filter.1 hy).1
  have hr:=vy hs h1 h2 (by rw[within_iff];omega) hy'
  refine⟨y,hy',?_⟩
  rw[←e,IntWalk.i64_in _ (by omega)]
 unfold bd
 rcases gW b f with e|e
 ·rw[e]
  exact .inl ⟨rfl,by simpa using key 0 first (.inl rfl) hf e⟩
 ·rw[e]
  exact .inr ⟨rfl,by simpa using key 1 second (.inr rfl) hse e⟩
theorem xL {p:List HH}{b:Hz}(hs:aB 1048576 (.lst 4 (p.map HH.tr)))(h1:aw p=true)(h2:aJ b=true){first second:Int}(hf:1≤first∧first≤1000000)(hse:1≤second∧second≤1000000)(hno:dB (ag p b 0) (ag p b 1) first second=false):eL (cQ p b first second)=true:=by
 have a0:=dJ hs h1 h2 (image:=0) (by decide)
 have a1:=dJ hs h1 h2 (image:=1) (by decide)
 have hl:=DL h1
 show fX (ag p b 0) (ag p b 1) first second (entries p b first second)=true
 unfold fX
 simp only[Bool.and_eq_true]
 refine⟨by rw[within_iff];simp[entries];omega,a0.1,within_iff.2 hf,a1.1,within_iff.2 hse,by rw[hno];rfl,?_⟩
 rw[List.all_eq_true]
 intro e he
 obtain⟨f,hfm,rfl⟩:=List.mem_map.1 he
 rw[List.mem_range]at hfm
 rw[Bool.or_eq_true]
 rcases vl hs h1 h2 hf hse hfm with⟨_,y,hy,e⟩|⟨_,y,hy,e⟩
 ·refine .inl ?_
  rw[bv,List.any_eq_true]
  exact⟨y,hy,by rw[beq_iff_eq];exact e⟩
 ·refine .inr ?_
  rw[bv,List.any_eq_true]
  exact⟨y,hy,by rw[beq_iff_eq];exact e⟩
theorem vt {p:List HH}{b:Hz}(hs:aB 1048576 (.lst 4 (p.map HH.tr)))(h1:aw p=true)(h2:aJ b=true){first second:Int}(hf:1≤first∧first≤9000)(hse:100000≤second∧second≤1000000):dy p b first second=some (cQ p b first second):=by
 have a0:=dJ hs h1 h2 (image:=0) (by decide)
 have hno:dB (ag p b 0) (ag p b 1) first second=false:=by
  unfold dB
  rw[show decide (second < first+((ag p b 0).fab.length:Int))=false from decide_eq_false (by have:=a0.2;omega),Bool.and_false,Bool.and_false,Bool.and_false]
 rw[dy,if_pos ⟨h1,h2,xL hs h1 h2 (by omega) (by omega) hno⟩]
structure PsOk (P:List HK):Prop where
 at0:∀x:HK,P[0]?=some x→x.fao=0
 next:∀(k:Nat) (x y:HK),P[k]?=some x→P[k+1]?=some y→y.fao=x.fao+aN x.fai.fae.fab
 rng:∀(k:Nat) (x:HK),P[k]?=some x→0≤x.fao∧x.fao≤100000∧1≤aN x.fai.fae.fab∧aN x.fai.fae.fab≤5∧0≤x.fai.fam∧x.fai.fam≤59
 len:P.length≤15000
theorem AJ {c a:Int}(h:cW c a=true):1≤aN c∧aN c≤5:=by
 unfold cW at h
 rw[Bool.and_eq_true]at h
 have:=cL c
 rw[aN,if_pos h.1]
 omega
theorem PsOk.lt {P:List HK}(h:PsOk P):∀{n k:Nat} {x y:HK},P[k]?=some x→P[k+n+1]?=some y→x.fao+aN x.fai.fae.fab≤y.fao
 | 0,k,x,y,hx,hy=>by have:=h.next k x y hx hy;omega
 | n+1,k,x,y,hx,hy=>by
  obtain⟨z,hz⟩:=ae (l:=P) (k:=k+n+1) (by have:=aM hy;omega)
  have h1:=h.lt hx hz
  have h2:=h.next (k+n+1) z y hz (by rw[show k+n+1+1=k+(n+1)+1 by omega];exact hy)
  have:=(h.rng _ z hz).2.2.1
  omega
abbrev Fr (x:Int×Int):Res:= .tup [.c (.t (.int .i64 x.1)),.c (.t (.int .i64 x.2))]
theorem vV (i0 i1:HE)(b0 b1 e:Int)(es:List Int)(hb0:0≤b0∧b0≤1000000)(hb1:0≤b1∧b1≤1000000)(hl0:i0.fab.length≤1048576)(hl1:i1.fab.length≤1048576):Sim.Spec Tryz.prog 103 [.agg (HN.mk [i0,i1] [b0,b1] es).tr,tvI e] (Fr (gv i0 i1 b0 b1 e)):=by
 refine aq hΓ ay Tryz.func103 rfl (by decide) rfl ?_
 generalize hR:gv i0 i1 b0 b1 e=R
 repeat' ((conv=>whnf);first|refine Or.inl ?_|apply oi|(apply fi<;>intro h)|refine⟨_,rfl,?_⟩|exact rfl)
 all_goals try exact⟨KO⟩
 conv=>whnf
 refine⟨{k:Nat // k≤2∧(1≤k→¬(b0≤e∧e < b0+i0.fab.length))∧(2≤k→¬(b1≤e∧e < b1+i1.fab.length))},fun k=>⟨[(1,tI .i64 e),(2,.r (.c (.ptr (2,0,0) 0))),(9,.r (.c (.t (.lst 2 [i0.tr,i1.tr])))),(10,tI .i64 2),(11,tI .i64 (k.1:Int))],[((2,0,0),some (.box (ru i0 i1 b0 b1 es)))],[2]⟩,fun k=>2 - k.1,⟨0,by omega,by omega,by omega⟩,?_,?_⟩
 ·skip
  repeat' ((conv=>whnf);first|refine Or.inl ?_|apply oi|(apply fi<;>intro h)|refine⟨_,rfl,?_⟩|exact rfl)
  all_goals try exact⟨KO⟩
 intro⟨k,hk,hk1,hk2⟩
 dsimp only
 by_cases hlt:k < 2
 ·obtain⟨i,b,hi,hb,hbb,hll,hyes,hno⟩:∃(i:HE) (b:Int),([i0.tr,i1.tr]:List (List Tr))[k]?=some i.tr∧([aa b0,aa b1]:List (List Tr))[k]?=some (aa b)∧(0≤b∧b≤1000000)∧i.fab.length≤1048576∧
    (b≤e∧e < b+i.fab.length→R=((k:Int),e - b))∧(¬(b≤e∧e < b+i.fab.length)→(1≤k+1→¬(b0≤e∧e < b0+i0.fab.length))∧(2≤k+1→¬(b1≤e∧e < b1+i1.fab.length))):=by
   have:k=0∨k=1:=by omega
   rcases this with rfl|rfl
   ·exact⟨i0,b0,rfl,rfl,hb0,hl0,fun h=>by rw[←hR,gv,if_pos h];rfl,fun h=>⟨fun _=>h,fun h2=>by omega⟩⟩
   ·exact⟨i1,b1,rfl,rfl,hb1,hl1,fun h=>by rw[←hR,gv,if_neg (hk1 (by omega)),if_pos h];rfl,fun h=>⟨fun _=>hk1 (by omega),fun _=>h⟩⟩
  by_cases hin:b≤e∧e < b+i.fab.length
  ·have hRR:=hyes hin
   have hws:IntKind.i64.wrap (e - b)=e - b:=IntWalk.i64_in _ (by omega)
   have hB:=aD e b (b+i.fab.length - 1)
   rw[within_iff.2 ⟨hin.1,by omega⟩]at hB
   subst hRR
   repeat' ((conv=>whnf);first|refine Or.inl ?_|apply oi|(apply fi<;>intro h)|refine⟨k,i.tr,rfl,hi,?_⟩|refine⟨k,aa b,rfl,hb,?_⟩|refine ci hB (ai rfl (ai rfl (ai KW trivial))) ?_|refine⟨_,rfl,?_⟩|exact rfl)
   all_goals try exact⟨KO⟩
   all_goals first
    |(exfalso;have h':=of_decide_eq_false h;omega)
    |(refine⟨congrArg (Tr.int _) ?_⟩;rw[hws])
  ·have hB:=aD e b (b+i.fab.length - 1)
   have hwf:af e b (b+i.fab.length - 1)=false:=by
    cases hw:af e b (b+i.fab.length - 1)with
    | false=>rfl
    | true=>have:=within_iff.1 hw;exact absurd ⟨this.1,by omega⟩ hin
   rw[hwf]at hB
   repeat' ((conv=>whnf);first|refine Or.inl ?_|apply oi|(apply fi<;>intro h)|refine⟨k,i.tr,rfl,hi,?_⟩|refine⟨k,aa b,rfl,hb,?_⟩|refine ci hB (ai rfl (ai rfl (ai KW trivial))) ?_|refine⟨_,rfl,?_⟩|exact rfl)
   all_goals try exact⟨KO⟩
   all_goals try(exfalso;have h':=of_decide_eq_false h;omega)
   all_goals conv=>whnf
   all_goals refine⟨⟨k+1,by omega,hno hin⟩,?_,KD⟩
   repeat' ((conv=>whnf);first|refine Or.inl ?_|apply oi|(apply fi<;>intro h)|refine⟨_,rfl,?_⟩|exact rfl)
   all_goals try exact⟨KO⟩
   all_goals exact⟨by dsimp only;rw[IntWalk.i64_in _ (by omega)];rfl⟩
 ·have hk2':k=2:=by omega
  subst hk2'
  have hRR:R=(-1,-1):=by rw[←hR,gv,if_neg (hk1 (by omega)),if_neg (hk2 (by omega))]
  subst hRR
  repeat' ((conv=>whnf);first|refine Or.inl ?_|apply oi|(apply fi<;>intro h)|refine⟨_,rfl,?_⟩|exact rfl)
  all_goals try exact⟨KO⟩
theorem qv (i0 i1:HE)(b0 b1 e:Int)(es:List Int)(hb0:0≤b0∧b0≤1000000)(hb1:0≤b1∧b1≤1000000)(hl0:i0.fab.length≤1048576)(hl1:i1.fab.length≤1048576):Sim.Spec Tryz.prog 165 [.agg (HN.mk [i0,i1] [b0,b1] es).tr,tvI e] (Fr (gv i0 i1 b0 b1 e)):=by
 refine aq hΓ ay Tryz.func165 rfl (by decide) rfl ?_
 have h2:([i0.tr,i1.tr]:List (List Tr)).length=2:=rfl
 generalize hR:gv i0 i1 b0 b1 e=R
 repeat' ((conv=>whnf);first|refine Or.inl ?_|apply oi|(apply fi<;>intro h)|refine⟨_,rfl,?_⟩|exact rfl)
 all_goals try exact⟨KO⟩
 conv=>whnf
 refine⟨{k:Nat // k≤2∧(1≤k→¬(b0≤e∧e < b0+i0.fab.length))∧(2≤k→¬(b1≤e∧e < b1+i1.fab.length))},fun k=>⟨[(1,tI .i64 e),(2,.r (.c (.ptr (2,0,0) 0))),(6,tI .i64 (k.1:Int))],[((2,0,0),some (.box (ru i0 i1 b0 b1 es)))],[2]⟩,fun k=>2 - k.1,⟨0,by omega,by omega,by omega⟩,?_,?_⟩
 ·skip
  repeat' ((conv=>whnf);first|refine Or.inl ?_|apply oi|(apply fi<;>intro h)|refine⟨_,rfl,?_⟩|exact rfl)
  all_goals try exact⟨KO⟩
 intro⟨k,hk,hk1,hk2⟩
 dsimp only
 by_cases hlt:k < 2
 ·obtain⟨i,b,hi,hb,hbb,hll,hyes,hno⟩:∃(i:HE) (b:Int),([i0.tr,i1.tr]:List (List Tr))[k]?=some i.tr∧([aa b0,aa b1]:List (List Tr))[k]?=some (aa b)∧(0≤b∧b≤1000000)∧i.fab.length≤1048576∧
    (b≤e∧e < b+i.fab.length→R=((k:Int),e - b))∧(¬(b≤e∧e < b+i.fab.length)→(1≤k+1→¬(b0≤e∧e < b0+i0.fab.length))∧(2≤k+1→¬(b1≤e∧e < b1+i1.fab.length))):=by
   have:k=0∨k=1:=by omega
   rcases this with rfl|rfl
   ·exact⟨i0,b0,rfl,rfl,hb0,hl0,fun h=>by rw[←hR,gv,if_pos h];rfl,fun h=>⟨fun _=>h,fun h2=>by omega⟩⟩
   ·exact⟨i1,b1,rfl,rfl,hb1,hl1,fun h=>by rw[←hR,gv,if_neg (hk1 (by omega)),if_pos h];rfl,fun h=>⟨fun _=>hk1 (by omega),fun _=>h⟩⟩
  by_cases hin:b≤e∧e < b+i.fab.length
  ·have hRR:=hyes hin
   have hws:IntKind.i64.wrap (e - b)=e - b:=IntWalk.i64_in _ (by omega)
   have hw3:IntKind.i64.wrap (b+(i.fab.length:Int))=b+i.fab.length:=IntWalk.i64_in _ (by omega)
   subst hRR
   repeat' ((conv=>whnf);first|refine Or.inl ?_|apply oi|(apply fi<;>intro h)|refine⟨k,i.tr,rfl,hi,?_⟩|refine⟨k,aa b,rfl,hb,?_⟩|refine⟨_,rfl,?_⟩|exact rfl)
   all_goals try exact⟨KO⟩
   all_goals first
    |(exfalso;have h':=of_decide_eq_false h;(try rw[hw3]at h');(try rw[h2]at h');omega)
    |(refine⟨congrArg (Tr.int _) ?_⟩;rw[hws])
  ·have hw3:IntKind.i64.wrap (b+(i.fab.length:Int))=b+i.fab.length:=IntWalk.i64_in _ (by omega)
   repeat' ((conv=>whnf);first|refine Or.inl ?_|apply oi|(apply fi<;>intro h)|refine⟨k,i.tr,rfl,hi,?_⟩|refine⟨k,aa b,rfl,hb,?_⟩|refine⟨_,rfl,?_⟩|exact rfl)
   all_goals try exact⟨KO⟩
   all_goals try(exfalso;first|(have h':=of_decide_eq_false h;rw[h2]at h';omega)|(rename_i a1;have c1:=of_decide_eq_true a1;have c2:=of_decide_eq_true h;rw[hw3]at c2;exact hin ⟨c1,c2⟩))
   all_goals conv=>whnf
   all_goals refine⟨⟨k+1,by omega,hno hin⟩,?_,KD⟩
   repeat' ((conv=>whnf);first|refine Or.inl ?_|apply oi|(apply fi<;>intro h)|refine⟨_,rfl,?_⟩|exact rfl)
   all_goals try exact⟨KO⟩
   all_goals exact⟨by dsimp only;rw[IntWalk.i64_in _ (by omega)];rfl⟩
 ·have hk2':k=2:=by omega
  subst hk2'
  have hRR:R=(-1,-1):=by rw[←hR,gv,if_neg (hk1 (by omega)),if_neg (hk2 (by omega))]
  subst hRR
  repeat' ((conv=>whnf);first|refine Or.inl ?_|apply oi|(apply fi<;>intro h)|refine⟨_,rfl,?_⟩|exact rfl)
  all_goals try exact⟨KO⟩
theorem se {s:HN}:(∃i0 i1 b0 b1,s=⟨[i0,i1],[b0,b1],s.fay⟩)∨(eL s=false∧¬(s.fau.length=2∧s.fav.length=2)):=by
 obtain⟨im,bs,es⟩:=s
 match im,bs with
 | [i0,i1],[b0,b1]=>exact .inl ⟨i0,i1,b0,b1,rfl⟩
 | [],_=>exact .inr ⟨rfl,by simp⟩
 | [_],_=>exact .inr ⟨rfl,by simp⟩
 | _::_::_::_,_=>exact .inr ⟨rfl,by simp⟩
 | [_,_],[]=>exact .inr ⟨rfl,by simp⟩
 | [_,_],[_]=>exact .inr ⟨rfl,by simp⟩
 | [_,_],_::_::_::_=>exact .inr ⟨rfl,by simp⟩
theorem lU (s:HN)(hs:aK 1048576 s.tr):Sim.Spec Tryz.prog 29 [.agg s.tr] (rB (eL s)):=by
 rcases se (s:=s)with⟨i0,i1,b0,b1,h⟩|⟨h,hn⟩
 ·rw[h]at hs ⊢
  exact sq i0 i1 b0 b1 s.fay hs
 ·rw[h]
  have l1:(s.fau.map HE.tr).length=s.fau.length:=by simp
  have l2:(s.fav.map aa).length=s.fav.length:=by simp
  refine aq hΓ ay Tryz.func29 rfl (by decide) rfl ?_
  repeat' ((conv=>whnf);first|refine Or.inl ?_|apply oi|(apply fi<;>intro h)|refine ci (aD _ _ _) (ai rfl (ai rfl (ai rfl trivial))) ?_|refine⟨_,rfl,?_⟩|exact rfl)
  all_goals try exact⟨KO⟩
  all_goals(exfalso;apply hn;(simp_all) <;> (constructor <;> omega))
theorem sQ (i0 i1:HE)(b0 b1:Int)(es:List Int)(hs:aK 1048576 (HN.mk [i0,i1] [b0,b1] es).tr):Sim.Spec Tryz.prog 95 [.agg (HN.mk [i0,i1] [b0,b1] es).tr] (rB (fX i0 i1 b0 b1 es)):=by
 refine aq hΓ ay Tryz.func95 rfl (by decide) rfl ?_
 have hlen:(es.map aa).length=es.length:=by simp
 have hE:=bi es.length 1 6
 unfold fX
 cases hw:af es.length 1 6 with
 | false=>
  rw[hw]at hE
  repeat' ((conv=>whnf);first|refine Or.inl ?_|apply oi|(apply fi<;>intro h)|refine ci hE (ai KW (ai rfl (ai rfl trivial))) ?_|refine⟨_,rfl,?_⟩|exact rfl)
  all_goals try exact⟨KO⟩
  all_goals(exfalso;simp at h;done)
 | true=>
  rw[hw]at hE
  repeat' ((conv=>whnf);first|refine Or.inl ?_|apply oi|(apply fi<;>intro h)|refine ci hE (ai KW (ai rfl (ai rfl trivial))) ?_|refine⟨_,rfl,?_⟩|exact rfl)
  all_goals try exact⟨KO⟩
  all_goals try(exfalso;simp at h;done)
  have hsp:=hs
  simp only[HN.tr,aK]at hsp
  have hsI:=hsp.1
  have hi0:aK 1048576 i0.tr:=aT hsI (by simp)
  have hi1:aK 1048576 i1.tr:=aT hsI (by simp)
  have hc0:i0.fab.length≤1048576:=by have:=hi0;simp only[HE.tr,aK,aB]at this;omega
  have hc1:i1.fab.length≤1048576:=by have:=hi1;simp only[HE.tr,aK,aB]at this;omega
  have hsy0:i0.faf.length≤1048576:=by have:=hi0;simp only[HE.tr,aK]at this;exact cv this.2.1
  have hsy1:i1.faf.length≤1048576:=by have:=hi1;simp only[HE.tr,aK]at this;exact cv this.2.1
  have hel:es.length≤1048576:=cv hsp.2.2.1
  rw[Bool.true_and]
  generalize hR:(bq i0 && (af b0 1 1000000 && (bq i1 && (af b1 1 1000000 && (!(dB i0 i1 b0 b1) && es.all fun e=>bv i0 b0 e || bv i1 b1 e)))))=R
  conv=>whnf
  refine⟨{k:Nat // k≤2∧(1≤k→bq i0=true∧af b0 1 1000000=true)∧(2≤k→bq i1=true∧af b1 1 1000000=true)},fun k=>⟨[(1,.r (.c (.ptr (1,0,0) 0))),(3,tI .i64 (k.1:Int))],[((1,0,0),some (.box (ru i0 i1 b0 b1 es)))],[1]⟩,fun k=>2 - k.1,⟨0,by omega,by omega,by omega⟩,?_,?_⟩
  ·skip
   repeat' ((conv=>whnf);first|refine Or.inl ?_|apply oi|(apply fi<;>intro h)|refine⟨_,rfl,?_⟩|exact rfl)
   all_goals try exact⟨KO⟩
  intro⟨k,hk,hk1,hk2⟩
  dsimp only
  by_cases hlt:k < 2
  ·obtain⟨i,b,hi,hb,hsi,hn1,hn2,hyes⟩:∃(i:HE) (b:Int),([i0.tr,i1.tr]:List (List Tr))[k]?=some i.tr∧([aa b0,aa b1]:List (List Tr))[k]?=some (aa b)∧aK 1048576 i.tr∧
     (bq i=false→R=false)∧(af b 1 1000000=false→R=false)∧(bq i=true→af b 1 1000000=true→(1≤k+1→bq i0=true∧af b0 1 1000000=true)∧(2≤k+1→bq i1=true∧af b1 1 1000000=true)):=by
    have:k=0∨k=1:=by omega
    rcases this with rfl|rfl
    ·exact⟨i0,b0,rfl,rfl,hi0,fun h=>by rw[←hR,h];rfl,fun h=>by rw[←hR,h];simp,fun h h'=>⟨fun _=>⟨h,h'⟩,fun h2=>by omega⟩⟩
    ·exact⟨i1,b1,rfl,rfl,hi1,fun h=>by rw[←hR,h];simp,fun h=>by rw[←hR,h];simp,fun h h'=>⟨fun _=>hk1 (by omega),fun _=>⟨h,h'⟩⟩⟩
   have hI:=vq i hsi
   have hB:=bi b 1 1000000
   cases hio:bq i with
   | false=>
    rw[hio]at hI
    rw[hn1 hio]
    repeat' ((conv=>whnf);first|refine Or.inl ?_|apply oi|(apply fi<;>intro h)|refine⟨k,i.tr,rfl,hi,?_⟩|refine ci hI (ai (ai rfl (ai rfl trivial)) trivial) ?_|refine⟨_,rfl,?_⟩|exact rfl)
    all_goals try exact⟨KO⟩
    all_goals(exfalso;first|(have h':=of_decide_eq_false h;omega)|(simp at h;done))
   | true=>
    rw[hio]at hI
    cases hbo:af b 1 1000000 with
    | false=>
     rw[hbo]at hB
     rw[hn2 hbo]
     repeat' ((conv=>whnf);first|refine Or.inl ?_|apply oi|(apply fi<;>intro h)|refine⟨k,i.tr,rfl,hi,?_⟩|refine⟨k,aa b,rfl,hb,?_⟩|refine ci hI (ai (ai rfl (ai rfl trivial)) trivial) ?_|refine ci hB (ai rfl (ai rfl (ai rfl trivial))) ?_|refine⟨_,rfl,?_⟩|exact rfl)
     all_goals try exact⟨KO⟩
     all_goals(exfalso;first|(have h':=of_decide_eq_false h;omega)|(simp at h;done))
    | true=>
     rw[hbo]at hB
     repeat' ((conv=>whnf);first|refine Or.inl ?_|apply oi|(apply fi<;>intro h)|refine⟨k,i.tr,rfl,hi,?_⟩|refine⟨k,aa b,rfl,hb,?_⟩|refine ci hI (ai (ai rfl (ai rfl trivial)) trivial) ?_|refine ci hB (ai rfl (ai rfl (ai rfl trivial))) ?_|refine⟨_,rfl,?_⟩|exact rfl)
     all_goals try exact⟨KO⟩
     all_goals try(exfalso;first|(have h':=of_decide_eq_false h;omega)|(simp at h;done))
     conv=>whnf
     refine⟨⟨k+1,by omega,hyes hio hbo⟩,?_,KD⟩
     repeat' ((conv=>whnf);first|refine Or.inl ?_|apply oi|(apply fi<;>intro h)|refine⟨_,rfl,?_⟩|exact rfl)
     all_goals try exact⟨KO⟩
     all_goals exact⟨by dsimp only;rw[IntWalk.i64_in _ (by omega)];rfl⟩
  ·have hk2':k=2:=by omega
   subst hk2'
   obtain⟨g0,w0⟩:=hk1 (by omega)
   obtain⟨g1,w1⟩:=hk2 (by omega)
   have v0:=within_iff.1 w0
   have v1:=within_iff.1 w1
   rw[g0,g1,w0,w1,Bool.true_and,Bool.true_and,Bool.true_and,Bool.true_and]at hR
   have x0:IntKind.i64.wrap (b1+(i1.fab.length:Int))=b1+i1.fab.length:=IntWalk.i64_in _ (by omega)
   have x1:IntKind.i64.wrap (b0+(i0.fab.length:Int))=b0+i0.fab.length:=IntWalk.i64_in _ (by omega)
   cases ho:dB i0 i1 b0 b1 with
   | true=>
    rw[ho]at hR
    rw[dB,Bool.and_eq_true,Bool.and_eq_true,Bool.and_eq_true,decide_eq_true_eq,decide_eq_true_eq,decide_eq_true_eq,decide_eq_true_eq]at ho
    obtain⟨o1,o2,o3,o4⟩:=ho
    subst hR
    repeat' ((conv=>whnf);first|refine Or.inl ?_|apply oi|(apply fi<;>intro h)|refine⟨0,_,rfl,rfl,?_⟩|refine⟨1,_,rfl,rfl,?_⟩|refine⟨_,rfl,?_⟩|exact rfl)
    all_goals try exact⟨KO⟩
    all_goals(exfalso;first|(have h':=of_decide_eq_false h;(try rw[x0]at h');(try rw[x1]at h');omega)|(have h':=of_decide_eq_true h;omega))
   | false=>
    rw[ho,Bool.not_false,Bool.true_and]at hR
    have hno:¬(0 < i0.fab.length∧0 < i1.fab.length∧b0 < b1+i1.fab.length∧b1 < b0+i0.fab.length):=by
     intro⟨a,b,c,d⟩
     rw[dB,decide_eq_true a,decide_eq_true b,decide_eq_true c,decide_eq_true d]at ho
     cases ho
    have m0:=dL (imageOk_iff.1 g0).2 (by omega)
    have m1:=dL (imageOk_iff.1 g1).2 (by omega)
    have l0:=(imageOk_iff.1 g0).1
    have l1:=(imageOk_iff.1 g1).1
    repeat' ((conv=>whnf);first|refine Or.inl ?_|apply oi|(apply fi<;>intro h)|refine⟨0,_,rfl,rfl,?_⟩|refine⟨1,_,rfl,rfl,?_⟩|refine⟨_,rfl,?_⟩|exact rfl)
    all_goals try exact⟨KO⟩
    all_goals try(
     exfalso
     rename_i a1 a2 a3
     have c1:=of_decide_eq_true a1
     have c2:=of_decide_eq_true a2
     have c3:=of_decide_eq_true a3
     have c4:=of_decide_eq_true h
     rw[x0]at c3
     rw[x1]at c4
     exact hno ⟨by omega,by omega,c3,c4⟩)
    all_goals(
     conv=>whnf
     refine⟨{j:Nat // j≤es.length∧((es.drop j).all fun e=>bv i0 b0 e || bv i1 b1 e)=R},fun j=>⟨[(1,.r (.c (.ptr (1,0,0) 0))),(6,tI .i64 (j.1:Int))],[((1,0,0),some (.box (ru i0 i1 b0 b1 es)))],[1]⟩,fun j=>es.length - j.1,⟨0,by omega,hR⟩,?_,?_⟩
     ·skip
      repeat' ((conv=>whnf);first|refine Or.inl ?_|apply oi|(apply fi<;>intro h)|refine⟨_,rfl,?_⟩|exact rfl)
      all_goals try exact⟨KO⟩
     intro⟨j,hj,hr⟩
     dsimp only
     by_cases hjl:j < es.length
     ·obtain⟨e,he⟩:=ae hjl
      have hLoc:=qv i0 i1 b0 b1 e es (by omega) (by omega) hc0 hc1
      rw[dq he,List.all_cons,←AN g0 g1 ho,Bb]at hr
      by_cases c0:b0≤e∧e < b0+i0.fab.length
      ·have hl2:gv i0 i1 b0 b1 e=(0,e - b0):=by rw[gv,if_pos c0]
       rw[hl2]at hLoc hr
       rw[if_pos rfl]at hr
       have hS:=lH i0 (e - b0) hsy0
       have hrg:=lV i0.faf (e - b0)
       dsimp only at hr
       rw[jJ]at hr
       generalize cU i0.faf (e - b0)=K at *
       rcases hrg with rfl|⟨q0,q1⟩
       ·rw[show decide ((0:Int)≤-1)=false from rfl,Bool.false_and,Bool.false_and]at hr
        subst hr
        repeat' ((conv=>whnf);first|refine Or.inl ?_|apply oi|(apply fi<;>intro h)|refine⟨j,aa e,rfl,ab he,?_⟩|refine ci hLoc (ai (ai rfl (ai rfl (ai rfl trivial))) (ai rfl trivial)) ?_|refine⟨0,i0.tr,rfl,rfl,?_⟩|refine ci hS (ai (ai rfl (ai rfl trivial)) (ai rfl trivial)) ?_|refine⟨_,rfl,?_⟩|exact rfl)
        all_goals try exact⟨KO⟩
        all_goals(exfalso;first|(have h':=of_decide_eq_false h;rw[hlen]at h';omega)|(simp at h;done)|(have h':=of_decide_eq_true h;omega))
       ·obtain⟨n,rfl⟩:=Int.eq_ofNat_of_zero_le q0
        obtain⟨x,hx⟩:=ae (l:=i0.faf) (k:=n) (by omega)
        rw[Int.toNat_natCast,hx,decide_eq_true q0,Bool.true_and]at hr
        dsimp only at hr
        cases hxe:(x.fah==e - b0)with
        | false=>
         rw[hxe,Bool.false_and]at hr
         subst hr
         repeat' ((conv=>whnf);first|refine Or.inl ?_|apply oi|(apply fi<;>intro h)|refine⟨j,aa e,rfl,ab he,?_⟩|refine ci hLoc (ai (ai rfl (ai rfl (ai rfl trivial))) (ai rfl trivial)) ?_|refine⟨0,i0.tr,rfl,rfl,?_⟩|refine ci hS (ai (ai rfl (ai rfl trivial)) (ai rfl trivial)) ?_|refine⟨n,x.tr,rfl,ab hx,?_⟩|refine⟨_,rfl,?_⟩|exact rfl)
         all_goals try exact⟨KO⟩
         all_goals(exfalso;first|(have h':=of_decide_eq_false h;rw[hlen]at h';omega)|(have h':=of_decide_eq_true h;omega)|(simp only[bne,hxe]at h;simp at h;done))
        | true=>
         rw[hxe,Bool.true_and]at hr
         repeat' ((conv=>whnf);first|refine Or.inl ?_|apply oi|(apply fi<;>intro h)|refine⟨j,aa e,rfl,ab he,?_⟩|refine ci hLoc (ai (ai rfl (ai rfl (ai rfl trivial))) (ai rfl trivial)) ?_|refine⟨0,i0.tr,rfl,rfl,?_⟩|refine ci hS (ai (ai rfl (ai rfl trivial)) (ai rfl trivial)) ?_|refine⟨n,x.tr,rfl,ab hx,?_⟩|refine⟨_,rfl,?_⟩|exact rfl)
         all_goals try exact⟨KO⟩
         all_goals try(exfalso;first|(have h':=of_decide_eq_false h;rw[hlen]at h';omega)|(have h':=of_decide_eq_true h;omega)|(simp only[bne,hxe]at h;simp at h;done))
         conv=>whnf
         refine⟨⟨j+1,by omega,hr⟩,?_,KD⟩
         repeat' ((conv=>whnf);first|refine Or.inl ?_|apply oi|(apply fi<;>intro h)|refine⟨_,rfl,?_⟩|exact rfl)
         all_goals try exact⟨KO⟩
         all_goals exact⟨by dsimp only;rw[IntWalk.i64_in _ (by omega)];rfl⟩
      ·by_cases c1:b1≤e∧e < b1+i1.fab.length
       ·have hl2:gv i0 i1 b0 b1 e=(1,e - b1):=by rw[gv,if_neg c0,if_pos c1]
        rw[hl2]at hLoc hr
        rw[if_neg (by simp),if_pos rfl]at hr
        have hS:=lH i1 (e - b1) hsy1
        have hrg:=lV i1.faf (e - b1)
        dsimp only at hr
        rw[jJ]at hr
        generalize cU i1.faf (e - b1)=K at *
        rcases hrg with rfl|⟨q0,q1⟩
        ·rw[show decide ((0:Int)≤-1)=false from rfl,Bool.false_and,Bool.false_and]at hr
         subst hr
         repeat' ((conv=>whnf);first|refine Or.inl ?_|apply oi|(apply fi<;>intro h)|refine⟨j,aa e,rfl,ab he,?_⟩|refine ci hLoc (ai (ai rfl (ai rfl (ai rfl trivial))) (ai rfl trivial)) ?_|refine⟨1,i1.tr,rfl,rfl,?_⟩|refine ci hS (ai (ai rfl (ai rfl trivial)) (ai rfl trivial)) ?_|refine⟨_,rfl,?_⟩|exact rfl)
         all_goals try exact⟨KO⟩
         all_goals(exfalso;first|(have h':=of_decide_eq_false h;rw[hlen]at h';omega)|(simp at h;done)|(have h':=of_decide_eq_true h;omega))
        ·obtain⟨n,rfl⟩:=Int.eq_ofNat_of_zero_le q0
         obtain⟨x,hx⟩:=ae (l:=i1.faf) (k:=n) (by omega)
         rw[Int.toNat_natCast,hx,decide_eq_true q0,Bool.true_and]at hr
         dsimp only at hr
         cases hxe:(x.fah==e - b1)with
         | false=>
          rw[hxe,Bool.false_and]at hr
          subst hr
          repeat' ((conv=>whnf);first|refine Or.inl ?_|apply oi|(apply fi<;>intro h)|refine⟨j,aa e,rfl,ab he,?_⟩|refine ci hLoc (ai (ai rfl (ai rfl (ai rfl trivial))) (ai rfl trivial)) ?_|refine⟨1,i1.tr,rfl,rfl,?_⟩|refine ci hS (ai (ai rfl (ai rfl trivial)) (ai rfl trivial)) ?_|refine⟨n,x.tr,rfl,ab hx,?_⟩|refine⟨_,rfl,?_⟩|exact rfl)
          all_goals try exact⟨KO⟩
          all_goals(exfalso;first|(have h':=of_decide_eq_false h;rw[hlen]at h';omega)|(have h':=of_decide_eq_true h;omega)|(simp only[bne,hxe]at h;simp at h;done))
         | true=>
          rw[hxe,Bool.true_and]at hr
          repeat' ((conv=>whnf);first|refine Or.inl ?_|apply oi|(apply fi<;>intro h)|refine⟨j,aa e,rfl,ab he,?_⟩|refine ci hLoc (ai (ai rfl (ai rfl (ai rfl trivial))) (ai rfl trivial)) ?_|refine⟨1,i1.tr,rfl,rfl,?_⟩|refine ci hS (ai (ai rfl (ai rfl trivial)) (ai rfl trivial)) ?_|refine⟨n,x.tr,rfl,ab hx,?_⟩|refine⟨_,rfl,?_⟩|exact rfl)
          all_goals try exact⟨KO⟩
          all_goals try(exfalso;first|(have h':=of_decide_eq_false h;rw[hlen]at h';omega)|(have h':=of_decide_eq_true h;omega)|(simp only[bne,hxe]at h;simp at h;done))
          conv=>whnf
          refine⟨⟨j+1,by omega,hr⟩,?_,KD⟩
          repeat' ((conv=>whnf);first|refine Or.inl ?_|apply oi|(apply fi<;>intro h)|refine⟨_,rfl,?_⟩|exact rfl)
          all_goals try exact⟨KO⟩
          all_goals exact⟨by dsimp only;rw[IntWalk.i64_in _ (by omega)];rfl⟩
       ·have hl2:gv i0 i1 b0 b1 e=(-1,-1):=by rw[gv,if_neg c0,if_neg c1]
        rw[hl2]at hLoc hr
        rw[if_neg (by simp),if_neg (by simp),Bool.false_and]at hr
        subst hr
        repeat' ((conv=>whnf);first|refine Or.inl ?_|apply oi|(apply fi<;>intro h)|refine⟨j,aa e,rfl,ab he,?_⟩|refine ci hLoc (ai (ai rfl (ai rfl (ai rfl trivial))) (ai rfl trivial)) ?_|refine⟨_,rfl,?_⟩|exact rfl)
        all_goals try exact⟨KO⟩
        all_goals(exfalso;first|(have h':=of_decide_eq_false h;rw[hlen]at h';omega)|(simp at h;done))
     ·have hge:es.length≤j:=by omega
      rw[List.drop_eq_nil_of_le hge,List.all_nil]at hr
      subst hr
      repeat' ((conv=>whnf);first|refine Or.inl ?_|apply oi|(apply fi<;>intro h)|refine⟨_,rfl,?_⟩|exact rfl)
      all_goals try exact⟨KO⟩
      all_goals(exfalso;have h':=of_decide_eq_true h;rw[hlen]at h';omega))
theorem uE (s:HN)(hs:aK 1048576 s.tr):Sim.Spec Tryz.prog 95 [.agg s.tr] (rB (eL s)):=by
 rcases se (s:=s)with⟨i0,i1,b0,b1,h⟩|⟨h,hn⟩
 ·rw[h]at hs ⊢
  exact sQ i0 i1 b0 b1 s.fay hs
 ·rw[h]
  have l1:(s.fau.map HE.tr).length=s.fau.length:=by simp
  have l2:(s.fav.map aa).length=s.fav.length:=by simp
  refine aq hΓ ay Tryz.func95 rfl (by decide) rfl ?_
  repeat' ((conv=>whnf);first|refine Or.inl ?_|apply oi|(apply fi<;>intro h)|refine ci (bi _ _ _) (ai rfl (ai rfl (ai rfl trivial))) ?_|refine⟨_,rfl,?_⟩|exact rfl)
  all_goals try exact⟨KO⟩
  all_goals(exfalso;apply hn;(simp_all) <;> (constructor <;> omega))
def CQ (s:HN)(a:Int):Int×Int:=match s.fau,s.fav with
 | [i0,i1],[b0,b1]=>gv i0 i1 b0 b1 a
 | _,_=>(-1,-1)
def itH:Nat→Int→Int
 | 0,h=>h
 | n+1,h=>itH n (gR h)
theorem lf:∀(n m:Nat) (h:Int),itH (n+m) h=itH m (itH n h)
 | 0,m,h=>by rw[Nat.zero_add,itH]
 | n+1,m,h=>by rw[show n+1+m=(n+m)+1 by omega,itH,itH,lf n m]
abbrev mM:Int:=9007199254740992
def Aff (n:Nat)(a c:Nat):Prop:=∀h:Int,itH n h % mM=((a:Int) * h+c) % mM
theorem zC (x:Int):IntKind.i64.wrap x % mM=x % mM:=by
 have h:IntKind.i64.wrap x % 18446744073709551616=x % 18446744073709551616:=by
  unfold IntKind.wrap
  simp[IntKind.bits,IntKind.signed]
  split <;> omega
 have h1:IntKind.i64.wrap x % 18446744073709551616 % mM=IntKind.i64.wrap x % mM:=Int.emod_emod_of_dvd _ ⟨2048,rfl⟩
 have h2:x % 18446744073709551616 % mM=x % mM:=Int.emod_emod_of_dvd _ ⟨2048,rfl⟩
 rw[←h1,←h2,h]
theorem FB:Aff 1 6364136223846793005 1442695040888963407:=by
 intro h
 show gR h % mM=_
 unfold gR
 rw[zC,Int.add_emod,zC,←Int.add_emod,Int.mul_comm]
 rfl
theorem FJ {n a c m b d:Nat}(h1:Aff n a c)(h2:Aff m b d):Aff (n+m) (a * b % 9007199254740992) ((b * c+d) % 9007199254740992):=by
 intro h
 rw[lf,h2,Int.add_emod,Int.mul_emod,h1,←Int.mul_emod,←Int.add_emod]
 have e1:(((a * b % 9007199254740992:Nat):Int))=((a:Int) * b) % mM:=by rw[Int.natCast_emod,Int.natCast_mul];rfl
 have e2:((((b * c+d) % 9007199254740992:Nat):Int))=((b:Int) * c+d) % mM:=by rw[Int.natCast_emod,Int.natCast_add,Int.natCast_mul];rfl
 rw[e1,e2,Int.add_emod (((a:Int) * b) % mM * h),Int.mul_emod (((a:Int) * b) % mM),Int.emod_emod_of_dvd _ (Int.dvd_refl _),Int.emod_emod_of_dvd _ (Int.dvd_refl _),←Int.mul_emod,←Int.add_emod]
 congr 1
 rw[Int.mul_add,←Int.mul_assoc,Int.mul_comm (b:Int) a,Int.add_assoc]
def zk:Nat→Nat→Nat→Nat×Nat
 | 0,a,c=>(a,c)
 | k+1,a,c=>zk k (a * a % 9007199254740992) ((a * c+c) % 9007199254740992)
theorem Ce:∀(k n a c:Nat),Aff n a c→Aff (n * 2 ^ k) (zk k a c).1 (zk k a c).2
 | 0,n,a,c,h=>by rw[Nat.pow_zero,Nat.mul_one];exact h
 | k+1,n,a,c,h=>by
  rw[zk,show n * 2 ^ (k+1)=(n+n) * 2 ^ k by rw[Nat.pow_succ,Nat.add_mul,←Nat.mul_two,Nat.mul_assoc]]
  exact Ce k (n+n) _ _ (FJ h h)
theorem Hj:(zk 51 6364136223846793005 1442695040888963407).1=1∧(zk 51 6364136223846793005 1442695040888963407).2 % 2251799813685248=0∧(zk 51 6364136223846793005 1442695040888963407).2 / 2251799813685248 % 2=1:=by decide+kernel
def byW (h:Int):Int:=IntKind.i64.wrap ((BitVec.ofInt IntKind.i64.bits (IntKind.i64.wrap ((BitVec.ofInt IntKind.i64.bits (h.fdiv (2 ^ min (Int.toNat 33) IntKind.i64.bits)) ^^^ BitVec.ofInt IntKind.i64.bits (h.fdiv (2 ^ min (Int.toNat 45) IntKind.i64.bits))).toNat:Int)) &&& BitVec.ofInt IntKind.i64.bits 255).toNat:Int)
def byN (h:Int):Nat:=(h % mM / 8589934592 % 256).toNat ^^^ (h % mM / 35184372088832 % 256).toNat
theorem DZ (x:Int):(BitVec.ofInt 64 x &&& BitVec.ofInt 64 255).toNat=(x % 256).toNat:=by
 have e:(BitVec.ofInt 64 255).toNat=2 ^ 8 - 1:=by decide
 rw[BitVec.toNat_and,e,Nat.and_two_pow_sub_one_eq_mod,BitVec.toNat_ofInt]
 omega
theorem GV (h:Int):byW h=(byN h:Int):=by
 have e33:h.fdiv (2 ^ min (Int.toNat 33) IntKind.i64.bits)=h / 8589934592:=by
  rw[show(2:Int) ^ min (Int.toNat 33) IntKind.i64.bits=8589934592 from rfl,Int.fdiv_eq_ediv_of_nonneg _ (by decide)]
 have e45:h.fdiv (2 ^ min (Int.toNat 45) IntKind.i64.bits)=h / 35184372088832:=by
  rw[show(2:Int) ^ min (Int.toNat 45) IntKind.i64.bits=35184372088832 from rfl,Int.fdiv_eq_ediv_of_nonneg _ (by decide)]
 unfold byW
 rw[e33,e45]
 show IntKind.i64.wrap (((BitVec.ofInt 64 (IntKind.i64.wrap ((BitVec.ofInt 64 (h / 8589934592) ^^^ BitVec.ofInt 64 (h / 35184372088832)).toNat:Int)) &&& BitVec.ofInt 64 255).toNat:Nat):Int)=_
 rw[DZ]
 have hw:∀x:Int,IntKind.i64.wrap x % 256=x % 256:=fun x=>by
  unfold IntKind.wrap
  simp[IntKind.bits,IntKind.signed]
  split <;> omega
 rw[hw,BitVec.toNat_xor,BitVec.toNat_ofInt,BitVec.toNat_ofInt]
 have hx:∀a b:Nat,((a ^^^ b:Nat):Int) % 256=(((a % 256) ^^^ (b % 256):Nat):Int):=fun a b=>by
  have:=Nat.xor_mod_two_pow (a:=a) (b:=b) (n:=8)
  rw[show(2:Nat) ^ 8=256 from rfl]at this
  rw[←this]
  omega
 rw[hx]
 have h1:((h / 8589934592) % ((2 ^ 64:Nat):Int)).toNat % 256=(h % mM / 8589934592 % 256).toNat:=by
  rw[show((2 ^ 64:Nat):Int)=18446744073709551616 from rfl]
  show _=(h % 9007199254740992 / 8589934592 % 256).toNat
  omega
 have h2:((h / 35184372088832) % ((2 ^ 64:Nat):Int)).toNat % 256=(h % mM / 35184372088832 % 256).toNat:=by
  rw[show((2 ^ 64:Nat):Int)=18446744073709551616 from rfl]
  show _=(h % 9007199254740992 / 35184372088832 % 256).toNat
  omega
 rw[h1,h2,Int.toNat_natCast]
 have hb:byN h < 256:=by
  unfold byN
  exact Nat.xor_lt_two_pow (n:=8) (by omega) (by omega)
 unfold byN at hb ⊢
 rw[IntWalk.i64_in _ (by omega)]
theorem Ec (h:Int):byN h < 256:=by
 unfold byN
 exact Nat.xor_lt_two_pow (n:=8) (by omega) (by omega)
theorem FR:∀u:Fin 256,∀lo:Fin 64,∃hi:Fin 4,(u.val ^^^ (lo.val+64 * hi.val)) % 3=2:=by decide+kernel
theorem Ho {B r:Int}(h0:0≤r)(h1:r < 2251799813685248):(2251799813685248 * B+r) % mM=2251799813685248 * (B % 4)+r:=by
 show(2251799813685248 * B+r) % 9007199254740992=_
 omega
theorem CV {h B r:Int}(h0:0≤r)(h1:r < 2251799813685248)(he:h % mM=(2251799813685248 * B+r) % mM):byN h=(r / 8589934592 % 256).toNat ^^^ ((r / 35184372088832 % 64).toNat+64 * (B % 4).toNat):=by
 unfold byN
 rw[he,Ho h0 h1]
 have e1:(2251799813685248 * (B % 4)+r) / 8589934592 % 256=r / 8589934592 % 256:=by omega
 have e2:((2251799813685248 * (B % 4)+r) / 35184372088832 % 256).toNat=(r / 35184372088832 % 64).toNat+64 * (B % 4).toNat:=by omega
 rw[e1,e2]
theorem GO (A:Int)(w:Nat)(hw:w % 2=1)(hi:Nat)(hh:hi < 4):∃q:Nat,q < 4∧(A+3 * (q * w:Nat)) % 4=(hi:Int):=by
 have h4:w % 4=1∨w % 4=3:=by omega
 have hA:((hi:Int) - A) % 4=0∨((hi:Int) - A) % 4=1∨((hi:Int) - A) % 4=2∨((hi:Int) - A) % 4=3:=by omega
 rcases hA with h|h|h|h
 ·exact⟨0,by omega,by omega⟩
 ·rcases h4 with h4|h4
  ·exact⟨3,by omega,by omega⟩
  ·exact⟨1,by omega,by omega⟩
 ·exact⟨2,by omega,by omega⟩
 ·rcases h4 with h4|h4
  ·exact⟨1,by omega,by omega⟩
  ·exact⟨3,by omega,by omega⟩
theorem CK {T v:Nat}(h:Aff T 1 v)(g:Int):itH (3 * T) g % mM=(g+3 * v) % mM:=by
 have s1:=h g
 have s2:=h (itH T g)
 have s3:=h (itH T (itH T g))
 rw[Int.natCast_one,Int.one_mul]at s1 s2 s3
 rw[show 3 * T=T+(T+T) by omega,lf,lf,s3,Int.add_emod,s2,←Int.add_emod,Int.add_assoc,Int.add_emod,s1,←Int.add_emod]
 congr 1
 omega
theorem wm {T v:Nat}(h:Aff T 1 v):∀(q:Nat) (g:Int),itH (q * (3 * T)) g % mM=(g+3 * (q * v:Nat)) % mM
 | 0,g=>by simp[itH]
 | q+1,g=>by
  have h3:=CK h g
  rw[show(q+1) * (3 * T)=3 * T+q * (3 * T) by rw[Nat.add_mul,Nat.one_mul,Nat.add_comm],lf,wm h q,Int.add_emod,h3,←Int.add_emod]
  congr 1
  rw[Nat.add_mul,Nat.one_mul]
  omega
theorem Dy (h:Int)(K:Nat):∃k,K≤k∧byN (itH (6 * k) h) % 3=2:=by
 obtain⟨d1,d2,d3⟩:=Hj
 have h51:=Ce 51 1 _ _ FB
 rw[d1,Nat.one_mul]at h51
 generalize(zk 51 6364136223846793005 1442695040888963407).2=v at *
 have e51:(2:Nat) ^ 51=2 * 2 ^ 50:=by rw[Nat.pow_succ,Nat.mul_comm]
 rw[e51]at h51
 generalize(2:Nat) ^ 50=T at *
 obtain⟨w,rfl⟩:∃w:Nat,v=2251799813685248 * w:=⟨v / 2251799813685248,by omega⟩
 have hw1:w % 2=1:=by omega
 generalize hz:itH (6 * K) h=z at *
 obtain⟨A,r,hA,r0,r1⟩:∃A r:Int,z=2251799813685248 * A+r∧0≤r∧r < 2251799813685248:=⟨z / 2251799813685248,z % 2251799813685248,by omega,by omega,by omega⟩
 obtain⟨hi,hhi⟩:=FR ⟨(r / 8589934592 % 256).toNat,by omega⟩ ⟨(r / 35184372088832 % 64).toNat,by omega⟩
 dsimp only at hhi
 obtain⟨q,hq,hqe⟩:=GO A w hw1 hi.val hi.isLt
 refine⟨K+q * T,Nat.le_add_right _ _,?_⟩
 have e6:6 * (K+q * T)=6 * K+q * (3 * (2 * T)):=by
  rw[Nat.mul_add]
  congr 1
  rw[←Nat.mul_assoc 3 2 T,Nat.mul_left_comm]
 rw[e6,lf,hz]
 have hs:=wm h51 q z
 rw[hA,show(2251799813685248 * A+r+3 * ((q * (2251799813685248 * w):Nat):Int))=2251799813685248 * (A+3 * (q * w:Nat))+r by
  rw[Nat.mul_left_comm]
  generalize q * w=y
  omega]at hs
 rw[CV r0 r1 (by rw[hA];exact hs),hqe,Int.toNat_natCast]
 exact hhi
end Go.Proofs.YtjmplnfiabmalaaGreat
