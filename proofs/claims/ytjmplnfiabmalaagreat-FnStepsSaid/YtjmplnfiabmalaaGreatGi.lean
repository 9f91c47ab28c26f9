import Derived.Test.YtjmplnfiabmalaaGreatGh
namespace Go.Proofs.YtjmplnfiabmalaaGreat
open Go.Sim
set_option maxRecDepth 100000
set_option maxHeartbeats 4000000
def nm0:List (List UInt8):=[[109,97,105,110],[102],[103,103],[104]]
def ar0:List Int:=[0,1,2,1]
def arg0:List (List UInt8):=[[120],[121]]
def arN (k:Nat):Nat:=(ar0[k]?.getD 0).toNat
def nmN (k:Nat):List UInt8:=nm0[k]?.getD []
def gpV (n k:Nat)(b:Bool):GP:=⟨arg0.take (arN k)++[[105],[122]],(nm0.take n).drop (if b=true then k else k+1),(ar0.take n).drop (if b=true then k else k+1)⟩
theorem xk {n k:Nat}(b:Bool):(gpV n k b).ok:=by
 refine⟨by simp[gpV],by simp[gpV,arg0];omega,by simp[gpV,nm0];omega,by simp[gpV,nm0,ar0],fun a ha=>?_,fun s hs=>?_,fun s hs=>?_⟩
 ·have:=List.mem_of_mem_take (List.mem_of_mem_drop ha)
  simp[ar0]at this
  omega
 ·simp only[gpV,List.mem_append]at hs
  rcases hs with hs|hs
  ·have:=List.mem_of_mem_take hs
   simp[arg0]at this
   rcases this with rfl|rfl <;> simp
  ·simp at hs
   rcases hs with rfl|rfl <;> simp
 ·have:=List.mem_of_mem_take (List.mem_of_mem_drop hs)
  simp[nm0]at this
  rcases this with rfl|rfl|rfl|rfl <;> simp
noncomputable def uX (n k:Nat) (c:HI):List HP×HI:=
 let o:=if 0 < k then iT 5 c else(false,c)
 let G:=gpV n k o.1
 let t:=bC 4 o.2
 let u:=bC 2 t.2
 let B:=rd G (1+u.1) (1+t.1) u.2
 let e:=exV G 3 B.2
 (⟨0,nmN k,arg0.take (arN k),[]⟩::(B.1++[⟨6,[],[],e.1⟩,⟨7,[],[],[]⟩]),e.2)
noncomputable def iI (n:Nat):Nat→Nat→HI→List HP×HI
 | 0,_,c=>([],c)
 | r+1,k,c=>((uX n k c).1++(iI n r (k+1) (uX n k c).2).1,(iI n r (k+1) (uX n k c).2).2)
noncomputable def jL (c:HI):List HP×HI:=iI (1+(bC 4 c).1) (1+(bC 4 c).1) 0 (bC 4 c).2
def drP (x:HP):List DC:=if x.faa=0 then [.d (.int .i64 0),.d (.str x.fac),.d (.lst 1 (x.faj.map ak)),.d (.lst 0 [])]else dr x
structure PL (x:HP):Prop where
 name:x.fac.length≤8
 args:x.faj.length≤2∧∀s∈x.faj,s.length≤8
 len:x.fag.length≤125
 tok:∀t∈x.fag,t.fac.length≤8
 fe:x.faa=0→x.fag=[]
 fa:x.faa≠0→x.faj=[]
theorem Eo {n k:Nat}{c:HI}(hc:c.ok):(uX n k c).1.length≤200∧(uX n k c).2.b=c.b∧(uX n k c).2.ok∧∀x∈(uX n k c).1,PL x:=by
 unfold uX
 dsimp only
 have ho:(if 0 < k then iT 5 c else(false,c)).2.b=c.b∧(if 0 < k then iT 5 c else(false,c)).2.ok:=by
  split
  ·have:=fK hc 5;exact⟨this.1,this.2.1⟩
  ·exact⟨rfl,hc⟩
 generalize(if 0 < k then iT 5 c else(false,c))=o at *
 have hG:=xk (n:=n) (k:=k) o.1
 generalize gpV n k o.1=G at *
 obtain⟨k4,b4,o4,_⟩:=bx ho.2 4
 obtain⟨k2,b2,o2,_⟩:=bx o4 2
 have k4':=k4 (by omega)
 have k2':=k2 (by omega)
 have hB:=mq hG (1+(bC 2 (bC 4 o.2).2).1)
 have hl:=hB.len (1+(bC 4 o.2).1) _ o2
 have hb:=hB.b (1+(bC 4 o.2).1) _ o2
 have hk:=hB.ok (1+(bC 4 o.2).1) _ o2
 have hx:=hB.bl (1+(bC 4 o.2).1) _ o2
 have hs:sB (1+(bC 2 (bC 4 o.2).2).1)≤21:=by
  have:(bC 2 (bC 4 o.2).2).1=0∨(bC 2 (bC 4 o.2).2).1=1:=by omega
  rcases this with e|e <;> rw[e] <;> simp[sB]
 have hl2:=Nat.mul_le_mul (show 1+(bC 4 o.2).1≤4 by omega) hs
 generalize rd G (1+(bC 2 (bC 4 o.2).2).1) (1+(bC 4 o.2).1) (bC 2 (bC 4 o.2).2).2=B at *
 obtain⟨t3,b3,o3,_⟩:=dt hG hk 3 (by omega)
 refine⟨by simp;omega,((b3.trans hb).trans b2).trans (b4.trans ho.1),o3,fun x h=>?_⟩
 have hbl:∀{x:HP},BL x→PL x:=fun h=>⟨h.name,by rw[h.args];simp,h.len,h.tok,fun e=>by have:=h.kind;omega,fun _=>h.args⟩
 simp only[List.mem_cons,List.mem_append,List.not_mem_nil,or_false]at h
 rcases h with rfl|h|rfl|rfl
 ·refine⟨?_,⟨?_,fun s hs=>?_⟩,by simp,by simp,fun _=>rfl,fun e=>absurd rfl e⟩
  ·show(nmN k).length≤8
   unfold nmN
   cases hn:nm0[k]? with
   | none=>simp
   | some v=>
    have:=List.mem_of_getElem? hn
    simp[nm0]at this
    rcases this with rfl|rfl|rfl|rfl <;> simp
  ·simp[arg0];omega
  ·have:=List.mem_of_mem_take hs
   simp[arg0]at this
   rcases this with rfl|rfl <;> simp
 ·exact hbl (hx x h)
 ·exact hbl (vB (by simp) t3)
 ·exact hbl uq
theorem wC (n:Nat):∀(r k:Nat) (c:HI),c.ok→(iI n r k c).1.length≤r * 200∧(iI n r k c).2.b=c.b∧(iI n r k c).2.ok∧∀x∈(iI n r k c).1,PL x
 | 0,_,c,hc=>⟨by simp[iI],rfl,hc,fun x hx=>by simp[iI]at hx⟩
 | r+1,k,c,hc=>by
  obtain⟨h1,h2,h3,h4⟩:=Eo (n:=n) (k:=k) hc
  obtain⟨i1,i2,i3,i4⟩:=wC n r (k+1) _ h3
  rw[iI]
  refine⟨by simp only[List.length_append];omega,i2.trans h2,i3,fun x hx=>?_⟩
  rcases List.mem_append.1 hx with hx|hx
  ·exact h4 x hx
  ·exact i4 x hx
theorem Bo {c:HI}(hc:c.ok):(jL c).1.length≤800∧(jL c).2.b=c.b∧(jL c).2.ok∧∀x∈(jL c).1,PL x:=by
 obtain⟨k1,b1,o1,_⟩:=bx hc 4
 have k1':=k1 (by omega)
 obtain⟨h1,h2,h3,h4⟩:=wC (1+(bC 4 c).1) (1+(bC 4 c).1) 0 _ o1
 have:=Nat.mul_le_mul_right 200 (show 1+(bC 4 c).1≤4 by omega)
 exact⟨by unfold jL;omega,h2.trans b1,h3,h4⟩
theorem AG {l:List HP}(h:∀x∈l,BL x):l.map dr=l.map drP:=by
 refine List.map_congr_left fun x hx=>?_
 have:=(h x hx).kind
 rw[drP,if_neg (by omega)]
theorem FP {x:HP}(h:PL x):((drP x).map DC.tr).length=x.tr.length∧∀(p:Nat) (c d:Tr),((drP x).map DC.tr)[p]?=some c→x.tr[p]?=some d→emE c d:=by
 obtain⟨k,n,a,e⟩:=x
 have key:∃u v,(drP ⟨k,n,a,e⟩).map DC.tr=[.int .i64 k,.str n,u,v]∧emE u (.lst 1 (a.map ak))∧emE v (.lst 3 (e.map HX.tr)):=by
  by_cases h0:k=0
  ·subst h0
   have he:=h.fe rfl
   dsimp only at he
   subst he
   exact⟨_,_,rfl,.inl rfl,.inr ⟨_,_,rfl,rfl⟩⟩
  ·have ha:=h.fa h0
   dsimp only at ha
   subst ha
   rw[drP,if_neg h0]
   cases e with
   | nil=>exact⟨_,_,rfl,.inr ⟨_,_,rfl,rfl⟩,.inr ⟨_,_,rfl,rfl⟩⟩
   | cons t l=>exact⟨_,_,rfl,.inr ⟨_,_,rfl,rfl⟩,.inl rfl⟩
 obtain⟨u,v,e1,e2,e3⟩:=key
 rw[e1]
 refine⟨rfl,fun p c d hc hd=>?_⟩
 match p with
 | 0=>simp[HP.tr]at hc hd;subst hc;subst hd;exact .inl rfl
 | 1=>simp[HP.tr]at hc hd;subst hc;subst hd;exact .inl rfl
 | 2=>simp[HP.tr]at hc hd;subst hc;subst hd;exact e2
 | 3=>simp[HP.tr]at hc hd;subst hc;subst hd;exact e3
 | p+4=>simp at hc
theorem BI:∀{l:List HP},(∀x∈l,PL x)→emR ((l.map drP).map fun x=>x.map DC.tr) (l.map HP.tr)
 | [],_=>trivial
 | x::l,h=>⟨FP (h x (by simp)),BI fun y hy=>h y (by simp[hy])⟩
theorem nY (c:HI)(hc:c.ok):aS Tryz.prog 145 [fF] (er c) (.r (.c (.t (.lst 4 ((jL c).1.map HP.tr))))) (er (jL c).2):=by
 obtain⟨k1,b1,o1,g1⟩:=bx hc 4
 have k1':=k1 (by omega)
 refine aw hΓ ay Tryz.func145 rfl (by decide) rfl rfl ?_
 unfold jL
 generalize(bC 4 c).2=c1 at *
 obtain⟨n,hn⟩:∃n,1+(bC 4 c).1=n:=⟨_,rfl⟩
 have hw:IntKind.i64.wrap (1+((bC 4 c).1:Int))=(n:Int):=by rw[IntWalk.i64_in _ (by omega)];omega
 rw[hn]
 obtain⟨R,c',hRR⟩:∃R c',iI n n 0 c1=(R,c'):=⟨_,_,rfl⟩
 have hPL:=(wC n n 0 _ o1).2.2.2
 rw[hRR]at hPL ⊢
 repeat' ((conv=>whnf);first|(with_reducible apply W1;fail_if_success (with_reducible show Wo _ _ _ _ (Code.seq (Code.region 5 _ _) _) _ _))|(with_reducible first|apply W2|apply W3|apply W4|apply W5|apply W6|apply W7|apply W8|apply W9)|apply ae|apply oi|(apply fi<;>intro h)|refine⟨_,rfl,?_⟩|exact rfl)
 all_goals try exact⟨KP⟩
 refine cg (g1) ?_
 repeat' ((conv=>whnf);first|(with_reducible apply W1;fail_if_success (with_reducible show Wo _ _ _ _ (Code.seq (Code.region 5 _ _) _) _ _))|(with_reducible first|apply W2|apply W3|apply W4|apply W5|apply W6|apply W7|apply W8|apply W9)|apply ae|apply oi|(apply fi<;>intro h)|refine⟨_,rfl,?_⟩|exact rfl)
 all_goals try exact⟨KP⟩
 conv=>whnf
 refine mx ⟨[(0,fF),(3,vN nm0),(4,.r (.c (.t (.lst 1 (ar0.map aa))))),(5,tI .i64 (IntKind.i64.wrap (1+((bC 4 c).1:Int)))),(6,.r (.c (.own (15,0,0))))],[((0,0,0),some (.box [.t (.lst 1 (c1.b.map aL)),.t (.int .i64 c1.i),.t (.int .i64 c1.h)])),((15,0,0),some (.arr true 4 []))],[15,13,11,10,0]⟩ ?_ ?_ rfl ?_
 ·refine⟨.inl rfl,.inr ⟨_,_,rfl,rfl,rfl,?_⟩,.inr ⟨_,_,rfl,rfl,rfl,?_⟩,.inl rfl,.inl rfl,trivial⟩
  all_goals(intro q hq;simp only[AC.ids,List.mem_cons,List.not_mem_nil,or_false]at hq;subst hq;rfl)
 ·exact⟨.inr rfl,.inr rfl,trivial⟩
 rw[hw]
 repeat' ((conv=>whnf);first|apply Wx|apply W6|apply oi|(apply fi<;>intro h)|refine⟨_,rfl,?_⟩|exact rfl)
 all_goals try exact⟨KP⟩
 conv=>whnf
 refine⟨{q:Nat×HI×List HP // q.1≤n∧q.2.1.ok∧q.2.2.length+(n - q.1) * 200≤800∧q.2.2++(iI n (n - q.1) q.1 q.2.1).1=R∧(iI n (n - q.1) q.1 q.2.1).2=c'},fun q=>⟨[(0,fF),(3,vN nm0),(4,.r (.c (.t (.lst 1 (ar0.map aa))))),(5,tI .i64 (n:Int)),(6,.r (.c (.own (15,0,0)))),(7,tI .i64 (q.1.1:Int))],[((0,0,0),some (.box [.t (.lst 1 (q.1.2.1.b.map aL)),.t (.int .i64 q.1.2.1.i),.t (.int .i64 q.1.2.1.h)])),((15,0,0),some (.dar 4 (q.1.2.2.map drP) none))],[15,0]⟩,fun q=>n - q.1.1,⟨(0,c1,[]),by dsimp only;omega,o1,by simp;omega,by dsimp only;rw[Nat.sub_zero,hRR];rfl,by dsimp only;rw[Nat.sub_zero,hRR]⟩,?_,?_⟩
 ·skip
  repeat' ((conv=>whnf);first|apply Wx|apply W6|apply oi|(apply fi<;>intro h)|refine⟨_,rfl,?_⟩|exact rfl)
  all_goals try exact⟨KP⟩
  all_goals try exact⟨rfl⟩
 intro⟨⟨k,ci,acc⟩,hi,hci,hal,hr1,hr2⟩
 dsimp only at hi hci hal hr1 hr2 ⊢
 by_cases hlt:k < n
 ·obtain⟨m,hm⟩:∃m,n - k=m+1:=⟨n - k - 1,by omega⟩
  rw[hm]at hr1 hr2 hal
  rw[iI]at hr1 hr2
  dsimp only at hr1 hr2
  obtain⟨s1,_,s3,s4⟩:=Eo (n:=n) (k:=k) hci
  generalize hF:uX n k ci=F at *
  rw[←List.append_assoc]at hr1
  have hlen:(acc++F.1).length+(n - (k+1)) * 200≤800:=by rw[List.length_append];omega
  rw[show m=n - (k+1) by omega]at hr1 hr2
  unfold uX at hF
  dsimp only at hF
  have hk4:k < 4:=by omega
  have hnm:nm0[k]?=some (nmN k):=by
   have:k=0∨k=1∨k=2∨k=3:=by omega
   rcases this with rfl|rfl|rfl|rfl <;> rfl
  have har:ar0[k]?=some (arN k:Int):=by
   have:k=0∨k=1∨k=2∨k=3:=by omega
   rcases this with rfl|rfl|rfl|rfl <;> rfl
  have har2:arN k≤2:=by
   have:k=0∨k=1∨k=2∨k=3:=by omega
   rcases this with rfl|rfl|rfl|rfl <;> decide
  have hw1:IntKind.i64.wrap ((k:Int)+1)=((k+1:Nat):Int):=by rw[IntWalk.i64_in _ (by omega)];omega
  have hnl:(nm0.map ak).length=4:=rfl
  have hal4:(ar0.map aa).length=4:=rfl
  have hfl:flat ([]++List.take (arN k) (arg0.map ak)):=by rw[List.nil_append,←List.map_take];exact jT _
  rcases Nat.eq_zero_or_pos k with hk0|hk0
  ·rw[if_neg (by omega)]at hF
   (try dsimp only at hF)
   have hG:=xk (n:=n) (k:=k) false
   obtain⟨k4,b4,o4,g4⟩:=bx hci 4
   generalize bC 4 ci=t at *
   obtain⟨k5,b5,o5,g5⟩:=bx o4 2
   generalize bC 2 t.2=u at *
   have k4':=k4 (by omega)
   have k5':=k5 (by omega)
   have g6:=xe hG (1+u.1) (1+t.1) u.2 (by omega) (by omega) o5
   have hB:=mq hG (1+u.1)
   have hl:=hB.len (1+t.1) _ o5
   have hk:=hB.ok (1+t.1) _ o5
   have hx:=AG (hB.bl (1+t.1) _ o5)
   have hs:sB (1+u.1)≤21:=by
    have:u.1=0∨u.1=1:=by omega
    rcases this with e|e <;> rw[e] <;> simp[sB]
   have hl2:=Nat.mul_le_mul (show 1+t.1≤4 by omega) hs
   generalize rd (gpV n k false) (1+u.1) (1+t.1) u.2=B at *
   obtain⟨t3,b3,o3,g3⟩:=dt hG hk 3 (by omega)
   generalize exV (gpV n k false) 3 B.2=e at *
   subst hF
   have hnames:Tr.lst 1 ((gpV n k false).names.map ak)=Tr.lst 1 (((nm0.map ak).take n).drop (k+1)):=by simp[gpV,List.map_drop,List.map_take]
   have hars:Tr.lst 1 ((gpV n k false).ars.map aa)=Tr.lst 1 (((ar0.map aa).take n).drop (k+1)):=by simp[gpV,List.map_drop,List.map_take]
   have hvars:[]++List.take (arN k) (arg0.map ak)++([[105],[122]]:List (List UInt8)).map ak=(gpV n k false).vars.map ak:=by simp[gpV,List.map_take]
   have hn1:Tr.int .i64 ((1+t.1:Nat):Int)=Tr.int .i64 (IntKind.i64.wrap (1+(t.1:Int))):=by rw[IntWalk.i64_in _ (by omega)];simp
   have hn2:Tr.int .i64 ((1+u.1:Nat):Int)=Tr.int .i64 (IntKind.i64.wrap (1+(u.1:Int))):=by rw[IntWalk.i64_in _ (by omega)];simp
   repeat' ((conv=>whnf);first|apply Wx|apply W6|apply oi|(apply fi<;>intro h)|refine⟨k,(aa (arN k)),rfl,ab har,?_⟩|refine⟨0,arN k,rfl,rfl,Nat.zero_le _,har2,?_⟩|refine⟨k+1,n,hw1,rfl,by omega,by(rw[hnl];omega),?_⟩|refine⟨k+1,n,hw1,rfl,by omega,by(rw[hal4];omega),?_⟩|refine⟨k,(ak (nmN k)),rfl,ab hnm,?_⟩|refine⟨_,rfl,?_⟩|exact rfl)
   all_goals try exact⟨KP⟩
   all_goals try exact KX
   all_goals try exact⟨har2⟩
   all_goals try exact⟨⟨by simp <;> omega,by simp <;> omega⟩⟩
   all_goals try exact⟨hfl⟩
   refine cg (g4) ?_
   repeat' ((conv=>whnf);first|apply Wx|apply W6|apply oi|(apply fi<;>intro h)|refine⟨_,rfl,?_⟩|exact rfl)
   all_goals try exact⟨KP⟩
   refine cg (g5) ?_
   repeat' ((conv=>whnf);first|apply Wx|apply W6|apply oi|(apply fi<;>intro h)|refine⟨_,rfl,?_⟩|exact rfl)
   all_goals try exact⟨KP⟩
   refine cg (g6) ?_
   repeat' ((conv=>whnf);first|apply Wx|apply W6|apply oi|(apply fi<;>intro h)|refine⟨_,rfl,?_⟩|exact rfl)
   all_goals try exact⟨KP⟩
   all_goals try exact⟨hnames⟩
   all_goals try exact⟨hars⟩
   all_goals try exact⟨hn1⟩
   all_goals try exact⟨hn2⟩
   all_goals try exact⟨hvars⟩
   all_goals try exact⟨⟨by simp <;> omega,by simp <;> omega⟩⟩
   refine cg (g3) ?_
   repeat' ((conv=>whnf);first|apply Wx|apply W6|apply oi|(apply fi<;>intro h)|refine⟨_,rfl,?_⟩|exact rfl)
   all_goals try exact⟨KP⟩
   all_goals try exact⟨aM _⟩
   all_goals try exact⟨⟨by simp <;> omega,by simp <;> omega⟩⟩
   conv=>whnf
   refine⟨⟨(k+1,_,_),by dsimp only;omega,s3,hlen,hr1,hr2⟩,?_,KD⟩
   repeat' ((conv=>whnf);first|apply Wx|apply W6|apply oi|(apply fi<;>intro h)|refine⟨_,rfl,?_⟩|exact rfl)
   all_goals try exact⟨KP⟩
   all_goals try exact⟨KW⟩
   all_goals try exact⟨by simp[drP,lm t3.1,qd,hx,List.map_take,arg0,ak]⟩
  ·rw[if_pos hk0]at hF
   obtain⟨b7,o7,g7⟩:=fK hci 5
   generalize iT 5 ci=o at *
   (try dsimp only at hF)
   cases ho:o.1 with
   | true=>
    rw[ho]at hF g7
    have hG:=xk (n:=n) (k:=k) true
    obtain⟨k4,b4,o4,g4⟩:=bx o7 4
    generalize bC 4 o.2=t at *
    obtain⟨k5,b5,o5,g5⟩:=bx o4 2
    generalize bC 2 t.2=u at *
    have k4':=k4 (by omega)
    have k5':=k5 (by omega)
    have g6:=xe hG (1+u.1) (1+t.1) u.2 (by omega) (by omega) o5
    have hB:=mq hG (1+u.1)
    have hl:=hB.len (1+t.1) _ o5
    have hk:=hB.ok (1+t.1) _ o5
    have hx:=AG (hB.bl (1+t.1) _ o5)
    have hs:sB (1+u.1)≤21:=by
     have:u.1=0∨u.1=1:=by omega
     rcases this with e|e <;> rw[e] <;> simp[sB]
    have hl2:=Nat.mul_le_mul (show 1+t.1≤4 by omega) hs
    generalize rd (gpV n k true) (1+u.1) (1+t.1) u.2=B at *
    obtain⟨t3,b3,o3,g3⟩:=dt hG hk 3 (by omega)
    generalize exV (gpV n k true) 3 B.2=e at *
    subst hF
    have hnames:Tr.lst 1 ((gpV n k true).names.map ak)=Tr.lst 1 (((nm0.map ak).take n).drop (k)):=by simp[gpV,List.map_drop,List.map_take]
    have hars:Tr.lst 1 ((gpV n k true).ars.map aa)=Tr.lst 1 (((ar0.map aa).take n).drop (k)):=by simp[gpV,List.map_drop,List.map_take]
    have hvars:[]++List.take (arN k) (arg0.map ak)++([[105],[122]]:List (List UInt8)).map ak=(gpV n k true).vars.map ak:=by simp[gpV,List.map_take]
    have hn1:Tr.int .i64 ((1+t.1:Nat):Int)=Tr.int .i64 (IntKind.i64.wrap (1+(t.1:Int))):=by rw[IntWalk.i64_in _ (by omega)];simp
    have hn2:Tr.int .i64 ((1+u.1:Nat):Int)=Tr.int .i64 (IntKind.i64.wrap (1+(u.1:Int))):=by rw[IntWalk.i64_in _ (by omega)];simp
    repeat' ((conv=>whnf);first|apply Wx|apply W6|apply oi|(apply fi<;>intro h)|refine⟨k,(aa (arN k)),rfl,ab har,?_⟩|refine⟨0,arN k,rfl,rfl,Nat.zero_le _,har2,?_⟩|refine⟨k+1,n,hw1,rfl,by omega,by(rw[hnl];omega),?_⟩|refine⟨k+1,n,hw1,rfl,by omega,by(rw[hal4];omega),?_⟩|refine⟨k,(ak (nmN k)),rfl,ab hnm,?_⟩|refine⟨_,rfl,?_⟩|exact rfl)
    all_goals try exact⟨KP⟩
    all_goals try exact KX
    all_goals try exact⟨har2⟩
    all_goals try exact⟨⟨by simp <;> omega,by simp <;> omega⟩⟩
    all_goals try exact⟨hfl⟩
    refine cg (g7) ?_
    repeat' ((conv=>whnf);first|apply Wx|apply W6|apply oi|(apply fi<;>intro h)|refine⟨k,(ak (nmN k)),rfl,ab hnm,?_⟩|refine⟨k,n,rfl,rfl,by omega,by(rw[hnl];omega),?_⟩|refine⟨k,n,rfl,rfl,by omega,by(rw[hal4];omega),?_⟩|refine⟨_,rfl,?_⟩|exact rfl)
    all_goals try exact⟨KP⟩
    all_goals try exact KX
    all_goals try exact⟨har2⟩
    all_goals try exact⟨⟨by simp <;> omega,by simp <;> omega⟩⟩
    all_goals try exact⟨hfl⟩
    refine cg (g4) ?_
    repeat' ((conv=>whnf);first|apply Wx|apply W6|apply oi|(apply fi<;>intro h)|refine⟨_,rfl,?_⟩|exact rfl)
    all_goals try exact⟨KP⟩
    refine cg (g5) ?_
    repeat' ((conv=>whnf);first|apply Wx|apply W6|apply oi|(apply fi<;>intro h)|refine⟨_,rfl,?_⟩|exact rfl)
    all_goals try exact⟨KP⟩
    refine cg (g6) ?_
    repeat' ((conv=>whnf);first|apply Wx|apply W6|apply oi|(apply fi<;>intro h)|refine⟨_,rfl,?_⟩|exact rfl)
    all_goals try exact⟨KP⟩
    all_goals try exact⟨hnames⟩
    all_goals try exact⟨hars⟩
    all_goals try exact⟨hn1⟩
    all_goals try exact⟨hn2⟩
    all_goals try exact⟨hvars⟩
    all_goals try exact⟨⟨by simp <;> omega,by simp <;> omega⟩⟩
    refine cg (g3) ?_
    repeat' ((conv=>whnf);first|apply Wx|apply W6|apply oi|(apply fi<;>intro h)|refine⟨_,rfl,?_⟩|exact rfl)
    all_goals try exact⟨KP⟩
    all_goals try exact⟨aM _⟩
    all_goals try exact⟨⟨by simp <;> omega,by simp <;> omega⟩⟩
    conv=>whnf
    refine⟨⟨(k+1,_,_),by dsimp only;omega,s3,hlen,hr1,hr2⟩,?_,KD⟩
    repeat' ((conv=>whnf);first|apply Wx|apply W6|apply oi|(apply fi<;>intro h)|refine⟨_,rfl,?_⟩|exact rfl)
    all_goals try exact⟨KP⟩
    all_goals try exact⟨KW⟩
    all_goals try exact⟨by simp[drP,lm t3.1,qd,hx,List.map_take,arg0,ak]⟩
   | false=>
    rw[ho]at hF g7
    have hG:=xk (n:=n) (k:=k) false
    obtain⟨k4,b4,o4,g4⟩:=bx o7 4
    generalize bC 4 o.2=t at *
    obtain⟨k5,b5,o5,g5⟩:=bx o4 2
    generalize bC 2 t.2=u at *
    have k4':=k4 (by omega)
    have k5':=k5 (by omega)
    have g6:=xe hG (1+u.1) (1+t.1) u.2 (by omega) (by omega) o5
    have hB:=mq hG (1+u.1)
    have hl:=hB.len (1+t.1) _ o5
    have hk:=hB.ok (1+t.1) _ o5
    have hx:=AG (hB.bl (1+t.1) _ o5)
    have hs:sB (1+u.1)≤21:=by
     have:u.1=0∨u.1=1:=by omega
     rcases this with e|e <;> rw[e] <;> simp[sB]
    have hl2:=Nat.mul_le_mul (show 1+t.1≤4 by omega) hs
    generalize rd (gpV n k false) (1+u.1) (1+t.1) u.2=B at *
    obtain⟨t3,b3,o3,g3⟩:=dt hG hk 3 (by omega)
    generalize exV (gpV n k false) 3 B.2=e at *
    subst hF
    have hnames:Tr.lst 1 ((gpV n k false).names.map ak)=Tr.lst 1 (((nm0.map ak).take n).drop (k+1)):=by simp[gpV,List.map_drop,List.map_take]
    have hars:Tr.lst 1 ((gpV n k false).ars.map aa)=Tr.lst 1 (((ar0.map aa).take n).drop (k+1)):=by simp[gpV,List.map_drop,List.map_take]
    have hvars:[]++List.take (arN k) (arg0.map ak)++([[105],[122]]:List (List UInt8)).map ak=(gpV n k false).vars.map ak:=by simp[gpV,List.map_take]
    have hn1:Tr.int .i64 ((1+t.1:Nat):Int)=Tr.int .i64 (IntKind.i64.wrap (1+(t.1:Int))):=by rw[IntWalk.i64_in _ (by omega)];simp
    have hn2:Tr.int .i64 ((1+u.1:Nat):Int)=Tr.int .i64 (IntKind.i64.wrap (1+(u.1:Int))):=by rw[IntWalk.i64_in _ (by omega)];simp
    repeat' ((conv=>whnf);first|apply Wx|apply W6|apply oi|(apply fi<;>intro h)|refine⟨k,(aa (arN k)),rfl,ab har,?_⟩|refine⟨0,arN k,rfl,rfl,Nat.zero_le _,har2,?_⟩|refine⟨k+1,n,hw1,rfl,by omega,by(rw[hnl];omega),?_⟩|refine⟨k+1,n,hw1,rfl,by omega,by(rw[hal4];omega),?_⟩|refine⟨k,(ak (nmN k)),rfl,ab hnm,?_⟩|refine⟨_,rfl,?_⟩|exact rfl)
    all_goals try exact⟨KP⟩
    all_goals try exact KX
    all_goals try exact⟨har2⟩
    all_goals try exact⟨⟨by simp <;> omega,by simp <;> omega⟩⟩
    all_goals try exact⟨hfl⟩
    refine cg (g7) ?_
    repeat' ((conv=>whnf);first|apply Wx|apply W6|apply oi|(apply fi<;>intro h)|refine⟨k,(ak (nmN k)),rfl,ab hnm,?_⟩|refine⟨_,rfl,?_⟩|exact rfl)
    all_goals try exact⟨KP⟩
    all_goals try exact KX
    all_goals try exact⟨har2⟩
    all_goals try exact⟨⟨by simp <;> omega,by simp <;> omega⟩⟩
    all_goals try exact⟨hfl⟩
    refine cg (g4) ?_
    repeat' ((conv=>whnf);first|apply Wx|apply W6|apply oi|(apply fi<;>intro h)|refine⟨_,rfl,?_⟩|exact rfl)
    all_goals try exact⟨KP⟩
    refine cg (g5) ?_
    repeat' ((conv=>whnf);first|apply Wx|apply W6|apply oi|(apply fi<;>intro h)|refine⟨_,rfl,?_⟩|exact rfl)
    all_goals try exact⟨KP⟩
    refine cg (g6) ?_
    repeat' ((conv=>whnf);first|apply Wx|apply W6|apply oi|(apply fi<;>intro h)|refine⟨_,rfl,?_⟩|exact rfl)
    all_goals try exact⟨KP⟩
    all_goals try exact⟨hnames⟩
    all_goals try exact⟨hars⟩
    all_goals try exact⟨hn1⟩
    all_goals try exact⟨hn2⟩
    all_goals try exact⟨hvars⟩
    all_goals try exact⟨⟨by simp <;> omega,by simp <;> omega⟩⟩
    refine cg (g3) ?_
    repeat' ((conv=>whnf);first|apply Wx|apply W6|apply oi|(apply fi<;>intro h)|refine⟨_,rfl,?_⟩|exact rfl)
    all_goals try exact⟨KP⟩
    all_goals try exact⟨aM _⟩
    all_goals try exact⟨⟨by simp <;> omega,by simp <;> omega⟩⟩
    conv=>whnf
    refine⟨⟨(k+1,_,_),by dsimp only;omega,s3,hlen,hr1,hr2⟩,?_,KD⟩
    repeat' ((conv=>whnf);first|apply Wx|apply W6|apply oi|(apply fi<;>intro h)|refine⟨_,rfl,?_⟩|exact rfl)
    all_goals try exact⟨KP⟩
    all_goals try exact⟨KW⟩
    all_goals try exact⟨by simp[drP,lm t3.1,qd,hx,List.map_take,arg0,ak]⟩
 ·have hkn:k=n:=by omega
  subst hkn
  rw[Nat.sub_self]at hr1 hr2
  simp only[iI,List.append_nil]at hr1 hr2
  subst hr1;subst hr2
  dsimp only at hPL
  refine mx ⟨[(0,fF),(5,tI .i64 (k:Int)),(6,.r (.c (.t (.lst 4 ((acc.map drP).map fun x=>x.map DC.tr))))),(7,tI .i64 (k:Int))],[((0,0,0),some (.box [.t (.lst 1 (ci.b.map aL)),.t (.int .i64 ci.i),.t (.int .i64 ci.h)]))],[15,0]⟩ ?_ ?_ rfl ?_
  ·refine⟨.inl rfl,.inl rfl,.inr ⟨_,_,rfl,rfl,rfl,?_⟩,.inl rfl,trivial⟩
   intro q hq;simp only[AC.ids,List.mem_cons,List.not_mem_nil,or_false]at hq;subst hq;rfl
  ·exact⟨.inr rfl,trivial⟩
  refine qH 6 rfl (BI hPL) ?_
  repeat' ((conv=>whnf);first|apply Wx|apply W6|apply oi|(apply fi<;>intro h)|refine⟨_,rfl,?_⟩|exact rfl)
  all_goals try exact⟨KP⟩
  all_goals try exact KX
theorem tv {l:List HP}(h:∀x∈l,PL x)(hl:l.length≤800):aA 1048576 (.lst 4 (l.map HP.tr)):=by
 refine il (by omega) fun x hx=>?_
 have hp:=h x hx
 have h1:aA 1048576 (.lst 1 (x.faj.map ak)):=il (by have:=hp.args.1;omega) fun s hs=>by
  have:=hp.args.2 s hs
  simp only[ak,aC,aA]
  exact⟨by omega,trivial⟩
 have h2:aA 1048576 (.lst 3 (x.fag.map HX.tr)):=il (by have:=hp.len;omega) fun t ht=>by
  have:=hp.tok t ht
  simp only[HX.tr,aC,aA]
  exact⟨trivial,trivial,by omega,trivial⟩
 have h3:=hp.name
 exact⟨trivial,by simp only[aA];omega,h1,h2,trivial⟩
def fbP:List HP:=[⟨0,[109,97,105,110],[],[]⟩,⟨2,[],[],[⟨0,1,[]⟩]⟩,⟨6,[],[],[⟨0,1,[]⟩]⟩,⟨7,[],[],[]⟩]
theorem GY:ax fbP=true:=by decide
theorem GI:∀x∈fbP,PL x:=by
 intro x hx
 simp only[fbP,List.mem_cons,List.not_mem_nil,or_false]at hx
 rcases hx with rfl|rfl|rfl|rfl
 all_goals exact⟨by simp,by simp,by simp,by simp,by simp,by simp⟩
noncomputable def iJ:Nat→HI→List HP×HI
 | 0,c=>(fbP,c)
 | r+1,c=>if ax (jL c).1=true then jL c else iJ r (jL c).2
theorem xS:∀(r:Nat) (c:HI),c.ok→ax (iJ r c).1=true∧(iJ r c).1.length≤800∧(iJ r c).2.b=c.b∧(iJ r c).2.ok∧∀x∈(iJ r c).1,PL x
 | 0,c,hc=>⟨GY,by simp[iJ,fbP],rfl,hc,GI⟩
 | r+1,c,hc=>by
  obtain⟨h1,h2,h3,h4⟩:=Bo hc
  rw[iJ]
  split
  ·rename_i h;exact⟨h,h1,h2,h3,h4⟩
  ·obtain⟨i1,i2,i3,i4,i5⟩:=xS r _ h3
   exact⟨i1,i2,i3.trans h2,i4,i5⟩
theorem Ho:emR [[.int .i64 0,.str [109,97,105,110],.lst 0 [],.lst 0 []],[.int .i64 2,.str [],.lst 0 [],.lst 3 [[.int .i64 0,.int .i64 1,.str []]]],[.int .i64 6,.str [],.lst 0 [],.lst 3 [[.int .i64 0,.int .i64 1,.str []]]],[.int .i64 7,.str [],.lst 0 [],.lst 0 []]] (fbP.map HP.tr):=by
 refine⟨⟨rfl,fun p c d hc hd=>?_⟩,⟨rfl,fun p c d hc hd=>?_⟩,⟨rfl,fun p c d hc hd=>?_⟩,⟨rfl,fun p c d hc hd=>?_⟩,trivial⟩
 all_goals(
  match p with
  | 0=>simp[HP.tr]at hc hd;subst hc;subst hd;exact .inl rfl
  | 1=>simp[HP.tr]at hc hd;subst hc;subst hd;exact .inl rfl
  | 2=>simp[HP.tr]at hc hd;subst hc;subst hd;exact .inr ⟨_,_,rfl,rfl⟩
  | 3=>simp[HP.tr,HX.tr]at hc hd;subst hc;subst hd;first|exact .inl rfl|exact .inr ⟨_,_,rfl,rfl⟩
  | p+4=>simp at hc)
theorem oo (c:HI)(hc:c.ok):aS Tryz.prog 70 [fF] (er c) (.r (.c (.t (.lst 4 ((iJ 5 c).1.map HP.tr))))) (er (iJ 5 c).2):=by
 refine aw hΓ ay Tryz.func70 rfl (by decide) rfl rfl ?_
 generalize hR:iJ 5 c=R at *
 repeat' ((conv=>whnf);first|apply Wx|apply W6|apply oi|(apply fi<;>intro h)|refine⟨_,rfl,?_⟩|exact rfl)
 all_goals try exact⟨KP⟩
 conv=>whnf
 refine⟨{q:Nat×HI // q.1≤5∧q.2.ok∧iJ (5 - q.1) q.2=R},fun q=>⟨[(0,fF),(3,tI .i64 (q.1.1:Int))],[((0,0,0),some (.box [.t (.lst 1 (q.1.2.b.map aL)),.t (.int .i64 q.1.2.i),.t (.int .i64 q.1.2.h)]))],[0]⟩,fun q=>5 - q.1.1,⟨(0,c),by dsimp only;omega,hc,hR⟩,?_,?_⟩
 ·skip
  repeat' ((conv=>whnf);first|apply Wx|apply W6|apply oi|(apply fi<;>intro h)|refine⟨_,rfl,?_⟩|exact rfl)
  all_goals try exact⟨KP⟩
 intro⟨⟨k,ci⟩,hi,hci,hr⟩
 dsimp only at hi hci hr ⊢
 by_cases hlt:k < 5
 ·obtain⟨m,hm⟩:∃m,5 - k=m+1:=⟨5 - k - 1,by omega⟩
  rw[hm,iJ]at hr
  have gP:=nY ci hci
  obtain⟨h1,h2,h3,h4⟩:=Bo hci
  have hO:=cX (jL ci).1 (tv h4 h1)
  generalize jL ci=Q at *
  cases hq:ax Q.1 with
  | true=>
   rw[if_pos hq]at hr
   subst hr
   rw[hq]at hO
   repeat' ((conv=>whnf);first|apply Wx|apply W6|apply oi|(apply fi<;>intro h)|refine⟨_,rfl,?_⟩|exact rfl)
   all_goals try exact⟨KP⟩
   refine cg (gP) ?_
   repeat' ((conv=>whnf);first|apply Wx|apply W6|apply oi|(apply fi<;>intro h)|refine cl hO ?_|refine⟨_,rfl,?_⟩|exact rfl)
   all_goals try exact⟨KP⟩
   all_goals try exact KX
  | false=>
   rw[if_neg (by simp[hq])]at hr
   rw[hq]at hO
   repeat' ((conv=>whnf);first|apply Wx|apply W6|apply oi|(apply fi<;>intro h)|refine⟨_,rfl,?_⟩|exact rfl)
   all_goals try exact⟨KP⟩
   refine cg (gP) ?_
   repeat' ((conv=>whnf);first|apply Wx|apply W6|apply oi|(apply fi<;>intro h)|refine cl hO ?_|refine⟨_,rfl,?_⟩|exact rfl)
   all_goals try exact⟨KP⟩
   all_goals try exact KX
   conv=>whnf
   refine⟨⟨(k+1,Q.2),by dsimp only;omega,h3,by dsimp only;rw[show 5 - (k+1)=m by omega];exact hr⟩,?_,KD⟩
   repeat' ((conv=>whnf);first|apply Wx|apply W6|apply oi|(apply fi<;>intro h)|refine⟨_,rfl,?_⟩|exact rfl)
   all_goals try exact⟨KP⟩
   all_goals try exact⟨KW⟩
 ·have hk:k=5:=by omega
  subst hk
  rw[show(5:Nat) - 5=0 from rfl,iJ]at hr
  subst hr
  repeat' ((conv=>whnf);first|(with_reducible apply W1;fail_if_success (with_reducible show Wo _ _ _ _ (Code.region 8 _ _) _ _))|(with_reducible first|apply W2|apply W3|apply W4|apply W5|apply W6|apply W7|apply W8|apply W9)|apply ae|apply oi|(apply fi<;>intro h)|refine⟨_,rfl,?_⟩|exact rfl)
  all_goals try exact⟨KP⟩
  all_goals try exact KX
  conv=>whnf
  refine mx ⟨[(5,.r (.c (.t (.lst 3 [[.int .i64 0,.int .i64 1,.str []]]))))],[((0,0,0),some (.box [.t (.lst 1 (ci.b.map aL)),.t (.int .i64 ci.i),.t (.int .i64 ci.h)]))],[16,0]⟩ ?_ ?_ rfl ?_
  ·refine⟨.inr ⟨_,_,rfl,rfl,rfl,?_⟩,trivial⟩
   intro q hq;simp only[AC.ids,List.mem_cons,List.not_mem_nil,or_false]at hq;subst hq;rfl
  ·exact⟨.inr rfl,trivial⟩
  repeat' ((conv=>whnf);first|(with_reducible first|apply W1|apply W2)|apply ae|refine oi ?_ ?_|refine⟨_,rfl,?_⟩|exact rfl)
  all_goals try exact⟨KP⟩
  conv=>whnf
  refine mx ⟨[(2,.r (.c (.t (.lst 4 [[.int .i64 0,.str [109,97,105,110],.lst 0 [],.lst 0 []],[.int .i64 2,.str [],.lst 0 [],.lst 3 [[.int .i64 0,.int .i64 1,.str []]]],[.int .i64 6,.str [],.lst 0 [],.lst 3 [[.int .i64 0,.int .i64 1,.str []]]],[.int .i64 7,.str [],.lst 0 [],.lst 0 []]]))))],[((0,0,0),some (.box [.t (.lst 1 (ci.b.map aL)),.t (.int .i64 ci.i),.t (.int .i64 ci.h)]))],[23,16,0]⟩ ?_ ?_ rfl ?_
  ·refine⟨.inr ⟨_,_,rfl,rfl,rfl,?_⟩,trivial⟩
   intro q hq;simp only[AC.ids,List.mem_cons,List.not_mem_nil,or_false]at hq;subst hq;rfl
  ·exact⟨.inr rfl,trivial⟩
  refine qH 2 rfl Ho ?_
  repeat' ((conv=>whnf);first|apply Wx|apply W6|apply oi|(apply fi<;>intro h)|refine⟨_,rfl,?_⟩|exact rfl)
  all_goals try exact⟨KP⟩
abbrev Ht (code:List UInt8):AV:= .r (.c (.t (.lst 1 (code.map aL))))
theorem FO {code:List UInt8}(hl:code.length≤1048576):(⟨code,0,EI code⟩:HI).ok:=⟨by simp,hl⟩
theorem Cu {rows:List (List Tr)}(h:∀r∈rows,∃n,r=[.int .u8 n]∧(Lit.int .u8 n).wf=true):∃bs:List UInt8,rows=bs.map aL:=by
 obtain⟨bs,hb,_⟩:=zH (g:=aL) (Q:=fun _=>True) (rows:=rows) fun r hr=>by
  obtain⟨n,rfl,hw⟩:=h r hr
  have h1:IntKind.u8.min≤n∧n≤IntKind.u8.max:=by simpa [Lit.wf]using hw
  have h2:0≤n∧n≤255:=h1
  refine⟨UInt8.ofNat n.toNat,?_,trivial⟩
  rw[aL,show(UInt8.ofNat n.toNat).toNat=n.toNat by simp;omega,Int.toNat_of_nonneg h2.1]
 exact⟨bs,hb⟩
def cJ (c:HI):HI:=⟨c.b,if c.i < c.b.length then c.i+1 else c.i,go c.h⟩
def gG (c:HI):Nat:=match c.b[c.i]? with
 | some u=>(byN (go c.h)+u.toNat) % 256
 | none=>byN (go c.h)
theorem iy {c:HI}(h:c.ok):(cJ c).ok:=⟨by have:=h.1;unfold cJ;dsimp only;split <;> omega,h.2⟩
theorem sc (c:HI):gG c < 256:=by
 unfold gG
 split
 ·omega
 ·exact Dk _
theorem Em (n:Nat):IntKind.i64.wrap ((BitVec.ofInt IntKind.i64.bits (IntKind.i64.wrap (n:Int)) &&& BitVec.ofInt IntKind.i64.bits 255).toNat:Int)=((n % 256:Nat):Int):=by
 show IntKind.i64.wrap (((BitVec.ofInt 64 (IntKind.i64.wrap (n:Int)) &&& BitVec.ofInt 64 255).toNat:Nat):Int)=_
 rw[Dx]
 have hw:IntKind.i64.wrap (n:Int) % 256=(n:Int) % 256:=by
  unfold IntKind.wrap
  simp[IntKind.bits,IntKind.signed]
  split <;> omega
 rw[hw,IntWalk.i64_in _ (by omega)]
 omega
theorem eU (c:HI)(hc:c.ok):aS Tryz.prog 203 [fF] (er c) (tI .i64 (gG c)) (er (cJ c)):=by
 obtain⟨hi,hl⟩:=hc
 have hbl:(c.b.map aL).length=c.b.length:=by simp
 have he0:=GJ (go c.h)
 have hlt8:=Dk (go c.h)
 unfold gG cJ
 generalize hx:byN (go c.h)=x0 at *
 unfold byW go at he0
 unfold go
 by_cases hlt:c.i < c.b.length
 ·obtain⟨u,hu⟩:=ag hlt
  have hu8:=u.toNat_lt
  have he:=Em (x0+u.toNat)
  rw[hu,if_pos hlt]
  dsimp only
  refine aw hΓ ay Tryz.func203 rfl (by decide) rfl rfl ?_
  repeat' ((conv=>whnf);first|apply Wx|apply W6|apply oi|(apply fi<;>intro h)|refine⟨c.i,(aL u),rfl,ab hu,?_⟩|refine⟨_,rfl,?_⟩|exact rfl)
  all_goals try exact⟨KP⟩
  all_goals try exact KX
  all_goals try exact⟨congrArg (Tr.int _) (by rw[he0,IntWalk.i64_in (u.toNat:Int) (by omega)];exact he)⟩
  all_goals exact⟨by rw[IntWalk.i64_in _ (by omega)];rfl⟩
 ·rw[List.getElem?_eq_none (by omega),if_neg hlt]
  dsimp only
  refine aw hΓ ay Tryz.func203 rfl (by decide) rfl rfl ?_
  repeat' ((conv=>whnf);first|apply Wx|apply W6|apply oi|(apply fi<;>intro h)|refine⟨_,rfl,?_⟩|exact rfl)
  all_goals try exact⟨KP⟩
  all_goals try exact KX
  all_goals try exact⟨congrArg (Tr.int _) he0⟩
  all_goals exact⟨rfl⟩
theorem vb (c:HI)(n:Nat)(hc:c.ok)(h0:0 < n)(h1:n≤256):aS Tryz.prog 146 [fF,tI .i64 (n:Int)] (er c) (tI .i64 ((gG c % n:Nat):Int)) (er (cJ c)):=by
 have g1:=eU c hc
 have hm:((gG c:Nat):Int).tmod (n:Int)=((gG c % n:Nat):Int):=by rw[Int.tmod_eq_emod_of_nonneg (by omega)];rfl
 refine aw hΓ ay Tryz.func146 rfl (by decide) rfl rfl ?_
 repeat' ((conv=>whnf);first|apply Wx|apply W6|refine cg g1 ?_|apply oi|(apply fi<;>intro h)|refine⟨_,rfl,?_⟩|exact rfl)
 all_goals try exact⟨KP⟩
 all_goals try exact KX
 all_goals try exact⟨by omega⟩
 all_goals exact⟨congrArg (Tr.int _) hm⟩
theorem mC (c:HI)(n:Int)(hc:c.ok)(h:256 < n):∃y:Nat,(y:Int) < n∧aS Tryz.prog 146 [fF,tI .i64 n] (er c) (tI .i64 (y:Int)) (er (cJ (cJ (cJ (cJ c))))):=by
 have g1:=eU c hc
 have g2:=eU _ (iy hc)
 have g3:=eU _ (iy (iy hc))
 have g4:=eU _ (iy (iy (iy hc)))
 have k1:=sc c
 have k2:=sc (cJ c)
 have k3:=sc (cJ (cJ c))
 have k4:=sc (cJ (cJ (cJ c)))
 generalize gG c=x1 at *
 generalize gG (cJ c)=x2 at *
 generalize gG (cJ (cJ c))=x3 at *
 generalize gG (cJ (cJ (cJ c)))=x4 at *
 obtain⟨y,hy,hm⟩:=na (x:=x1 * 16777216+x2 * 65536+x3 * 256+x4) (n:=n) (by omega)
 refine⟨y,hy,?_⟩
 refine aw hΓ ay Tryz.func146 rfl (by decide) rfl rfl ?_
 repeat' ((conv=>whnf);first|apply Wx|apply W6|apply oi|(apply fi<;>intro h)|refine⟨_,rfl,?_⟩|exact rfl)
 all_goals try exact⟨KP⟩
 all_goals try exact KX
 refine cg (g1) ?_
 repeat' ((conv=>whnf);first|apply Wx|apply W6|apply oi|(apply fi<;>intro h)|refine⟨_,rfl,?_⟩|exact rfl)
 all_goals try exact⟨KP⟩
 refine cg (g2) ?_
 repeat' ((conv=>whnf);first|apply Wx|apply W6|apply oi|(apply fi<;>intro h)|refine⟨_,rfl,?_⟩|exact rfl)
 all_goals try exact⟨KP⟩
 refine cg (g3) ?_
 repeat' ((conv=>whnf);first|apply Wx|apply W6|apply oi|(apply fi<;>intro h)|refine⟨_,rfl,?_⟩|exact rfl)
 all_goals try exact⟨KP⟩
 refine cg (g4) ?_
 repeat' ((conv=>whnf);first|apply Wx|apply W6|apply oi|(apply fi<;>intro h)|refine⟨_,rfl,?_⟩|exact rfl)
 all_goals try exact⟨KP⟩
 all_goals try exact⟨by omega⟩
 all_goals(
  have hw:IntKind.i64.wrap (IntKind.i64.wrap (IntKind.i64.wrap (IntKind.i64.wrap ((x1:Int) * 16777216)+IntKind.i64.wrap ((x2:Int) * 65536))+IntKind.i64.wrap ((x3:Int) * 256))+(x4:Int))=((x1 * 16777216+x2 * 65536+x3 * 256+x4:Nat):Int):=by
   rw[IntWalk.i64_in ((x1:Int) * 16777216) (by omega),IntWalk.i64_in ((x2:Int) * 65536) (by omega),IntWalk.i64_in ((x3:Int) * 256) (by omega),IntWalk.i64_in ((x1:Int) * 16777216+(x2:Int) * 65536) (by omega),IntWalk.i64_in ((x1:Int) * 16777216+(x2:Int) * 65536+(x3:Int) * 256) (by omega),IntWalk.i64_in _ (by omega)]
   omega
  exact⟨by rw[hw,hm]⟩)
theorem pi (c:HI)(ns:List Int)(hc:c.ok)(hp:0 < ns.length)(hl:ns.length≤256):aS Tryz.prog 147 [fF,.r (.c (.own (0,0,1)))] (er c++[((0,0,1),.arr false 1 (ns.map aa))]) (tI .i64 (ns[gG c % ns.length]?.getD 0)) (er (cJ c)++[((0,0,1),.arr false 1 (ns.map aa))]):=by
 have hlen:(ns.map aa).length=ns.length:=by simp
 have g1:=vb c (ns.map aa).length hc (by omega) (by omega)
 rw[hlen]at g1
 have hx:gG c % ns.length < ns.length:=Nat.mod_lt _ hp
 obtain⟨v,hv⟩:=ag hx
 have hxl:gG c % ns.length < (ns.map aa).length:=by rw[hlen];exact hx
 rw[hv]
 refine aw hΓ ay Tryz.func147 rfl (by decide) rfl rfl ?_
 rw[←hlen]at g1
 repeat' ((conv=>whnf);first|apply Wx|apply W6|refine cg g1 ?_|apply oi|(apply fi<;>intro h)|refine⟨(gG c % ns.length),(by rw[hlen]),hxl,?_⟩|refine⟨(aa v),ab hv,?_⟩|refine⟨_,rfl,?_⟩|exact rfl)
 all_goals try exact⟨KP⟩
def itC:Nat→HI→HI
 | 0,c=>c
 | n+1,c=>itC n (cJ c)
theorem rW:∀(n m:Nat) (c:HI),itC (n+m) c=itC m (itC n c)
 | 0,m,c=>by rw[Nat.zero_add,itC]
 | n+1,m,c=>by rw[show n+1+m=(n+m)+1 by omega,itC,itC,rW n m]
theorem uF:∀(n:Nat) {c:HI},c.ok→(itC n c).ok
 | 0,_,h=>h
 | n+1,c,h=>by rw[itC];exact uF n (iy h)
theorem Gn:∀(n:Nat) (c:HI),(itC n c).b=c.b
 | 0,_=>rfl
 | n+1,c=>by rw[itC,Gn n];rfl
theorem Gl:∀(n:Nat) (c:HI),(itC n c).h=itH n c.h
 | 0,_=>rfl
 | n+1,c=>by rw[itC,Gl n,itH];rfl
theorem Gj:∀(n:Nat) (c:HI),c.i≤c.b.length→(itC n c).i=min (c.i+n) c.b.length
 | 0,c,h=>by rw[itC];omega
 | n+1,c,h=>by
  have h2:(cJ c).i≤(cJ c).b.length:=by unfold cJ;dsimp only;split <;> omega
  rw[itC,Gj n _ h2]
  unfold cJ
  dsimp only
  split <;> omega
def qr (c:HI):Prop:=gG (itC 5 c) % 3=2
theorem AA (c:HI)(h:c.ok):∃k,qr (itC (6 * k) c):=by
 obtain⟨k,hk,h2⟩:=Df c.h (c.b.length+1)
 obtain⟨j,rfl⟩:∃j,k=j+1:=⟨k - 1,by omega⟩
 refine⟨j,?_⟩
 unfold qr
 rw[←rW]
 have hi:=Gj (6 * j+5) c h.1
 have hb:=Gn (6 * j+5) c
 unfold gG
 rw[hb,List.getElem?_eq_none (by rw[hi];omega),Gl]
 dsimp only
 have e:go (itH (6 * j+5) c.h)=itH (6 * (j+1)) c.h:=(ke (6 * j+5) 1 c.h).symm
 rw[e]
 exact h2
structure SpOk (p:List HP) (b:HH) (first second:Int):Prop where
 small:aA 1048576 (.lst 4 (p.map HP.tr))
 prog:ax p=true
 build:aV b=true
 fb:1≤first∧first≤9000
 sb:20000≤second∧second≤1000000
 space:bp (dv p b first second)=true
noncomputable abbrev spH (p:List HP) (b:HH) (first second:Int):List (Sim.Id×AO):=[((1,0,0),.arr true 2 [(aj p b 0).tr,(aj p b 1).tr]),((1,0,1),.arr true 1 [aa first,aa second]),((1,0,2),.arr true 1 ((entries p b first second).map aa))]
noncomputable def yC (c:HI):Nat:=open Classical in if h:c.ok then Classical.choose (mC c 9000 h (by omega))else 0
theorem BO {c:HI}(h:c.ok):(yC c:Int) < 9000∧aS Tryz.prog 146 [fF,tI .i64 9000] (er c) (tI .i64 (yC c:Int)) (er (itC 4 c)):=by
 rw[yC,dif_pos h]
 exact Classical.choose_spec (mC c 9000 h (by omega))
noncomputable abbrev fL (c:HI):List Int:=[1,100,5000,1+(yC c:Int)]
abbrev sL:List Int:=[20000,60000,1000000]
noncomputable def gz (c:HI):Int:=(fL c)[gG (itC 4 c) % (fL c).length]?.getD 0
def dC (c:HI):Int:=sL[gG (itC 5 c) % sL.length]?.getD 0
theorem mo {c:HI}(h:c.ok):1≤gz c∧gz c≤9000:=by
 have hy:=(BO h).1
 unfold gz
 have:gG (itC 4 c) % (fL c).length < 4:=Nat.mod_lt _ (by simp)
 generalize gG (itC 4 c) % (fL c).length=k at *
 rcases(show k=0∨k=1∨k=2∨k=3 by omega)with rfl|rfl|rfl|rfl
 all_goals(simp;try omega)
theorem uo (c:HI):20000≤dC c∧dC c≤1000000:=by
 unfold dC
 have:gG (itC 5 c) % sL.length < 3:=Nat.mod_lt _ (by decide)
 generalize gG (itC 5 c) % sL.length=k at *
 rcases(show k=0∨k=1∨k=2 by omega)with rfl|rfl|rfl
 all_goals simp
theorem pf {c:HI}(h:qr c):dC c=1000000:=by
 unfold dC qr at *
 rw[show sL.length=3 from rfl,h]
 rfl
noncomputable def jN (p:List HP) (b:HH):Nat→HI→Int×Int×HI
 | 0,c=>(gz c,dC c,itC 6 c)
 | n+1,c=>if(fI p b (gz c) (dC c)).isSome=true then(gz c,dC c,itC 6 c)else jN p b n (itC 6 c)
theorem yG {p:List HP}{b:HH}(hs:aA 1048576 (.lst 4 (p.map HP.tr)))(h1:ax p=true)(h2:aV b=true):∀(n:Nat) (c:HI),c.ok→qr (itC (6 * n) c)→(1≤(jN p b n c).1∧(jN p b n c).1≤9000)∧(20000≤(jN p b n c).2.1∧(jN p b n c).2.1≤1000000)∧(fI p b (jN p b n c).1 (jN p b n c).2.1).isSome=true
 | 0,c,hc,hg=>by
  refine⟨mo hc,uo c,?_⟩
  rw[jN]
  dsimp only
  rw[pf (show qr c from hg),tV hs h1 h2 (mo hc) (by omega)]
  rfl
 | n+1,c,hc,hg=>by
  rw[jN]
  split
  ·exact⟨mo hc,uo c,by assumption⟩
  ·refine yG hs h1 h2 n _ (uF 6 hc) ?_
   rw[←rW,show 6+6 * n=6 * (n+1) by omega]
   exact hg
theorem zS {p:List HP}{b:HH}{first second:Int}(h:(fI p b first second).isSome=true):ax p=true∧aV b=true∧bp (dv p b first second)=true∧fI p b first second=some (dv p b first second):=by
 unfold fI at *
 split at h
 ·rename_i hc;exact⟨hc.1,hc.2.1,hc.2.2,by rw[if_pos hc]⟩
 ·cases h
theorem rr (c:HI)(hc:c.ok):∃(p:List HP) (b:HH) (first second:Int) (c':HI),SpOk p b first second∧aS Tryz.prog 90 [fF] (er c) (.tup [.c (.t (.lst 4 (p.map HP.tr))),.agg (b.tr.map .t),.agg [.own (1,0,0),.own (1,0,1),.own (1,0,2)]]) (er c'++spH p b first second):=by
 have g1:=oo c hc
 obtain⟨q1,q2,q3,q4,q5⟩:=xS 5 c hc
 generalize iJ 5 c=R0 at *
 obtain⟨p,c1⟩:=R0
 dsimp only at *
 obtain⟨b,c2,hb,_,o2,g2⟩:=rx c1 q4
 have hs:=tv q5 q2
 obtain⟨K,hK⟩:=AA c2 o2
 obtain⟨r1,r2,r3⟩:=yG hs q1 hb K c2 o2 hK
 obtain⟨_,_,s3,s4⟩:=zS r3
 obtain⟨R,hR⟩:∃R,jN p b K c2=R:=⟨_,rfl⟩
 rw[hR]at r1 r2 r3 s3 s4
 refine⟨p,b,R.1,R.2.1,R.2.2,⟨hs,q1,hb,r1,r2,s3⟩,?_⟩
 refine aw hΓ ay Tryz.func90 rfl (by decide) rfl rfl ?_
 repeat' ((conv=>whnf);first|apply Wx|apply W6|apply oi|(apply fi<;>intro h)|refine⟨_,rfl,?_⟩|exact rfl)
 all_goals try exact⟨KP⟩
 refine cg (g1) ?_
 repeat' ((conv=>whnf);first|apply Wx|apply W6|apply oi|(apply fi<;>intro h)|refine⟨_,rfl,?_⟩|exact rfl)
 all_goals try exact⟨KP⟩
 refine cg (g2) ?_
 repeat' ((conv=>whnf);first|apply Wx|apply W6|apply oi|(apply fi<;>intro h)|refine⟨_,rfl,?_⟩|exact rfl)
 all_goals try exact⟨KP⟩
 conv=>whnf
 refine⟨{q:Nat×HI // q.2.ok∧qr (itC (6 * q.1) q.2)∧jN p b q.1 q.2=R},fun q=>⟨[(0,fF),(3,.r (.c (.ptr (3,0,0) 0))),(4,.r (.c (.ptr (4,0,0) 0))),(5,vP p),(6,.r (.c (.ptr (6,0,0) 0)))],[((0,0,0),some (.box [.t (.lst 1 (q.1.2.b.map aL)),.t (.int .i64 q.1.2.i),.t (.int .i64 q.1.2.h)])),((3,0,0),some (.box [.t (.int .i64 0),.t (.int .i64 0),.t (.bool false),.t (.bool false)])),((4,0,0),some (.box [.nils 0,.nils 0,.nils 0])),((6,0,0),some (.box (b.tr.map .t)))],[6,4,3,0]⟩,fun q=>q.1.1,⟨(K,c2),o2,hK,hR⟩,?_,?_⟩
 ·skip
  repeat' ((conv=>whnf);first|apply Wx|apply W6|apply oi|(apply fi<;>intro h)|refine⟨_,rfl,?_⟩|exact rfl)
  all_goals try exact⟨KP⟩
 intro⟨⟨n,ci⟩,hci,hg,hr⟩
 dsimp only at hci hg hr ⊢
 obtain⟨hy,gy⟩:=BO hci
 have gf:=pi (itC 4 ci) (fL ci) (uF 4 hci) (by simp) (by simp)
 have gs:=pi (itC 5 ci) sL (uF 5 hci) (by decide) (by decide)
 have hL:=qq p b (gz ci) (dC ci) hs
 rw[show(fL ci)[gG (itC 4 ci) % (fL ci).length]?.getD 0=gz ci from rfl]at gf
 rw[show sL[gG (itC 5 ci) % sL.length]?.getD 0=dC ci from rfl]at gs
 have n4:cJ (itC 4 ci)=itC 5 ci:=rfl
 have n5:cJ (itC 5 ci)=itC 6 ci:=rfl
 rw[n4]at gf
 rw[n5]at gs
 have hw1:IntKind.i64.wrap (1+(yC ci:Int))=1+(yC ci:Int):=IntWalk.i64_in _ (by omega)
 cases hl:fI p b (gz ci) (dC ci)with
 | some sp=>
  have hl2:(fI p b (gz ci) (dC ci)).isSome=true:=by rw[hl];rfl
  have hRe:R=(gz ci,dC ci,itC 6 ci):=by
   rw[←hr]
   cases n with
   | zero=>rfl
   | succ n=>rw[jN,if_pos hl2]
  subst hRe
  dsimp only at s4 ⊢
  rw[hl]at hL s4
  injection s4 with s4
  subst s4
  simp only[oSp,dv]at hL
  repeat' ((conv=>whnf);first|apply Wx|apply W6|apply oi|(apply fi<;>intro h)|refine⟨_,rfl,?_⟩|exact rfl)
  all_goals try exact⟨KP⟩
  refine cg (gy) ?_
  repeat' ((conv=>whnf);first|apply Wx|apply W6|apply oi|(apply fi<;>intro h)|refine⟨_,rfl,?_⟩|exact rfl)
  all_goals try exact⟨KP⟩
  refine cg (gf) ?_
  repeat' ((conv=>whnf);first|apply Wx|apply W6|apply oi|(apply fi<;>intro h)|refine⟨_,rfl,?_⟩|exact rfl)
  all_goals try exact⟨KP⟩
  all_goals try exact⟨by rw[hw1];rfl⟩
  refine cg (gs) ?_
  repeat' ((conv=>whnf);first|apply Wx|apply W6|apply oi|(apply fi<;>intro h)|refine cl hL ?_|refine⟨_,rfl,?_⟩|exact rfl)
  all_goals try exact⟨KP⟩
 | none=>
  have hl2:¬(fI p b (gz ci) (dC ci)).isSome=true:=by rw[hl];simp
  cases n with
  | zero=>
   rw[pf (show qr ci from hg),tV hs q1 hb (mo hci) (by omega)]at hl
   cases hl
  | succ n=>
   rw[jN,if_neg hl2]at hr
   rw[hl]at hL
   repeat' ((conv=>whnf);first|apply Wx|apply W6|apply oi|(apply fi<;>intro h)|refine⟨_,rfl,?_⟩|exact rfl)
   all_goals try exact⟨KP⟩
   refine cg (gy) ?_
   repeat' ((conv=>whnf);first|apply Wx|apply W6|apply oi|(apply fi<;>intro h)|refine⟨_,rfl,?_⟩|exact rfl)
   all_goals try exact⟨KP⟩
   refine cg (gf) ?_
   repeat' ((conv=>whnf);first|apply Wx|apply W6|apply oi|(apply fi<;>intro h)|refine⟨_,rfl,?_⟩|exact rfl)
   all_goals try exact⟨KP⟩
   all_goals try exact⟨by rw[hw1];rfl⟩
   refine cg (gs) ?_
   repeat' ((conv=>whnf);first|apply Wx|apply W6|apply oi|(apply fi<;>intro h)|refine cl hL ?_|refine⟨_,rfl,?_⟩|exact rfl)
   all_goals try exact⟨KP⟩
   all_goals try exact KX
   conv=>whnf
   refine⟨⟨(n,itC 6 ci),uF 6 hci,by dsimp only;rw[←rW,show 6+6 * n=6 * (n+1) by omega];exact hg,hr⟩,?_,KD⟩
   repeat' ((conv=>whnf);first|apply Wx|apply W6|apply oi|(apply fi<;>intro h)|refine⟨_,rfl,?_⟩|exact rfl)
   all_goals try exact⟨KP⟩
theorem pt (code:List UInt8)(hl:code.length≤1048576):∃(p:List HP) (b:HH) (first second:Int),SpOk p b first second∧
  aS Tryz.prog 21 [Ht code] [] (.tup [.c (.t (.lst 4 (p.map HP.tr))),.agg (b.tr.map .t),.agg [.own (1,0,0),.own (1,0,1),.own (1,0,2)]]) (spH p b first second):=by
 have g0:=uZ code hl
 obtain⟨p,b,first,second,c',hok,g1⟩:=rr _ (FO hl)
 refine⟨p,b,first,second,hok,?_⟩
 refine aw hΓ ay Tryz.func21 rfl (by decide) rfl rfl ?_
 repeat' ((conv=>whnf);first|apply Wx|apply W6|apply oi|(apply fi<;>intro h)|refine⟨_,rfl,?_⟩|exact rfl)
 all_goals try exact⟨KP⟩
 refine cg (g0) ?_
 repeat' ((conv=>whnf);first|apply Wx|apply W6|apply oi|(apply fi<;>intro h)|refine⟨_,rfl,?_⟩|exact rfl)
 all_goals try exact⟨KP⟩
 refine cg (g1) ?_
 repeat' ((conv=>whnf);first|apply Wx|apply W6|apply oi|(apply fi<;>intro h)|refine⟨_,rfl,?_⟩|exact rfl)
 all_goals try exact⟨KP⟩
structure StartAt (p:List HP) (b:HH) (f i:Nat) (x:Nat×List HS):Prop where
 at_:(imL p b (cf b f))[i]?=some x
 fn:x.1=f
 start:bT p b f=((aq (aD ((imL p b (cf b f)).take i))).length:Int)
theorem sk {p:List HP}{b:HH}{f:Nat}(hf:f < (aF p).length):∃i x,StartAt p b f i x:=by
 have hi:=iC b f
 obtain⟨s,hs⟩:=km (f:=f) (a:=0) ((imgL_mem (p:=p) (b:=b) (image:=cf b f) (n:=(aF p).length) (f:=0) (at0:=0) (g:=f)).2 ⟨by omega,by omega,(pV hi).2 rfl⟩)
 obtain⟨i,x,h1,h2,h3⟩:=uh hs
 refine⟨i,x,h1,h2,?_⟩
 rw[bT,show imL p b (cf b f)=cv p b (cf b f) (aF p).length 0 0 from rfl,hs]
 show s=_
 omega
theorem vE {L:List (Nat×List HS)}{i:Nat}{x:Nat×List HS}(h:L[i]?=some x):aD L=aD (L.take i)++(x.2++aD (L.drop (i+1))):=by
 have e:L=L.take i++x::L.drop (i+1):=by rw[←cO h,List.take_append_drop]
 conv=>lhs;rw[e]
 simp[aD]
section
variable {p:List HP} {b:HH}
theorem AZ (hs:aA 1048576 (.lst 4 (p.map HP.tr)))(h1:ax p=true)(h2:aV b=true){f i:Nat}{x:Nat×List HS}(h:StartAt p b f i x):
  0 < (aq x.2).length∧∃(o:HR) (z:Nat),aU (aj p b (cf b f)).fab (bT p b f)=some (o,z)∧(o.fab=13∨o.fab=15):=by
 have h3:ah (cf b f) 0 1=true:=by have:=iC b f;rw[within_iff];omega
 obtain⟨g1,g2,g3⟩:=h
 obtain⟨y,hy⟩:=ag (mz hs h1 h2 (by omega) g1).2.2
 have hp:=(kJ hs h1 h2 g1 hy).1
 have hsz:=Ak hp.op
 have hel:=fg hp.op
 have hpos:0 < (aq x.2).length:=by
  obtain⟨c,l⟩:=x
  cases l with
  | nil=>simp at hy
  | cons a l=>
   simp only[List.getElem?_cons_zero,Option.some.injEq]at hy
   subst hy
   rw[show aq (a::l)=aX a.fal.fad++aq l by simp[aq],List.length_append]
   omega
 refine⟨hpos,y.fal.fad,(aK y.fal.fad.fab).toNat,?_,(hp.head rfl).1⟩
 have hopAll:∀z∈x.2,cU z.fal.fad.fab z.fal.fad.faf=true:=fun z hz=>by
  obtain⟨j,hj⟩:=List.mem_iff_getElem?.1 hz
  exact(kJ hs h1 h2 g1 hj).1.op
 have hd:=yx hopAll hy (aq (aD ((imL p b (cf b f)).take i))) (aq (aD ((imL p b (cf b f)).drop (i+1))))
 rw[aj,if_pos ⟨h1,h2,h3⟩,g3]
 dsimp only
 have e:=vE g1
 rw[show imL p b (cf b f)=cv p b (cf b f) (aF p).length 0 0 from rfl]at *
 rw[e,aO,aO,←List.append_assoc]
 simpa [aq]using hd
theorem At (hs:aA 1048576 (.lst 4 (p.map HP.tr)))(h1:ax p=true)(h2:aV b=true){f:Nat}(hf:f < (aF p).length):0≤bT p b f∧bT p b f < (aj p b (cf b f)).fab.length:=by
 obtain⟨i,x,h⟩:=sk (b:=b) hf
 have hp:=(AZ hs h1 h2 h).1
 obtain⟨g1,g2,g3⟩:=h
 have h3:ah (cf b f) 0 1=true:=by have:=iC b f;rw[within_iff];omega
 have e:=vE g1
 have e2:=congrArg List.length (congrArg aq e)
 rw[aO,aO,List.length_append,List.length_append]at e2
 rw[aj,if_pos ⟨h1,h2,h3⟩,g3]
 refine⟨by omega,?_⟩
 show _ < (((aq (aD (imL p b (cf b f)))).length:Nat):Int)
 omega
end
structure EntP (p:List HP) (b:HH) (first second:Int) (f i:Nat) (im:HM) (base:Int):Prop where
 no:(i:Int)=cf b f
 lt:i < 2
 img:[aj p b 0,aj p b 1][i]?=some im
 bas:[first,second][i]?=some base
 imE:im=aj p b (cf b f)
 range:1≤base∧base≤1000000
 len:im.fab.length≤75000
 ok:ba im=true
 start:0≤bT p b f∧bT p b f < im.fab.length
 entry:dA p b first second f=base+bT p b f
 loc:yS (dv p b first second) (dA p b first second f)=((i:Int),bT p b f)
 op:∃(o:HR) (z:Nat),aU im.fab (bT p b f)=some (o,z)∧(o.fab=13∨o.fab=15)
theorem Fs {p:List HP}{b:HH}{first second:Int}(h:SpOk p b first second){f:Nat}(hf:f < (aF p).length):∃i im base,EntP p b first second f i im base:=by
 have a0:=eS h.small h.prog h.build (image:=0) (by decide)
 have a1:=eS h.small h.prog h.build (image:=1) (by decide)
 have hst:=At h.small h.prog h.build hf
 obtain⟨k,x,hx⟩:=sk (b:=b) hf
 have hop:=(AZ h.small h.prog h.build hx).2
 have hfb:=h.fb
 have hsb:=h.sb
 have hsp:=h.space
 have hno:cG (aj p b 0) (aj p b 1) first second=false:=by
  have:eD (aj p b 0) (aj p b 1) first second (entries p b first second)=true:=hsp
  unfold eD at this
  simp only[Bool.and_eq_true,Bool.not_eq_true']at this
  exact this.2.2.2.2.2.1
 have hloc:∀e,yS (dv p b first second) e=ep (aj p b 0) (aj p b 1) first second e:=fun e=>rfl
 rcases iC b f with e|e
 ·rw[e]at hst hop
  have hent:dA p b first second f=first+bT p b f:=by
   rw[dA,e,if_neg (by decide),IntWalk.i64_in _ (by omega)]
  refine⟨0,aj p b 0,first,by rw[e];rfl,by omega,rfl,rfl,by rw[e],by omega,a0.2,a0.1,hst,hent,?_,hop⟩
  rw[hloc,hent,ep,if_pos ⟨by omega,by omega⟩,show first+bT p b f - first=bT p b f by omega]
  rfl
 ·rw[e]at hst hop
  have hent:dA p b first second f=second+bT p b f:=by
   rw[dA,e,if_pos rfl,IntWalk.i64_in _ (by omega)]
  refine⟨1,aj p b 1,second,by rw[e];rfl,by omega,rfl,rfl,by rw[e],by omega,a1.2,a1.1,hst,hent,?_,hop⟩
  rw[hloc,hent,ep,if_neg,if_pos ⟨by omega,by omega⟩,show second+bT p b f - second=bT p b f by omega]
  ·rfl
  ·intro hc
   unfold cG at hno
   simp only[Bool.and_eq_false_iff,decide_eq_false_iff_not]at hno
   omega
theorem yT {p:List HP}{b:HH}{first second:Int}{f:Nat}(hf:f < (aF p).length):(entries p b first second)[f]?=some (dA p b first second f):=by
 rw[entries,List.getElem?_map,List.getElem?_range hf];rfl
theorem yl {p:List HP}{b:HH}{first second:Int}:(entries p b first second).length=(aF p).length:=by
 rw[entries,List.length_map,List.length_range]
def bf (a:Int):Bool:=ah a 0 1199
abbrev wr (n:Int):Int:=IntKind.i64.wrap n
structure CS where
 m:HQ
 bad:Bool
def CS.ok (c:CS):Prop:=c.m.fap.length=1200
def eN (m:HQ)(a:Int):Int:=match m.fap[a.toNat]? with|some x=>x|none=>0
def nU (m:HQ)(a v:Int):HQ:={m with fap:=m.fap.set a.toNat v}
def cAt (c:CS)(a:Int):CS:=⟨c.m,c.bad || !bf a⟩
def bS (c:CS)(v:Int):CS:=if(c.bad || !bf (wr (c.m.fae - 1)))=true then⟨c.m,true⟩else⟨{nU c.m (wr (c.m.fae - 1)) v with fae:=wr (c.m.fae - 1)},false⟩
def aB (c:CS):CS:=if(c.bad || !bf c.m.fae)=true then⟨c.m,true⟩else⟨{c.m with fae:=c.m.fae+1},false⟩
def iO (c:CS):Int:=if(c.bad || !bf c.m.fae)=true then 0 else eN c.m c.m.fae
def bn:Nat→CS→CS
 | 0,c=>c
 | n+1,c=>bn n (aB c)
def eL:Nat→CS→CS
 | 0,c=>c
 | n+1,c=>eL n (bS c 0)
def jg (c:CS)(a:Int):CS:=if(c.bad || !bf a)=true then⟨c.m,true⟩else bS ⟨c.m,false⟩ (eN c.m a)
def fB (c:CS)(a:Int):CS:=if((aB c).bad || !bf a)=true then⟨(aB c).m,true⟩else⟨nU (aB c).m a (iO c),false⟩
theorem inStk_iff {a:Int}:bf a=true↔0≤a∧a≤1199:=within_iff
theorem dG {c:CS}{v:Int}(h:c.ok):(bS c v).ok:=by
 unfold bS CS.ok at *
 split
 ·exact h
 ·simpa [nU]using h
theorem aG {c:CS}(h:c.ok):(aB c).ok:=by
 unfold aB CS.ok at *
 split
 ·exact h
 ·exact h
theorem cS:∀{n:Nat} {c:CS},c.ok→(bn n c).ok
 | 0,_,h=>h
 | n+1,c,h=>cS (n:=n) (aG h)
theorem pF:∀{n:Nat} {c:CS},c.ok→(eL n c).ok
 | 0,_,h=>h
 | n+1,c,h=>pF (n:=n) (dG h)
theorem yp {c:CS}{a:Int}(h:c.ok):(jg c a).ok:=by
 unfold jg
 split
 ·exact h
 ·exact dG (c:=⟨c.m,false⟩) h
theorem vt {c:CS}{a:Int}(h:c.ok):(fB c a).ok:=by
 have:=aG h
 unfold fB
 split
 ·exact this
 ·unfold CS.ok at *;simpa [nU]using this
abbrev FD (m:HQ)(st out:Sim.Id):AO:= .box [.t (.int .i64 m.fao),.t (.int .i64 m.fae),.t (.int .i64 m.fan),.own st,.own out,.t (.int .i64 m.fai),.t (.int .i64 m.faz)]
abbrev fu (c:CS):List (Sim.Id×AO):=[((0,0,0),.box [.ptr (0,0,1) 0,.t (.bool c.bad)]),((0,0,1),FD c.m (0,0,2) (0,0,3)),((0,0,2),.arr false 1 (c.m.fap.map aa)),((0,0,3),.arr false 1 (c.m.fah.map aa))]
abbrev ez:AV:= .r (.c (.ptr (0,0,0) 0))
theorem eR (c:CS)(a:Int):aS Tryz.prog 163 [ez,tI .i64 a] (fu c) (tB (!(c.bad || !bf a))) (fu (cAt c a)):=by
 obtain⟨m,bad⟩:=c
 refine bb hΓ ay Tryz.func163 rfl (by decide) rfl rfl ?_
 have hb:=bm a 0 1199
 unfold cAt bf
 cases hin:ah a 0 1199
 all_goals
  rw[hin]at hb
  cases bad
  all_goals
   repeat' ((conv=>whnf);first|refine Or.inl ?_|apply oi|(apply fi<;>intro h)|refine ci hb (ai rfl (ai rfl (ai rfl trivial))) ?_|refine⟨_,rfl,?_⟩|exact rfl)
   all_goals try exact⟨KO⟩
   all_goals try(exfalso;simp at h;done)
theorem iE {l:List Int}{a:Int}(hl:l.length=1200)(h:bf a=true):∃(j:Nat) (x:Int),a=(j:Int)∧l[j]?=some x∧j < l.length∧j≤1199:=by
 have h':=inStk_iff.1 h
 obtain⟨j,rfl⟩:=Int.eq_ofNat_of_zero_le h'.1
 obtain⟨x,hx⟩:=ag (l:=l) (k:=j) (by omega)
 exact⟨j,x,rfl,hx,by omega,by omega⟩
theorem ph {l:List Int}{j:Nat}{v:Int}:(l.map aa).set j (aa v)=(l.set j v).map aa:=by rw[List.map_set]
theorem jI {a b:Bool}(h:(a || !b)=false):a=false∧b=true:=by cases a <;> cases b <;> simp at h ⊢
theorem da (c:CS)(v:Int)(hc:c.ok):aS Tryz.prog 215 [ez,tI .i64 v] (fu c) (.tup []) (fu (bS c v)):=by
 refine bb hΓ ay Tryz.func215 rfl (by decide) rfl rfl ?_
 have hA:=eR c (wr (c.m.fae - 1))
 obtain⟨m,bad⟩:=c
 unfold CS.ok at hc
 unfold bS cAt at *
 dsimp only at hA hc ⊢
 cases hB:(bad || !bf (wr (m.fae - 1)))with
 | true=>
  rw[hB]at hA
  repeat' ((conv=>whnf);first|refine cg hA ?_|refine af ?_|apply ae|apply oi|(apply fi<;>intro h)|refine⟨_,rfl,?_⟩|exact rfl)
  all_goals try exact⟨KO⟩
  all_goals try(exfalso;simp at h;done)
 | false=>
  rw[hB]at hA
  obtain⟨_,hin⟩:=jI hB
  obtain⟨j,x,hj,hx,hlt,_⟩:=iE hc hin
  have hlen:(m.fap.map aa).length=m.fap.length:=by simp
  repeat' ((conv=>whnf);first|refine cg hA ?_|refine af ?_|apply ae|apply oi|(apply fi<;>intro h)|refine⟨_,rfl,?_⟩|exact rfl)
  all_goals try exact⟨KO⟩
  conv=>whnf
  refine⟨j,hj,by rw[hlen];exact hlt,?_⟩
  repeat' ((conv=>whnf);first|refine af ?_|apply ae|apply oi|(apply fi<;>intro h)|refine⟨(aa x),ab hx,?_⟩|refine⟨_,rfl,?_⟩|exact rfl)
  all_goals try exact⟨KO⟩
  all_goals try(exfalso;simp at h;done)
  all_goals try(refine⟨?_⟩;rw[←show(wr (m.fae - 1)).toNat=j by rw[hj];rfl];exact ph)
theorem cz (c:CS)(hc:c.ok):aS Tryz.prog 218 [ez] (fu c) (tI .i64 (iO c)) (fu (aB c)):=by
 refine bb hΓ ay Tryz.func218 rfl (by decide) rfl rfl ?_
 have hA:=eR c c.m.fae
 obtain⟨m,bad⟩:=c
 unfold CS.ok at hc
 unfold aB iO cAt at *
 dsimp only at hA hc ⊢
 cases hB:(bad || !bf m.fae)with
 | true=>
  rw[hB]at hA
  repeat' ((conv=>whnf);first|refine cg hA ?_|refine af ?_|apply ae|apply oi|(apply fi<;>intro h)|refine⟨_,rfl,?_⟩|exact rfl)
  all_goals try exact⟨KO⟩
  all_goals try(exfalso;simp at h;done)
 | false=>
  rw[hB]at hA
  obtain⟨_,hin⟩:=jI hB
  obtain⟨j,x,hj,hx,hlt,hj2⟩:=iE hc hin
  have hlen:(m.fap.map aa).length=m.fap.length:=by simp
  have hw:IntKind.i64.wrap (m.fae+1)=m.fae+1:=IntWalk.i64_in _ (by omega)
  repeat' ((conv=>whnf);first|refine cg hA ?_|refine af ?_|apply ae|apply oi|(apply fi<;>intro h)|refine⟨_,rfl,?_⟩|exact rfl)
  all_goals try exact⟨KO⟩
  conv=>whnf
  refine⟨j,?_,by rw[hlen];exact hlt,?_⟩
  ·show IntKind.i64.wrap (IntKind.i64.wrap (m.fae+1) - 1)=(j:Int)
   rw[hw,IntWalk.i64_in _ (by omega)];omega
  repeat' ((conv=>whnf);first|refine af ?_|apply ae|apply oi|(apply fi<;>intro h)|refine⟨(aa x),ab hx,?_⟩|refine⟨_,rfl,?_⟩|exact rfl)
  all_goals try exact⟨KO⟩
  all_goals try(exfalso;simp at h;done)
  all_goals first
   | exact⟨congrArg (Tr.int _) hw⟩
   |(refine⟨congrArg (Tr.int _) ?_⟩;simp[eN,hj,hx];done)
theorem lw (c:CS)(n:Nat)(hc:c.ok)(hn:n≤65536):aS Tryz.prog 221 [ez,tI .i64 (n:Int)] (fu c) (.tup []) (fu (bn n c)):=by
 refine bb hΓ ay Tryz.func221 rfl (by decide) rfl rfl ?_
 obtain⟨R,hR⟩:∃R,bn n c=R:=⟨_,rfl⟩
 rw[hR]
 repeat' ((conv=>whnf);first|refine af ?_|apply ae|apply oi|(apply fi<;>intro h)|refine⟨_,rfl,?_⟩|exact rfl)
 all_goals try exact⟨KO⟩
 conv=>whnf
 refine⟨{q:Nat×CS // q.1≤65536∧q.2.ok∧bn q.1 q.2=R},fun q=>⟨[(0,ez),(1,tI .i64 (q.1.1:Int))],(fu q.1.2).map fun p=>(p.1,some p.2),[0]⟩,fun q=>q.1.1,⟨(n,c),hn,hc,hR⟩,?_,?_⟩
 ·skip
  repeat' ((conv=>whnf);first|refine af ?_|apply ae|apply oi|(apply fi<;>intro h)|refine⟨_,rfl,?_⟩|exact rfl)
  all_goals try exact⟨KO⟩
 intro⟨⟨k,d⟩,hk,hd,hr⟩
 dsimp only at hk hd hr ⊢
 cases k with
 | zero=>
  rw[bn]at hr
  subst hr
  repeat' ((conv=>whnf);first|refine af ?_|apply ae|apply oi|(apply fi<;>intro h)|refine⟨_,rfl,?_⟩|exact rfl)
  all_goals try exact⟨KO⟩
  all_goals try(exfalso;have h':=of_decide_eq_true h;omega)
 | succ k=>
  rw[bn]at hr
  have hP:=cz d hd
  repeat' ((conv=>whnf);first|refine cg hP ?_|refine af ?_|apply ae|apply oi|(apply fi<;>intro h)|refine⟨_,rfl,?_⟩|exact rfl)
  all_goals try exact⟨KO⟩
  all_goals try(exfalso;have h':=of_decide_eq_false h;omega)
  conv=>whnf
  refine⟨⟨(k,aB d),by dsimp only;omega,aG hd,hr⟩,?_,KD⟩
  repeat' ((conv=>whnf);first|refine af ?_|apply ae|apply oi|(apply fi<;>intro h)|refine⟨_,rfl,?_⟩|exact rfl)
  all_goals try exact⟨KO⟩
  all_goals try(refine⟨congrArg (Tr.int _) ?_⟩;dsimp only;rw[IntWalk.i64_in _ (by omega)];omega)
theorem oC (c:CS)(n:Nat)(hc:c.ok)(hn:n≤65536):aS Tryz.prog 220 [ez,tI .i64 (n:Int)] (fu c) (.tup []) (fu (eL n c)):=by
 refine bb hΓ ay Tryz.func220 rfl (by decide) rfl rfl ?_
 obtain⟨R,hR⟩:∃R,eL n c=R:=⟨_,rfl⟩
 rw[hR]
 repeat' ((conv=>whnf);first|refine af ?_|apply ae|apply oi|(apply fi<;>intro h)|refine⟨_,rfl,?_⟩|exact rfl)
 all_goals try exact⟨KO⟩
 conv=>whnf
 refine⟨{q:Nat×CS // q.1≤65536∧q.2.ok∧eL q.1 q.2=R},fun q=>⟨[(0,ez),(1,tI .i64 (q.1.1:Int))],(fu q.1.2).map fun p=>(p.1,some p.2),[0]⟩,fun q=>q.1.1,⟨(n,c),hn,hc,hR⟩,?_,?_⟩
 ·skip
  repeat' ((conv=>whnf);first|refine af ?_|apply ae|apply oi|(apply fi<;>intro h)|refine⟨_,rfl,?_⟩|exact rfl)
  all_goals try exact⟨KO⟩
 intro⟨⟨k,d⟩,hk,hd,hr⟩
 dsimp only at hk hd hr ⊢
 cases k with
 | zero=>
  rw[eL]at hr
  subst hr
  repeat' ((conv=>whnf);first|refine af ?_|apply ae|apply oi|(apply fi<;>intro h)|refine⟨_,rfl,?_⟩|exact rfl)
  all_goals try exact⟨KO⟩
  all_goals try(exfalso;have h':=of_decide_eq_true h;omega)
 | succ k=>
  rw[eL]at hr
  have hP:=da d 0 hd
  repeat' ((conv=>whnf);first|refine cg hP ?_|refine af ?_|apply ae|apply oi|(apply fi<;>intro h)|refine⟨_,rfl,?_⟩|exact rfl)
  all_goals try exact⟨KO⟩
  all_goals try(exfalso;have h':=of_decide_eq_false h;omega)
  conv=>whnf
  refine⟨⟨(k,bS d 0),by dsimp only;omega,dG hd,hr⟩,?_,KD⟩
  repeat' ((conv=>whnf);first|refine af ?_|apply ae|apply oi|(apply fi<;>intro h)|refine⟨_,rfl,?_⟩|exact rfl)
  all_goals try exact⟨KO⟩
  all_goals try(refine⟨congrArg (Tr.int _) ?_⟩;dsimp only;rw[IntWalk.i64_in _ (by omega)];omega)
theorem qy (c:CS)(a:Int)(hc:c.ok):aS Tryz.prog 216 [ez,tI .i64 a] (fu c) (.tup []) (fu (jg c a)):=by
 refine bb hΓ ay Tryz.func216 rfl (by decide) rfl rfl ?_
 have hA:=eR c a
 obtain⟨m,bad⟩:=c
 unfold CS.ok at hc
 unfold jg cAt at *
 dsimp only at hA hc ⊢
 cases hB:(bad || !bf a)with
 | true=>
  rw[hB]at hA
  repeat' ((conv=>whnf);first|refine cg hA ?_|refine af ?_|apply ae|apply oi|(apply fi<;>intro h)|refine⟨_,rfl,?_⟩|exact rfl)
  all_goals try exact⟨KO⟩
  all_goals try(exfalso;simp at h;done)
 | false=>
  rw[hB]at hA
  obtain⟨_,hin⟩:=jI hB
  obtain⟨j,x,hj,hx,hlt,hj2⟩:=iE hc hin
  have hlen:(m.fap.map aa).length=m.fap.length:=by simp
  have hP:=da ⟨m,false⟩ x hc
  have hwd:eN m a=x:=by simp[eN,hj,hx]
  rw[hwd]
  repeat' ((conv=>whnf);first|refine cg hA ?_|refine af ?_|apply ae|apply oi|(apply fi<;>intro h)|refine⟨_,rfl,?_⟩|exact rfl)
  all_goals try exact⟨KO⟩
  conv=>whnf
  refine⟨j,hj,by rw[hlen];exact hlt,?_⟩
  repeat' ((conv=>whnf);first|refine cg hP ?_|refine af ?_|apply ae|apply oi|(apply fi<;>intro h)|refine⟨(aa x),ab hx,?_⟩|refine⟨_,rfl,?_⟩|exact rfl)
  all_goals try exact⟨KO⟩
  all_goals try(exfalso;simp at h;done)
theorem pk (c:CS)(a:Int)(hc:c.ok):aS Tryz.prog 217 [ez,tI .i64 a] (fu c) (.tup []) (fu (fB c a)):=by
 refine bb hΓ ay Tryz.func217 rfl (by decide) rfl rfl ?_
 have hP:=cz c hc
 have hA:=eR (aB c) a
 have hok:=aG hc
 generalize hD:aB c=d at *
 unfold fB cAt at *
 rw[hD]
 obtain⟨m,bad⟩:=d
 unfold CS.ok at hok
 dsimp only at hA hok ⊢
 cases hB:(bad || !bf a)with
 | true=>
  rw[hB]at hA
  repeat' ((conv=>whnf);first|refine cg hP ?_|refine cg hA ?_|refine af ?_|apply ae|apply oi|(apply fi<;>intro h)|refine⟨_,rfl,?_⟩|exact rfl)
  all_goals try exact⟨KO⟩
  all_goals try(exfalso;simp at h;done)
 | false=>
  rw[hB]at hA
  obtain⟨_,hin⟩:=jI hB
  obtain⟨j,x,hj,hx,hlt,hj2⟩:=iE hok hin
  have hlen:(m.fap.map aa).length=m.fap.length:=by simp
  repeat' ((conv=>whnf);first|refine cg hP ?_|refine cg hA ?_|refine af ?_|apply ae|apply oi|(apply fi<;>intro h)|refine⟨_,rfl,?_⟩|exact rfl)
  all_goals try exact⟨KO⟩
  conv=>whnf
  refine⟨j,hj,by rw[hlen];exact hlt,?_⟩
  repeat' ((conv=>whnf);first|refine af ?_|apply ae|apply oi|(apply fi<;>intro h)|refine⟨(aa x),ab hx,?_⟩|refine⟨_,rfl,?_⟩|exact rfl)
  all_goals try exact⟨KO⟩
  all_goals try(exfalso;simp at h;done)
  all_goals try(refine⟨?_⟩;rw[←show a.toNat=j by rw[hj];rfl];exact ph)
def mQ (c:CS)(a:Int):CS:=⟨{c.m with fao:=wr (c.m.fao+a)},c.bad⟩
def wW (c:CS)(k:Int):CS:=bS (aB (aB c)) (cK k (iO (aB c)) (iO c))
def qK (c:CS)(a:Int):CS:=if iO c=0 then mQ (aB c) a else aB c
def qC (c:CS)(es:List Int)(a:Int):CS:=match es[a.toNat]? with
 | some e=>⟨{c.m with fao:=e},c.bad⟩
 | none=>⟨c.m,true⟩
def xa (c:CS)(n:Nat):CS:=eL n ⟨{(bS c c.m.fan).m with fan:=(bS c c.m.fan).m.fae},(bS c c.m.fan).bad⟩
def cFp (c:CS):CS:=⟨{(aB c).m with fan:=iO c},(aB c).bad⟩
def cPc (c:CS):CS:=⟨{(aB c).m with fao:=iO c},(aB c).bad⟩
def eE (c:CS):CS:=⟨{c.m with fae:=c.m.fan},c.bad⟩
def wQ (c:CS)(n:Nat):CS:=bS (bn n (cPc (cFp (eE (aB c))))) (iO c)
def rV (c:CS)(n:Nat):CS:=bS (bn (n % 16) (cPc (bn (n / 16) (aB c)))) (iO c)
def va (c:CS):CS:=⟨{(aB c).m with fah:=(aB c).m.fah++[iO c]},(aB c).bad⟩
def ca (es:List Int)(c:CS)(x:HR):CS:=
 if x.fab=0 then bS c x.faf
 else if x.fab=1 then jg c (wr (c.m.fan+x.faf))
 else if x.fab=3 then jg c (wr (c.m.fae+x.faf))
 else if x.fab=2 then fB c (wr (c.m.fan+x.faf))
 else if x.fab=4 then fB c (wr (c.m.fae+x.faf))
 else if 5≤x.fab∧x.fab≤9 then wW c (x.fab - 3)
 else if x.fab=10 then mQ c x.faf
 else if x.fab=11 then qK c x.faf
 else if x.fab=12 then qC (bS c c.m.fao) es x.faf
 else if x.fab=13 then xa c x.faf.toNat
 else if x.fab=15 then eL x.faf.toNat c
 else if x.fab=14 then wQ c x.faf.toNat
 else if x.fab=16 then rV c x.faf.toNat
 else if x.fab=17 then va c
 else c
abbrev opV (x:HR):AV:= .r (.agg [.t (.int .i64 x.fab),.t (.int .i64 x.faf)])
abbrev HA (c:CS):List (Sim.Id×AO):=[((0,0,0),.box [.ptr (0,0,1) 0,.t (.bool c.bad)]),((0,0,1),FD c.m (0,0,2) (1,0,0)),((0,0,2),.arr false 1 (c.m.fap.map aa)),((1,0,0),.arr false 1 (c.m.fah.map aa))]
theorem lR (s:HV)(c:CS)(x:HR)(hc:c.ok)(hx:x.fab≠17)(ha:12≤x.fab→x.fab≤16→0≤x.faf∧x.faf≤65536)(he:s.faq.length≤1048576):aS Tryz.prog 162 [ez,.r (.agg (s.tr.map .t)),opV x] (fu c) (.tup []) (fu (ca s.faq c x)):=by
 obtain⟨k,a⟩:=x
 dsimp only at hx ha
 refine bb hΓ ay Tryz.func162 rfl (by decide) rfl rfl ?_
 by_cases h0:k=0
 ·subst h0
  have hP:=da c a hc
  repeat' ((conv=>whnf);first|refine cg hP ?_|refine af ?_|apply ae|apply oi|(apply fi<;>intro h)|refine⟨_,rfl,?_⟩|exact rfl)
  all_goals try exact⟨KO⟩
 by_cases h1:k=1
 ·subst h1
  have hP:=qy c (wr (c.m.fan+a)) hc
  repeat' ((conv=>whnf);first|refine cg hP ?_|refine af ?_|apply ae|apply oi|(apply fi<;>intro h)|refine⟨_,rfl,?_⟩|exact rfl)
  all_goals try exact⟨KO⟩
 by_cases h3:k=3
 ·subst h3
  have hP:=qy c (wr (c.m.fae+a)) hc
  repeat' ((conv=>whnf);first|refine cg hP ?_|refine af ?_|apply ae|apply oi|(apply fi<;>intro h)|refine⟨_,rfl,?_⟩|exact rfl)
  all_goals try exact⟨KO⟩
 by_cases h2:k=2
 ·subst h2
  have hP:=pk c (wr (c.m.fan+a)) hc
  repeat' ((conv=>whnf);first|refine cg hP ?_|refine af ?_|apply ae|apply oi|(apply fi<;>intro h)|refine⟨_,rfl,?_⟩|exact rfl)
  all_goals try exact⟨KO⟩
 by_cases h4:k=4
 ·subst h4
  have hP:=pk c (wr (c.m.fae+a)) hc
  repeat' ((conv=>whnf);first|refine cg hP ?_|refine af ?_|apply ae|apply oi|(apply fi<;>intro h)|refine⟨_,rfl,?_⟩|exact rfl)
  all_goals try exact⟨KO⟩
 by_cases h10:k=10
 ·subst h10
  repeat' ((conv=>whnf);first|refine af ?_|apply ae|apply oi|(apply fi<;>intro h)|refine⟨_,rfl,?_⟩|exact rfl)
  all_goals try exact⟨KO⟩
 by_cases h59:5≤k∧k≤9
 ·have hP1:=cz c hc
  have hP2:=cz (aB c) (aG hc)
  have hP3:=da (aB (aB c)) (cK (k - 3) (iO (aB c)) (iO c)) (aG (aG hc))
  have hA:=wS (k - 3) (iO (aB c)) (iO c)
  have e:k=5∨k=6∨k=7∨k=8∨k=9:=by omega
  rcases e with rfl|rfl|rfl|rfl|rfl
  all_goals
   repeat' ((conv=>whnf);first|refine af ?_|apply ae|apply oi|(apply fi<;>intro h)|refine⟨_,rfl,?_⟩|exact rfl)
   all_goals try exact⟨KO⟩
   refine cg (hP1) ?_
   repeat' ((conv=>whnf);first|refine af ?_|apply ae|apply oi|(apply fi<;>intro h)|refine⟨_,rfl,?_⟩|exact rfl)
   all_goals try exact⟨KO⟩
   refine cg (hP2) ?_
   repeat' ((conv=>whnf);first|refine af ?_|apply ae|apply oi|(apply fi<;>intro h)|refine cl hA ?_|refine⟨_,rfl,?_⟩|exact rfl)
   all_goals try exact⟨KO⟩
   refine cg (hP3) ?_
   repeat' ((conv=>whnf);first|refine af ?_|apply ae|apply oi|(apply fi<;>intro h)|refine⟨_,rfl,?_⟩|exact rfl)
   all_goals try exact⟨KO⟩
 by_cases h11:k=11
 ·subst h11
  have hP:=cz c hc
  by_cases hz:iO c=0
  ·rw[show ca s.faq c ⟨11,a⟩=mQ (aB c) a by simp[ca,qK,hz]]
   repeat' ((conv=>whnf);first|refine cg hP ?_|refine af ?_|apply ae|apply oi|(apply fi<;>intro h)|refine⟨_,rfl,?_⟩|exact rfl)
   all_goals try exact⟨KO⟩
   all_goals try(exfalso;rw[hz]at h;simp at h;done)
  ·rw[show ca s.faq c ⟨11,a⟩=aB c by simp[ca,qK,hz]]
   repeat' ((conv=>whnf);first|refine cg hP ?_|refine af ?_|apply ae|apply oi|(apply fi<;>intro h)|refine⟨_,rfl,?_⟩|exact rfl)
   all_goals try exact⟨KO⟩
   all_goals try(exfalso;exact hz (by simpa using h))
 by_cases h12:k=12
 ·subst h12
  obtain⟨a0,a1⟩:=ha (by omega) (by omega)
  obtain⟨n,rfl⟩:=Int.eq_ofNat_of_zero_le a0
  have hP:=da c c.m.fao hc
  have hel:(s.faq.map aa).length=s.faq.length:=by simp
  by_cases hn:n < s.faq.length
  ·obtain⟨e,hee⟩:=ag hn
   rw[show ca s.faq c ⟨12,(n:Int)⟩=⟨{(bS c c.m.fao).m with fao:=e},(bS c c.m.fao).bad⟩ by simp[ca,qC,hee]]
   repeat' ((conv=>whnf);first|refine cg hP ?_|refine af ?_|apply ae|apply oi|(apply fi<;>intro h)|refine⟨n,(aa e),rfl,ab hee,?_⟩|refine⟨_,rfl,?_⟩|exact rfl)
   all_goals try exact⟨KO⟩
   all_goals try(exfalso;have h':=of_decide_eq_false h;rw[hel]at h';dsimp only at h';omega)
  ·have hnone:s.faq[n]?=none:=List.getElem?_eq_none (by omega)
   rw[show ca s.faq c ⟨12,(n:Int)⟩=⟨(bS c c.m.fao).m,true⟩ by simp[ca,qC,hnone]]
   repeat' ((conv=>whnf);first|refine cg hP ?_|refine af ?_|apply ae|apply oi|(apply fi<;>intro h)|refine⟨_,rfl,?_⟩|exact rfl)
   all_goals try exact⟨KO⟩
   all_goals try(exfalso;have h':=of_decide_eq_true h;rw[hel]at h';dsimp only at h';omega)
 by_cases h13:k=13
 ·subst h13
  obtain⟨a0,a1⟩:=ha (by omega) (by omega)
  obtain⟨n,rfl⟩:=Int.eq_ofNat_of_zero_le a0
  have hP:=da c c.m.fan hc
  have hZ:=oC ⟨{(bS c c.m.fan).m with fan:=(bS c c.m.fan).m.fae},(bS c c.m.fan).bad⟩ n (dG hc) (by omega)
  repeat' ((conv=>whnf);first|refine cg hP ?_|refine cg hZ ?_|refine af ?_|apply ae|apply oi|(apply fi<;>intro h)|refine⟨_,rfl,?_⟩|exact rfl)
  all_goals try exact⟨KO⟩
 by_cases h15:k=15
 ·subst h15
  obtain⟨a0,a1⟩:=ha (by omega) (by omega)
  obtain⟨n,rfl⟩:=Int.eq_ofNat_of_zero_le a0
  have hZ:=oC c n hc (by omega)
  repeat' ((conv=>whnf);first|refine cg hZ ?_|refine af ?_|apply ae|apply oi|(apply fi<;>intro h)|refine⟨_,rfl,?_⟩|exact rfl)
  all_goals try exact⟨KO⟩
 by_cases h14:k=14
 ·subst h14
  obtain⟨a0,a1⟩:=ha (by omega) (by omega)
  obtain⟨n,rfl⟩:=Int.eq_ofNat_of_zero_le a0
  have o1:(eE (aB c)).ok:=aG hc
  have o2:(cFp (eE (aB c))).ok:=aG o1
  have o3:(cPc (cFp (eE (aB c)))).ok:=aG o2
  have hP1:=cz c hc
  have hP2:=cz (eE (aB c)) o1
  have hP3:=cz (cFp (eE (aB c))) o2
  have hD:=lw (cPc (cFp (eE (aB c)))) n o3 (by omega)
  have hP4:=da (bn n (cPc (cFp (eE (aB c))))) (iO c) (cS o3)
  repeat' ((conv=>whnf);first|refine af ?_|apply ae|apply oi|(apply fi<;>intro h)|refine⟨_,rfl,?_⟩|exact rfl)
  all_goals try exact⟨KO⟩
  refine cg (hP1) ?_
  repeat' ((conv=>whnf);first|refine af ?_|apply ae|apply oi|(apply fi<;>intro h)|refine⟨_,rfl,?_⟩|exact rfl)
  all_goals try exact⟨KO⟩
  refine cg (hP2) ?_
  repeat' ((conv=>whnf);first|refine af ?_|apply ae|apply oi|(apply fi<;>intro h)|refine⟨_,rfl,?_⟩|exact rfl)
  all_goals try exact⟨KO⟩
  refine cg (hP3) ?_
  repeat' ((conv=>whnf);first|refine cg hD ?_|refine cg hP4 ?_|refine af ?_|apply ae|apply oi|(apply fi<;>intro h)|refine⟨_,rfl,?_⟩|exact rfl)
  all_goals try exact⟨KO⟩
 by_cases h16:k=16
 ·subst h16
  obtain⟨a0,a1⟩:=ha (by omega) (by omega)
  obtain⟨n,rfl⟩:=Int.eq_ofNat_of_zero_le a0
  have o1:(aB c).ok:=aG hc
  have o2:(bn (n / 16) (aB c)).ok:=cS o1
  have o3:(cPc (bn (n / 16) (aB c))).ok:=aG o2
  have w1:IntKind.i64.wrap ((n:Int).tdiv 16)=((n / 16:Nat):Int):=by
   rw[Int.tdiv_eq_ediv_of_nonneg (by omega),IntWalk.i64_in _ (by omega)];rfl
  have w2:(n:Int).tmod 16=((n % 16:Nat):Int):=by
   rw[Int.tmod_eq_emod_of_nonneg (by omega)];rfl
  have hP1:=cz c hc
  have hD1:=lw (aB c) (n / 16) o1 (by omega)
  have hP2:=cz (bn (n / 16) (aB c)) o2
  have hD2:=lw (cPc (bn (n / 16) (aB c))) (n % 16) o3 (by omega)
  have hP4:=da (bn (n % 16) (cPc (bn (n / 16) (aB c)))) (iO c) (cS o3)
  rw[←w1]at hD1
  rw[←w2]at hD2
  repeat' ((conv=>whnf);first|refine af ?_|apply ae|apply oi|(apply fi<;>intro h)|refine⟨_,rfl,?_⟩|exact rfl)
  all_goals try exact⟨KO⟩
  refine cg (hP1) ?_
  repeat' ((conv=>whnf);first|refine af ?_|apply ae|apply oi|(apply fi<;>intro h)|refine⟨_,rfl,?_⟩|exact rfl)
  all_goals try exact⟨KO⟩
  refine cg (hD1) ?_
  repeat' ((conv=>whnf);first|refine af ?_|apply ae|apply oi|(apply fi<;>intro h)|refine⟨_,rfl,?_⟩|exact rfl)
  all_goals try exact⟨KO⟩
  refine cg (hP2) ?_
  repeat' ((conv=>whnf);first|refine af ?_|apply ae|apply oi|(apply fi<;>intro h)|refine⟨_,rfl,?_⟩|exact rfl)
  all_goals try exact⟨KO⟩
  refine cg (hD2) ?_
  repeat' ((conv=>whnf);first|refine af ?_|apply ae|apply oi|(apply fi<;>intro h)|refine⟨_,rfl,?_⟩|exact rfl)
  all_goals try exact⟨KO⟩
  refine cg (hP4) ?_
  repeat' ((conv=>whnf);first|refine af ?_|apply ae|apply oi|(apply fi<;>intro h)|refine⟨_,rfl,?_⟩|exact rfl)
  all_goals try exact⟨KO⟩
 ·rw[show ca s.faq c ⟨k,a⟩=c by
   unfold ca
   dsimp only
   rw[if_neg h0,if_neg h1,if_neg h3,if_neg h2,if_neg h4,if_neg h59,if_neg h10,if_neg h11,if_neg h12,if_neg h13,if_neg h15,if_neg h14,if_neg h16,if_neg hx]]
  repeat' ((conv=>whnf);first|refine af ?_|apply ae|apply oi|(apply fi<;>intro h)|refine⟨_,rfl,?_⟩|exact rfl)
  all_goals try exact⟨KO⟩
  all_goals try exact K1
theorem uu (s:HV)(c:CS)(a:Int)(hc:c.ok)(ho:c.m.fah.length≤2000000):aS Tryz.prog 162 [ez,.r (.agg (s.tr.map .t)),opV ⟨17,a⟩] (fu c) (.tup []) (HA (va c)):=by
 refine bb hΓ ay Tryz.func162 rfl (by decide) rfl rfl ?_
 have hP:=cz c hc
 have ho2:(aB c).m.fah.length≤2000000:=by unfold aB;split <;> exact ho
 repeat' ((conv=>whnf);first|refine cg hP ?_|refine af ?_|refine xG 4 6 ?_|apply oi|(apply fi<;>intro h)|refine⟨_,rfl,?_⟩|exact rfl)
 all_goals try exact⟨KR⟩
 all_goals try exact⟨⟨by(try simp only[List.length_map,List.length_append,List.length_cons,List.length_nil]);omega,by(try simp only[List.length_map,List.length_append,List.length_cons,List.length_nil]);omega⟩⟩
 all_goals(refine⟨?_⟩;simp[va,aa])
theorem Du {c:Int}(h:12≤c∧c≤16):(aT c).2=false∧((aT c).1=1∨(aT c).1=2):=by
 unfold aT
 repeat' split
 all_goals first
  |(exfalso;omega)
  | simp
theorem FJ {c:Int}(h:1≤c∧c≤11):aT c=(2,true)∨aT c=(0,false):=by
 unfold aT
 repeat' split
 all_goals first
  |(exfalso;omega)
  | simp
theorem Dy {c:Int}{m:Nat}(h:aT c=(2,true))(hm:m < 65536):-65536≤iV c m∧iV c m≤65536:=by
 by_cases hb:2 ^ (8 * 2 - 1)≤m
 ·have e:iV c m=(m:Int) - 2 ^ (8 * 2):=nQ (n:=2) (by rw[h];rfl) (by rw[h]) hb
  rw[e]
  show -65536≤(m:Int) - 65536∧(m:Int) - 65536≤65536
  omega
 ·have e:iV c m=(m:Int):=mm (n:=2) (by rw[h];rfl) (fun hh=>hb hh.2)
  rw[e]
  omega
theorem dT {s:List UInt8}{p:Int}{x:HR}{z:Nat}(h:aU s p=some (x,z)):(0≤x.fab∧x.fab≤17)∧(12≤x.fab→x.fab≤16→0≤x.faf∧x.faf≤65536)∧(1≤x.fab→x.fab≤11→-65536≤x.faf∧x.faf≤65536)∧z≤5:=by
 unfold aU at h
 split at h
 ·split at h
  ·cases h
  ·rename_i hno
   injection h with h
   injection h with h1 h2
   rw[not_or]at hno
   have hz:=ic (bQ s p.toNat)
   subst h1
   dsimp only
   generalize hc:((bQ s p.toNat:Nat):Int)=c at *
   have hin:0≤c∧c≤17:=by
    have:=hno.1
    unfold aK at this
    split at this
    ·rename_i hw;exact within_iff.1 hw
    ·exact absurd rfl this
   refine⟨hin,fun g1 g2=>?_,fun g1 g2=>?_,by omega⟩
   ·obtain⟨e1,e2⟩:=Du ⟨g1,g2⟩
    have hl:=dZ s (p.toNat+1) (aT c).1.toNat
    have:256 ^ (aT c).1.toNat≤65536:=by rcases e2 with e2|e2 <;> rw[e2] <;> decide
    rw[iV,if_neg (by rw[e1];simp)]
    omega
   ·have hl:=dZ s (p.toNat+1) (aT c).1.toNat
    rcases FJ ⟨g1,g2⟩with e|e
    ·rw[e]at hl ⊢
     exact Dy e hl
    ·rw[e]at hl ⊢
     have hl:aQ s (p.toNat+1) 0 < 1:=hl
     have e2:iV c (aQ s (p.toNat+1) 0)=((aQ s (p.toNat+1) 0:Nat):Int):=mm (n:=0) (by rw[e];rfl) (fun hh=>by rw[e]at hh;exact absurd hh.1 (by simp))
     show -65536≤iV c (aQ s (p.toNat+1) 0)∧iV c (aQ s (p.toNat+1) 0)≤65536
     rw[e2]
     omega
 ·cases h
theorem bB (m:HQ)(hs:m.fap.length≤2000000)(ho:m.fah.length≤2000000):Sim.Spec Tryz.prog 91 [.agg m.tr] (.r (.agg (m.tr.map sD))):=by
 refine ao hΓ ay Tryz.func91 rfl (by decide) rfl ?_
 repeat' ((conv=>whnf);first|refine Or.inl ?_|apply oi|(apply fi<;>intro h)|refine⟨_,rfl,?_⟩|exact rfl)
 all_goals try exact⟨KO⟩
 all_goals exact⟨⟨rfl,bc _⟩⟩
theorem lh (m:HQ)(hs:m.fap.length≤2000000)(ho:m.fah.length≤2000000):Sim.Spec Tryz.prog 94 [.agg m.tr] (.r (.agg (m.tr.map sD))):=by
 refine ao hΓ ay Tryz.func94 rfl (by decide) rfl ?_
 repeat' ((conv=>whnf);first|refine Or.inl ?_|apply oi|(apply fi<;>intro h)|refine⟨_,rfl,?_⟩|exact rfl)
 all_goals try exact⟨KO⟩
 all_goals exact⟨⟨rfl,bc _⟩⟩
def db (c:CS)(v:Int):CS:=if c.m.fae < 1∨1200 < c.m.fae then⟨c.m,true⟩else⟨{nU c.m (c.m.fae - 1) v with fae:=c.m.fae - 1},c.bad⟩
def rF (c:CS)(a:Int):Int:=if bf a=true then eN c.m a else 0
def iA (c:CS):Int:=rF c c.m.fae
def Cg (c:CS)(a v:Int):CS:=if bf a=true then⟨nU c.m a v,c.bad⟩else⟨c.m,true⟩
def jx:Nat→CS→CS
 | 0,c=>c
 | n+1,c=>jx n (db c 0)
def lN (a n:Int):Int:=if ah a (-100000) 100000=true then wr (a+n)else -1
def BW (c:CS)(a:Int):CS:=db (cAt c a) (rF c a)
def wB (c:CS)(a:Int):CS:=Cg (aB c) a (iA c)
def EM (c:CS)(k:Int):CS:=db (aB (aB c)) (cK k (iA (aB c)) (iA c))
def za (c:CS)(a:Int):CS:=if iA c=0 then mQ (aB c) a else aB c
def yo (c:CS)(es:List Int)(a:Int):CS:=match es[a.toNat]? with
 | some e=>⟨{(db c c.m.fao).m with fao:=e},(db c c.m.fao).bad⟩
 | none=>⟨c.m,true⟩
def DV (c:CS)(n:Nat):CS:=jx n ⟨{(db c c.m.fan).m with fan:=(db c c.m.fan).m.fae},(db c c.m.fan).bad⟩
def qFp (c:CS):CS:=⟨{(aB c).m with fan:=iA c},(aB c).bad⟩
def qPc (c:CS):CS:=⟨{(aB c).m with fao:=iA c},(aB c).bad⟩
def sM (c:CS)(n:Nat):CS:=if ah (aB c).m.fan 0 1200=true then db (bn n (qPc (qFp (eE (aB c))))) (iA c)else⟨(aB c).m,true⟩
def Br (c:CS)(n:Nat):CS:=db (bn (n % 16) (qPc (bn (n / 16) (aB c)))) (iA c)
def AJ (c:CS):CS:=⟨{(aB c).m with fah:=(aB c).m.fah++[iA c]},(aB c).bad⟩
def dE (es:List Int)(c:CS)(x:HR):CS:=
 if x.fab=0 then db c x.faf
 else if x.fab=1 then BW c (lN c.m.fan x.faf)
 else if x.fab=3 then BW c (wr (c.m.fae+x.faf))
 else if x.fab=2 then wB c (lN c.m.fan x.faf)
 else if x.fab=4 then wB c (wr (c.m.fae+x.faf))
 else if x.fab=10 then mQ c x.faf
 else if x.fab=11 then za c x.faf
 else if x.fab=12 then yo c es x.faf
 else if x.fab=13 then DV c x.faf.toNat
 else if x.fab=15 then jx x.faf.toNat c
 else if x.fab=14 then sM c x.faf.toNat
 else if x.fab=16 then Br c x.faf.toNat
 else if x.fab=17 then AJ c
 else EM c (x.fab - 3)
def Rel (c d:CS):Prop:=c.bad=d.bad∧(c.bad=false→c.m=d.m∧0≤c.m.fae∧c.m.fae≤1200)
theorem Rel.bad {m m':HQ}:Rel ⟨m,true⟩ ⟨m',true⟩:=⟨rfl,fun h=>by cases h⟩
theorem vR {c:CS}{v:Int}(h:c.bad=true):(bS c v).bad=true:=by simp[bS,h]
theorem qh {c:CS}{v:Int}(h:c.bad=true):(db c v).bad=true:=by unfold db;split <;> simp[h]
theorem lB {c:CS}(h:c.bad=true):(aB c).bad=true:=by simp[aB,h]
theorem DX {c:CS}(h:bf c.m.fae=false):(aB c).bad=true:=by simp[aB,h]
theorem qe:∀{n:Nat} {c:CS},c.bad=true→(bn n c).bad=true
 | 0,_,h=>h
 | n+1,_,h=>qe (n:=n) (lB h)
theorem Rel.of_bad {c d:CS}(h1:c.bad=true)(h2:d.bad=true):Rel c d:=⟨h1.trans h2.symm,fun h=>by rw[h1]at h;cases h⟩
theorem gv {c d:CS}{v v':Int}(h:Rel c d)(hv:c.bad=false→v=v'):Rel (bS c v) (db d v'):=by
 obtain⟨h1,h2⟩:=h
 cases hb:c.bad with
 | true=>exact .of_bad (vR hb) (qh (h1 ▸ hb))
 | false=>
  obtain⟨h3,h4,h5⟩:=h2 hb
  obtain⟨m,b⟩:=c
  obtain⟨m',b'⟩:=d
  dsimp only at *
  subst h3;subst h1;subst hb
  rw[hv rfl]
  unfold bS db
  dsimp only
  have hw:wr (m.fae - 1)=m.fae - 1:=IntWalk.i64_in _ (by omega)
  rw[hw]
  by_cases hs:m.fae < 1∨1200 < m.fae
  ·have hn:bf (m.fae - 1)=false:=by
    cases hi:bf (m.fae - 1)with
    | false=>rfl
    | true=>have:=inStk_iff.1 hi;omega
   rw[if_pos hs,if_pos (by simp[hn])]
   exact .bad
  ·have hn:bf (m.fae - 1)=true:=inStk_iff.2 (by omega)
   rw[if_neg hs,if_neg (by simp[hn])]
   exact⟨rfl,fun _=>⟨rfl,by dsimp only;omega,by dsimp only;omega⟩⟩
theorem eH {c d:CS}(h:Rel c d):Rel (aB c) (aB d):=by
 obtain⟨h1,h2⟩:=h
 cases hb:c.bad with
 | true=>exact .of_bad (lB hb) (lB (h1 ▸ hb))
 | false=>
  obtain⟨h3,h4,h5⟩:=h2 hb
  obtain⟨m,b⟩:=c
  obtain⟨m',b'⟩:=d
  dsimp only at *
  subst h3;subst h1;subst hb
  refine⟨rfl,fun hn=>⟨rfl,?_⟩⟩
  unfold aB at hn ⊢
  dsimp only at hn ⊢
  split at hn
  ·cases hn
  ·rename_i hi
   rw[if_neg hi]
   have:bf m.fae=true:=by simpa using hi
   have:=inStk_iff.1 this
   dsimp only
   omega
theorem gg {c d:CS}(h:Rel c d)(hb:(aB c).bad=false):iO c=iA d:=by
 obtain⟨h1,h2⟩:=h
 unfold aB at hb
 split at hb
 ·cases hb
 ·rename_i hi
  have hi':c.bad=false∧bf c.m.fae=true:=by simpa using hi
  obtain⟨h3,_⟩:=h2 hi'.1
  unfold iO iA rF
  rw[if_neg hi,←h3,if_pos hi'.2]
theorem oa:∀{n:Nat} {c d:CS},Rel c d→Rel (bn n c) (bn n d)
 | 0,_,_,h=>h
 | n+1,_,_,h=>oa (n:=n) (eH h)
theorem pU:∀{n:Nat} {c:CS},(bn n c).bad=false→c.bad=false
 | n,c,h=>by cases hb:c.bad with
  | false=>rfl
  | true=>rw[qe hb]at h;cases h
theorem pq {c:CS}(h:(aB c).bad=false):c.bad=false:=by cases hb:c.bad with
  | false=>rfl
  | true=>rw[lB hb]at h;cases h
theorem qa:∀{n:Nat} {c d:CS},Rel c d→Rel (eL n c) (jx n d)
 | 0,_,_,h=>h
 | n+1,_,_,h=>qa (n:=n) (gv h fun _=>rfl)
theorem yU {c d:CS}{a a':Int}(h:Rel c d)(hi:bf a=bf a')(ha:bf a=true→a=a'):Rel (jg c a) (BW d a'):=by
 obtain⟨h1,h2⟩:=h
 unfold jg BW cAt
 rw[←hi]
 cases hb:c.bad with
 | true=>exact .of_bad (by simp) (qh (by simp[←h1,hb]))
 | false=>
  obtain⟨h3,h4,h5⟩:=h2 hb
  cases hn:bf a with
  | false=>exact .of_bad (by simp) (qh (by simp))
  | true=>
   have e:=ha hn
   subst e
   rw[if_neg (by simp)]
   refine gv ⟨?_,fun _=>⟨h3,h4,h5⟩⟩ fun _=>?_
   ·simp[←h1,hb]
   ·rw[rF,if_pos hn,h3]
theorem wt {c d:CS}{a a':Int}(h:Rel c d)(hi:bf a=bf a')(ha:bf a=true→a=a'):Rel (fB c a) (wB d a'):=by
 have hp:=eH h
 have ht:=gg h
 unfold fB wB Cg
 rw[←hi]
 cases hb:(aB c).bad with
 | true=>
  rw[if_pos (by simp)]
  refine .of_bad rfl ?_
  split
  ·rw[←hp.1];exact hb
  ·rfl
 | false=>
  obtain⟨h3,h4,h5⟩:=hp.2 hb
  cases hn:bf a with
  | false=>rw[if_pos (by simp),if_neg (by simp)];exact .bad
  | true=>
   have e:=ha hn
   subst e
   rw[if_neg (by simp),if_pos rfl,ht hb,←h3]
   exact⟨by rw[←hp.1,hb],fun _=>⟨rfl,h4,h5⟩⟩
theorem BX {f n:Int}(hf:inI f)(hn:-65536≤n∧n≤65536):bf (wr (f+n))=bf (lN f n)∧(bf (wr (f+n))=true→wr (f+n)=lN f n):=by
 unfold lN
 by_cases hw:ah f (-100000) 100000=true
 ·rw[if_pos hw];exact⟨rfl,fun _=>rfl⟩
 ·rw[if_neg hw]
  have h0:¬(-100000≤f∧f≤100000):=fun h=>hw (within_iff.2 h)
  have:bf (wr (f+n))=false:=by
   cases hi:bf (wr (f+n))with
   | false=>rfl
   | true=>
    exfalso
    have h1:=inStk_iff.1 hi
    unfold inI at hf
    have e:wr (f+n)=if(f+n) % 18446744073709551616≥9223372036854775808 then(f+n) % 18446744073709551616 - 18446744073709551616 else(f+n) % 18446744073709551616:=by simp[wr,IntKind.wrap,IntKind.bits,IntKind.signed]
    rw[e]at h1
    split at h1 <;> omega
  rw[this]
  exact⟨by decide,fun h=>by cases h⟩
theorem yJ (es:List Int)(m:HQ)(x:HR)(hsp:0≤m.fae∧m.fae≤1200)(hfp:inI m.fan)(hc:0≤x.fab∧x.fab≤17)(h1:12≤x.fab→x.fab≤16→0≤x.faf∧x.faf≤65536)(h2:1≤x.fab→x.fab≤11→-65536≤x.faf∧x.faf≤65536):
  Rel (ca es ⟨m,false⟩ x) (dE es ⟨m,false⟩ x):=by
 have h0:Rel ⟨m,false⟩ ⟨m,false⟩:=⟨rfl,fun _=>⟨rfl,hsp⟩⟩
 obtain⟨k,a⟩:=x
 dsimp only at hc h1 h2
 generalize hd:(⟨m,false⟩:CS)=d at *
 have hdf:d.m.fan=m.fan:=by rw[←hd]
 unfold ca dE
 dsimp only
 by_cases e0:k=0
 ·rw[if_pos e0,if_pos e0];exact gv h0 fun _=>rfl
 rw[if_neg e0,if_neg e0]
 by_cases e1:k=1
 ·rw[if_pos e1,if_pos e1]
  have:=BX (n:=a) hfp (h2 (by omega) (by omega))
  rw[hdf]
  exact yU h0 this.1 this.2
 rw[if_neg e1,if_neg e1]
 by_cases e3:k=3
 ·rw[if_pos e3,if_pos e3];exact yU h0 rfl fun _=>rfl
 rw[if_neg e3,if_neg e3]
 by_cases e2:k=2
 ·rw[if_pos e2,if_pos e2]
  have:=BX (n:=a) hfp (h2 (by omega) (by omega))
  rw[hdf]
  exact wt h0 this.1 this.2
 rw[if_neg e2,if_neg e2]
 by_cases e4:k=4
 ·rw[if_pos e4,if_pos e4];exact wt h0 rfl fun _=>rfl
 rw[if_neg e4,if_neg e4]
 by_cases e59:5≤k∧k≤9
 ·rw[if_pos e59,if_neg (by omega),if_neg (by omega),if_neg (by omega),if_neg (by omega),if_neg (by omega),if_neg (by omega),if_neg (by omega),if_neg (by omega)]
  unfold wW EM
  refine gv (eH (eH h0)) fun hb=>?_
  rw[gg h0 (pq hb),gg (eH h0) hb]
 rw[if_neg e59]
 by_cases e10:k=10
 ·rw[if_pos e10,if_pos e10]
  unfold mQ
  exact⟨rfl,fun hb=>⟨rfl,(h0.2 hb).2⟩⟩
 rw[if_neg e10,if_neg e10]
 by_cases e11:k=11
 ·rw[if_pos e11,if_pos e11]
  unfold qK za
  have hp:=eH h0
  cases hb:(aB d).bad with
  | true=>refine .of_bad ?_ ?_ <;> split <;> simp[mQ,hb]
  | false=>
   rw[gg h0 hb]
   split
   ·unfold mQ;exact⟨rfl,fun hb=>⟨rfl,(hp.2 hb).2⟩⟩
   ·exact hp
 rw[if_neg e11,if_neg e11]
 by_cases e12:k=12
 ·rw[if_pos e12,if_pos e12]
  have hp:=gv (v:=d.m.fao) (v':=d.m.fao) h0 fun _=>rfl
  unfold qC yo
  cases he:es[a.toNat]? with
  | some e=>exact⟨hp.1,fun hb=>by obtain⟨g1,g2,g3⟩:=hp.2 hb;exact⟨by dsimp only;rw[g1],g2,g3⟩⟩
  | none=>exact .bad
 rw[if_neg e12,if_neg e12]
 by_cases e13:k=13
 ·rw[if_pos e13,if_pos e13]
  have hp:=gv (v:=d.m.fan) (v':=d.m.fan) h0 fun _=>rfl
  unfold xa DV
  refine qa ⟨hp.1,fun hb=>?_⟩
  obtain⟨g1,g2,g3⟩:=hp.2 hb
  exact⟨by dsimp only;rw[g1],g2,g3⟩
 rw[if_neg e13,if_neg e13]
 by_cases e15:k=15
 ·rw[if_pos e15,if_pos e15];exact qa h0
 rw[if_neg e15,if_neg e15]
 by_cases e14:k=14
 ·rw[if_pos e14,if_pos e14]
  unfold wQ sM
  have hp:=eH h0
  by_cases hw:ah (aB d).m.fan 0 1200=true
  ·rw[if_pos hw]
   have hw':=within_iff.1 hw
   have hcut:Rel (eE (aB d)) (eE (aB d)):=⟨rfl,fun _=>⟨rfl,hw'.1,hw'.2⟩⟩
   have p2:=eH hcut
   have r3:Rel (cFp (eE (aB d))) (qFp (eE (aB d))):=⟨p2.1,fun hb=>by
    unfold cFp qFp
    rw[gg hcut hb]
    exact⟨rfl,(p2.2 hb).2⟩⟩
   have p3:=eH r3
   have r4:Rel (cPc (cFp (eE (aB d)))) (qPc (qFp (eE (aB d)))):=⟨p3.1,fun hb=>by
    obtain⟨g1,g2,g3⟩:=p3.2 hb
    unfold cPc qPc
    rw[gg r3 hb]
    exact⟨by dsimp only;rw[g1],g2,g3⟩⟩
   refine gv (oa r4) fun hb=>gg h0 ?_
   have b0:(cPc (cFp (eE (aB d)))).bad=false:=pU hb
   have b1:(aB (cFp (eE (aB d)))).bad=false:=b0
   have b1':(cFp (eE (aB d))).bad=false:=pq b1
   have b2:(aB (eE (aB d))).bad=false:=b1'
   have b2':(eE (aB d)).bad=false:=pq b2
   exact b2'
  ·rw[if_neg hw]
   refine .of_bad ?_ rfl
   refine vR (qe ?_)
   show(aB (cFp (eE (aB d)))).bad=true
   refine lB ?_
   show(aB (eE (aB d))).bad=true
   have hn:bf (aB d).m.fan=false:=by
    cases hi:bf (aB d).m.fan with
    | false=>rfl
    | true=>exact absurd (within_iff.2 (by have:=inStk_iff.1 hi;omega)) hw
   exact DX (c:=eE (aB d)) hn
 rw[if_neg e14,if_neg e14]
 by_cases e16:k=16
 ·rw[if_pos e16,if_pos e16]
  unfold rV Br
  have hp:=eH h0
  have r2:=oa (n:=a.toNat / 16) hp
  have p3:=eH r2
  have r4:Rel (cPc (bn (a.toNat / 16) (aB d))) (qPc (bn (a.toNat / 16) (aB d))):=⟨p3.1,fun hb=>by
   obtain⟨g1,g2,g3⟩:=p3.2 hb
   unfold cPc qPc
   rw[gg r2 hb]
   exact⟨rfl,g2,g3⟩⟩
  refine gv (oa r4) fun hb=>gg h0 ?_
  have b0:(cPc (bn (a.toNat / 16) (aB d))).bad=false:=pU hb
  have b1:(aB (bn (a.toNat / 16) (aB d))).bad=false:=b0
  have b2:(bn (a.toNat / 16) (aB d)).bad=false:=pq b1
  exact pU b2
 rw[if_neg e16,if_neg e16]
 have e17:k=17:=by omega
 rw[if_pos e17,if_pos e17]
 have hp:=eH h0
 unfold va AJ
 refine⟨rfl,fun hb=>?_⟩
 rw[gg h0 hb]
 exact⟨rfl,(hp.2 hb).2⟩
abbrev Hr (m:HQ)(bad:Bool)(st out:Sim.Id):AO:= .box [.t (.int .i64 m.fao),.t (.int .i64 m.fae),.t (.int .i64 m.fan),.own st,.own out,.t (.int .i64 m.fai),.t (.int .i64 m.faz),.t (.bool bad)]
abbrev ly (c:CS):List (Sim.Id×AO):=[((0,0,0),Hr c.m c.bad (0,0,1) (0,0,2)),((0,0,1),.arr false 1 (c.m.fap.map aa)),((0,0,2),.arr false 1 (c.m.fah.map aa))]
abbrev HG (c:CS):List (Sim.Id×AO):=[((0,0,0),Hr c.m c.bad (0,0,1) (1,0,0)),((0,0,1),.arr false 1 (c.m.fap.map aa)),((1,0,0),.arr false 1 (c.m.fah.map aa))]
theorem lb (a n:Int):Sim.Spec Tryz.prog 224 [tvI a,tvI n] (rI (lN a n)):=by
 refine ao hΓ ay Tryz.func224 rfl (by decide) rfl ?_
 have hb:=aH a (-100000) 100000
 unfold lN
 cases hin:ah a (-100000) 100000
 all_goals
  rw[hin]at hb
  repeat' ((conv=>whnf);first|refine Or.inl ?_|apply oi|(apply fi<;>intro h)|refine ci hb (ai rfl (ai rfl (ai rfl trivial))) ?_|refine⟨_,rfl,?_⟩|exact rfl)
  all_goals try exact⟨KO⟩
  all_goals try(exfalso;simp at h;done)
theorem dm (c:CS)(v:Int)(hc:c.ok):aS Tryz.prog 223 [ez,tI .i64 v] (ly c) (.tup []) (ly (db c v)):=by
 refine bb hΓ ay Tryz.func223 rfl (by decide) rfl rfl ?_
 obtain⟨m,bad⟩:=c
 unfold CS.ok at hc
 unfold db
 dsimp only at hc ⊢
 by_cases hs:m.fae < 1∨1200 < m.fae
 ·rw[if_pos hs]
  repeat' ((conv=>whnf);first|refine af ?_|apply ae|apply oi|(apply fi<;>intro h)|refine⟨_,rfl,?_⟩|exact rfl)
  all_goals try exact⟨KO⟩
  all_goals try exact K8
 ·rw[if_neg hs]
  have hw:wr (m.fae - 1)=m.fae - 1:=IntWalk.i64_in _ (by omega)
  obtain⟨j,x,hj,hx,hlt,_⟩:=iE (a:=m.fae - 1) hc (inStk_iff.2 (by omega))
  have hlen:(m.fap.map aa).length=m.fap.length:=by simp
  repeat' ((conv=>whnf);first|refine af ?_|apply ae|apply oi|(apply fi<;>intro h)|refine⟨_,rfl,?_⟩|exact rfl)
  all_goals try exact⟨KO⟩
  all_goals try exact K8
  conv=>whnf
  refine⟨j,by rw[←hj];exact hw,by rw[hlen];exact hlt,?_⟩
  repeat' ((conv=>whnf);first|refine af ?_|apply ae|apply oi|(apply fi<;>intro h)|refine⟨(aa x),ab hx,?_⟩|refine⟨_,rfl,?_⟩|exact rfl)
  all_goals try exact⟨KO⟩
  all_goals first
   | exact⟨congrArg (Tr.int _) hw⟩
   |(refine⟨?_⟩;rw[←show(m.fae - 1).toNat=j by rw[hj];rfl];exact ph)
theorem iG (c:CS)(a:Int)(hc:c.ok):aS Tryz.prog 168 [ez,tI .i64 a] (ly c) (tI .i64 (rF c a)) (ly (cAt c a)):=by
 refine bb hΓ ay Tryz.func168 rfl (by decide) rfl rfl ?_
 obtain⟨m,bad⟩:=c
 unfold CS.ok at hc
 have hb:=aH a 0 1199
 unfold cAt rF
 dsimp only at hc ⊢
 cases hi:bf a with
 | false=>
  rw[show ah a 0 1199=false from hi]at hb
  rw[if_neg (by simp)]
  repeat' ((conv=>whnf);first|refine Or.inl ?_|apply oi|(apply fi<;>intro h)|refine ci hb (ai rfl (ai rfl (ai rfl trivial))) ?_|refine⟨_,rfl,?_⟩|exact rfl)
  all_goals try exact⟨KO⟩
  all_goals try(exfalso;simp at h;done)
  all_goals try(refine⟨congrArg Tr.bool ?_⟩;simp)
 | true=>
  rw[show ah a 0 1199=true from hi]at hb
  rw[if_pos rfl]
  obtain⟨j,x,hj,hx,hlt,_⟩:=iE hc hi
  have hlen:(m.fap.map aa).length=m.fap.length:=by simp
  rw[show eN m a=x by simp[eN,hj,hx]]
  repeat' ((conv=>whnf);first|refine Or.inl ?_|apply oi|(apply fi<;>intro h)|refine ci hb (ai rfl (ai rfl (ai rfl trivial))) ?_|refine⟨_,rfl,?_⟩|exact rfl)
  all_goals try exact⟨KO⟩
  all_goals try(exfalso;simp at h;done)
  conv=>whnf
  refine⟨j,hj,by rw[hlen];exact hlt,?_⟩
  repeat' ((conv=>whnf);first|refine Or.inl ?_|apply oi|(apply fi<;>intro h)|refine⟨(aa x),ab hx,?_⟩|refine⟨_,rfl,?_⟩|exact rfl)
  all_goals try exact⟨KO⟩
  all_goals try(refine⟨congrArg Tr.bool ?_⟩;simp)
theorem cF (c:CS)(hc:c.ok):aS Tryz.prog 226 [ez] (ly c) (tI .i64 (iA c)) (ly (aB c)):=by
 refine bb hΓ ay Tryz.func226 rfl (by decide) rfl rfl ?_
 have hP:=iG c c.m.fae hc
 obtain⟨m,bad⟩:=c
 unfold iA aB cAt at *
 dsimp only at hP ⊢
 cases hB:(bad || !bf m.fae)with
 | true=>
  rw[hB]at hP
  repeat' ((conv=>whnf);first|refine cg hP ?_|refine af ?_|apply ae|apply oi|(apply fi<;>intro h)|refine⟨_,rfl,?_⟩|exact rfl)
  all_goals try exact⟨KO⟩
  all_goals try(exfalso;simp at h;done)
 | false=>
  rw[hB]at hP
  obtain⟨_,hin⟩:=jI hB
  have:=inStk_iff.1 hin
  have hw:IntKind.i64.wrap (m.fae+1)=m.fae+1:=IntWalk.i64_in _ (by omega)
  repeat' ((conv=>whnf);first|refine cg hP ?_|refine af ?_|apply ae|apply oi|(apply fi<;>intro h)|refine⟨_,rfl,?_⟩|exact rfl)
  all_goals try exact⟨KO⟩
  all_goals try(exfalso;simp at h;done)
  all_goals exact⟨congrArg (Tr.int _) hw⟩
theorem vz (c:CS)(a v:Int)(hc:c.ok):aS Tryz.prog 225 [ez,tI .i64 a,tI .i64 v] (ly c) (.tup []) (ly (Cg c a v)):=by
 refine bb hΓ ay Tryz.func225 rfl (by decide) rfl rfl ?_
 obtain⟨m,bad⟩:=c
 unfold CS.ok at hc
 have hb:=aH a 0 1199
 unfold Cg
 dsimp only at hc ⊢
 cases hi:bf a with
 | false=>
  rw[show ah a 0 1199=false from hi]at hb
  rw[if_neg (by simp)]
  repeat' ((conv=>whnf);first|refine Or.inl ?_|apply oi|(apply fi<;>intro h)|refine ci hb (ai rfl (ai rfl (ai rfl trivial))) ?_|refine⟨_,rfl,?_⟩|exact rfl)
  all_goals try exact⟨KO⟩
  all_goals try(exfalso;simp at h;done)
 | true=>
  rw[show ah a 0 1199=true from hi]at hb
  rw[if_pos rfl]
  obtain⟨j,x,hj,hx,hlt,_⟩:=iE hc hi
  have hlen:(m.fap.map aa).length=m.fap.length:=by simp
  repeat' ((conv=>whnf);first|refine Or.inl ?_|apply oi|(apply fi<;>intro h)|refine ci hb (ai rfl (ai rfl (ai rfl trivial))) ?_|refine⟨_,rfl,?_⟩|exact rfl)
  all_goals try exact⟨KO⟩
  all_goals try(exfalso;simp at h;done)
  conv=>whnf
  refine⟨j,hj,by rw[hlen];exact hlt,?_⟩
  repeat' ((conv=>whnf);first|refine Or.inl ?_|apply oi|(apply fi<;>intro h)|refine⟨(aa x),ab hx,?_⟩|refine⟨_,rfl,?_⟩|exact rfl)
  all_goals try exact⟨KO⟩
  all_goals try(refine⟨?_⟩;rw[←show a.toNat=j by rw[hj];rfl];exact ph)
theorem dJ {c:CS}{v:Int}(h:c.ok):(db c v).ok:=by
 unfold db CS.ok at *
 split
 ·exact h
 ·simpa [nU]using h
theorem pI:∀{n:Nat} {c:CS},c.ok→(jx n c).ok
 | 0,_,h=>h
 | n+1,c,h=>pI (n:=n) (dJ h)
theorem Ds {c:CS}{a:Int}(h:c.ok):(cAt c a).ok:=h
theorem nl (c:CS)(n:Nat)(hc:c.ok)(hn:n≤65536):aS Tryz.prog 228 [ez,tI .i64 (n:Int)] (ly c) (.tup []) (ly (bn n c)):=by
 refine bb hΓ ay Tryz.func228 rfl (by decide) rfl rfl ?_
 obtain⟨R,hR⟩:∃R,bn n c=R:=⟨_,rfl⟩
 rw[hR]
 repeat' ((conv=>whnf);first|refine af ?_|apply ae|apply oi|(apply fi<;>intro h)|refine⟨_,rfl,?_⟩|exact rfl)
 all_goals try exact⟨KO⟩
 conv=>whnf
 refine⟨{q:Nat×CS // q.1≤n∧q.2.ok∧bn (n - q.1) q.2=R},fun q=>⟨[(0,ez),(1,tI .i64 (n:Int)),(4,tI .i64 (q.1.1:Int))],(ly q.1.2).map fun p=>(p.1,some p.2),[0]⟩,fun q=>n - q.1.1,⟨(0,c),by omega,hc,hR⟩,?_,?_⟩
 ·skip
  repeat' ((conv=>whnf);first|refine af ?_|apply ae|apply oi|(apply fi<;>intro h)|refine⟨_,rfl,?_⟩|exact rfl)
  all_goals try exact⟨KO⟩
 intro⟨⟨k,d⟩,hk,hd,hr⟩
 dsimp only at hk hd hr ⊢
 by_cases hlt:k < n
 ·obtain⟨j,hj⟩:∃j,n - k=j+1:=⟨n - k - 1,by omega⟩
  rw[hj,bn]at hr
  have hP:=cF d hd
  repeat' ((conv=>whnf);first|refine cg hP ?_|refine af ?_|apply ae|apply oi|(apply fi<;>intro h)|refine⟨_,rfl,?_⟩|exact rfl)
  all_goals try exact⟨KO⟩
  all_goals try(exfalso;have h':=of_decide_eq_false h;omega)
  conv=>whnf
  refine⟨⟨(k+1,aB d),by dsimp only;omega,aG hd,by rw[show n - (k+1)=j by omega];exact hr⟩,?_,KD⟩
  repeat' ((conv=>whnf);first|refine af ?_|apply ae|apply oi|(apply fi<;>intro h)|refine⟨_,rfl,?_⟩|exact rfl)
  all_goals try exact⟨KO⟩
  all_goals try(refine⟨congrArg (Tr.int _) ?_⟩;dsimp only;rw[IntWalk.i64_in _ (by omega)];omega)
 ·rw[show n - k=0 by omega,bn]at hr
  subst hr
  repeat' ((conv=>whnf);first|refine af ?_|apply ae|apply oi|(apply fi<;>intro h)|refine⟨_,rfl,?_⟩|exact rfl)
  all_goals try exact⟨KO⟩
  all_goals try(exfalso;have h':=of_decide_eq_true h;omega)
theorem qE (c:CS)(n:Nat)(hc:c.ok)(hn:n≤65536):aS Tryz.prog 227 [ez,tI .i64 (n:Int)] (ly c) (.tup []) (ly (jx n c)):=by
 refine bb hΓ ay Tryz.func227 rfl (by decide) rfl rfl ?_
 obtain⟨R,hR⟩:∃R,jx n c=R:=⟨_,rfl⟩
 rw[hR]
 repeat' ((conv=>whnf);first|refine af ?_|apply ae|apply oi|(apply fi<;>intro h)|refine⟨_,rfl,?_⟩|exact rfl)
 all_goals try exact⟨KO⟩
 conv=>whnf
 refine⟨{q:Nat×CS // q.1≤n∧q.2.ok∧jx (n - q.1) q.2=R},fun q=>⟨[(0,ez),(1,tI .i64 (n:Int)),(4,tI .i64 (q.1.1:Int))],(ly q.1.2).map fun p=>(p.1,some p.2),[0]⟩,fun q=>n - q.1.1,⟨(0,c),by omega,hc,hR⟩,?_,?_⟩
 ·skip
  repeat' ((conv=>whnf);first|refine af ?_|apply ae|apply oi|(apply fi<;>intro h)|refine⟨_,rfl,?_⟩|exact rfl)
  all_goals try exact⟨KO⟩
 intro⟨⟨k,d⟩,hk,hd,hr⟩
 dsimp only at hk hd hr ⊢
 by_cases hlt:k < n
 ·obtain⟨j,hj⟩:∃j,n - k=j+1:=⟨n - k - 1,by omega⟩
  rw[hj,jx]at hr
  have hP:=dm d 0 hd
  repeat' ((conv=>whnf);first|refine cg hP ?_|refine af ?_|apply ae|apply oi|(apply fi<;>intro h)|refine⟨_,rfl,?_⟩|exact rfl)
  all_goals try exact⟨KO⟩
  all_goals try(exfalso;have h':=of_decide_eq_false h;omega)
  conv=>whnf
  refine⟨⟨(k+1,db d 0),by dsimp only;omega,dJ hd,by rw[show n - (k+1)=j by omega];exact hr⟩,?_,KD⟩
  repeat' ((conv=>whnf);first|refine af ?_|apply ae|apply oi|(apply fi<;>intro h)|refine⟨_,rfl,?_⟩|exact rfl)
  all_goals try exact⟨KO⟩
  all_goals try(refine⟨congrArg (Tr.int _) ?_⟩;dsimp only;rw[IntWalk.i64_in _ (by omega)];omega)
 ·rw[show n - k=0 by omega,jx]at hr
  subst hr
  repeat' ((conv=>whnf);first|refine af ?_|apply ae|apply oi|(apply fi<;>intro h)|refine⟨_,rfl,?_⟩|exact rfl)
  all_goals try exact⟨KO⟩
  all_goals try(exfalso;have h':=of_decide_eq_true h;omega)
theorem Fo {v v':Int}{R:List Sim.Id}(h:v=v'):(⟨tI .i64 v,[],none,R⟩:Eff)=⟨tI .i64 v',[],none,R⟩:=by rw[h]
def adv (c:CS)(z:Int):CS:=⟨{c.m with fao:=wr (c.m.fao+z)},c.bad⟩
theorem vj (s:HV)(c:CS)(x:HR)(z:Int)(hc:c.ok)(hx:x.fab≠17)(h0:0≤x.fab∧x.fab≤17)(ha:12≤x.fab→x.fab≤16→0≤x.faf∧x.faf≤65536)(he:s.faq.length≤1048576):aS Tryz.prog 167 [.r (.agg (s.tr.map .t)),ez,opV x,tI .i64 z] (ly c) (.tup []) (ly (dE s.faq (adv c z) x)):=by
 obtain⟨k,a⟩:=x
 dsimp only at hx ha h0
 refine bb hΓ ay Tryz.func167 rfl (by decide) rfl rfl ?_
 obtain⟨d,hd⟩:∃d,adv c z=d:=⟨_,rfl⟩
 have hdo:d.ok:=by rw[←hd];exact hc
 by_cases e0:k=0
 ·subst e0
  have hP:=dm (adv c z) a hc
  repeat' ((conv=>whnf);first|refine cg hP ?_|refine af ?_|apply ae|apply oi|(apply fi<;>intro h)|refine⟨_,rfl,?_⟩|exact rfl)
  all_goals try exact⟨KO⟩
 by_cases e1:k=1
 ·subst e1
  have hN:=lb c.m.fan a
  have hQ:=iG (adv c z) (lN c.m.fan a) hc
  have hP:=dm (cAt (adv c z) (lN c.m.fan a)) (rF (adv c z) (lN c.m.fan a)) hc
  repeat' ((conv=>whnf);first|refine cg hQ ?_|refine cg hP ?_|refine af ?_|apply ae|apply oi|(apply fi<;>intro h)|refine cl hN ?_|refine⟨_,rfl,?_⟩|exact rfl)
  all_goals try exact⟨KO⟩
 by_cases e3:k=3
 ·subst e3
  have hQ:=iG (adv c z) (wr (c.m.fae+a)) hc
  have hP:=dm (cAt (adv c z) (wr (c.m.fae+a))) (rF (adv c z) (wr (c.m.fae+a))) hc
  repeat' ((conv=>whnf);first|refine cg hQ ?_|refine cg hP ?_|refine af ?_|apply ae|apply oi|(apply fi<;>intro h)|refine⟨_,rfl,?_⟩|exact rfl)
  all_goals try exact⟨KO⟩
 by_cases e2:k=2
 ·subst e2
  have hN:=lb c.m.fan a
  have hQ:=cF (adv c z) hc
  have hP:=vz (aB (adv c z)) (lN c.m.fan a) (iA (adv c z)) (aG hc)
  have hf:(aB (adv c z)).m.fan=c.m.fan:=by unfold aB;split <;> rfl
  repeat' ((conv=>whnf);first|refine cg hQ ?_|refine cg hP ?_|refine af ?_|refine xG 5 10 ?_|apply oi|(apply fi<;>intro h)|refine cl hN ?_|refine⟨_,rfl,?_⟩|exact rfl)
  all_goals try exact⟨KR⟩
  all_goals(refine⟨?_⟩;(conv=>whnf);exact Fo hf)
 by_cases e4:k=4
 ·subst e4
  have hQ:=cF (adv c z) hc
  have hP:=vz (aB (adv c z)) (wr (c.m.fae+a)) (iA (adv c z)) (aG hc)
  repeat' ((conv=>whnf);first|refine cg hQ ?_|refine cg hP ?_|refine af ?_|apply ae|apply oi|(apply fi<;>intro h)|refine⟨_,rfl,?_⟩|exact rfl)
  all_goals try exact⟨KO⟩
 by_cases e10:k=10
 ·subst e10
  repeat' ((conv=>whnf);first|refine af ?_|apply ae|apply oi|(apply fi<;>intro h)|refine⟨_,rfl,?_⟩|exact rfl)
  all_goals try exact⟨KO⟩
 by_cases e11:k=11
 ·subst e11
  have hP:=cF (adv c z) hc
  by_cases hz:iA (adv c z)=0
  ·rw[show dE s.faq (adv c z) ⟨11,a⟩=mQ (aB (adv c z)) a by simp[dE,za,hz]]
   repeat' ((conv=>whnf);first|refine cg hP ?_|refine af ?_|apply ae|apply oi|(apply fi<;>intro h)|refine⟨_,rfl,?_⟩|exact rfl)
   all_goals try exact⟨KO⟩
   all_goals try(exfalso;rw[hz]at h;simp at h;done)
  ·rw[show dE s.faq (adv c z) ⟨11,a⟩=aB (adv c z) by simp[dE,za,hz]]
   repeat' ((conv=>whnf);first|refine cg hP ?_|refine af ?_|apply ae|apply oi|(apply fi<;>intro h)|refine⟨_,rfl,?_⟩|exact rfl)
   all_goals try exact⟨KO⟩
   all_goals try(exfalso;exact hz (by simpa using h))
 by_cases e12:k=12
 ·subst e12
  obtain⟨a0,a1⟩:=ha (by omega) (by omega)
  obtain⟨n,rfl⟩:=Int.eq_ofNat_of_zero_le a0
  have hP:=dm (adv c z) (adv c z).m.fao hc
  have hel:(s.faq.map aa).length=s.faq.length:=by simp
  by_cases hn:n < s.faq.length
  ·obtain⟨e,hee⟩:=ag hn
   rw[show dE s.faq (adv c z) ⟨12,(n:Int)⟩=⟨{(db (adv c z) (adv c z).m.fao).m with fao:=e},(db (adv c z) (adv c z).m.fao).bad⟩ by simp[dE,yo,hee]]
   repeat' ((conv=>whnf);first|refine cg hP ?_|refine af ?_|apply ae|apply oi|(apply fi<;>intro h)|refine⟨n,(aa e),rfl,ab hee,?_⟩|refine⟨_,rfl,?_⟩|exact rfl)
   all_goals try exact⟨KO⟩
   all_goals try(exfalso;have h':=of_decide_eq_true h;rw[hel]at h';dsimp only at h';omega)
  ·have hnone:s.faq[n]?=none:=List.getElem?_eq_none (by omega)
   rw[show dE s.faq (adv c z) ⟨12,(n:Int)⟩=⟨(adv c z).m,true⟩ by simp[dE,yo,hnone]]
   repeat' ((conv=>whnf);first|refine cg hP ?_|refine af ?_|apply ae|apply oi|(apply fi<;>intro h)|refine⟨_,rfl,?_⟩|exact rfl)
   all_goals try exact⟨KO⟩
   all_goals try(exfalso;have h':=of_decide_eq_false h;rw[hel]at h';dsimp only at h';omega)
 by_cases e13:k=13
 ·subst e13
  obtain⟨a0,a1⟩:=ha (by omega) (by omega)
  obtain⟨n,rfl⟩:=Int.eq_ofNat_of_zero_le a0
  have hP:=dm (adv c z) c.m.fan hc
  have hZ:=qE ⟨{(db (adv c z) c.m.fan).m with fan:=(db (adv c z) c.m.fan).m.fae},(db (adv c z) c.m.fan).bad⟩ n (dJ (c:=adv c z) hc) (by omega)
  repeat' ((conv=>whnf);first|refine cg hP ?_|refine cg hZ ?_|refine af ?_|apply ae|apply oi|(apply fi<;>intro h)|refine⟨_,rfl,?_⟩|exact rfl)
  all_goals try exact⟨KO⟩
 by_cases e15:k=15
 ·subst e15
  obtain⟨a0,a1⟩:=ha (by omega) (by omega)
  obtain⟨n,rfl⟩:=Int.eq_ofNat_of_zero_le a0
  have hZ:=qE (adv c z) n hc (by omega)
  repeat' ((conv=>whnf);first|refine cg hZ ?_|refine af ?_|apply ae|apply oi|(apply fi<;>intro h)|refine⟨_,rfl,?_⟩|exact rfl)
  all_goals try exact⟨KO⟩
 by_cases e14:k=14
 ·subst e14
  obtain⟨a0,a1⟩:=ha (by omega) (by omega)
  obtain⟨n,rfl⟩:=Int.eq_ofNat_of_zero_le a0
  have hP1:=cF (adv c z) hc
  have hb:=aH (aB (adv c z)).m.fan 0 1200
  cases hw:ah (aB (adv c z)).m.fan 0 1200 with
  | false=>
   rw[hw]at hb
   rw[show dE s.faq (adv c z) ⟨14,(n:Int)⟩=⟨(aB (adv c z)).m,true⟩ by simp[dE,sM,hw]]
   repeat' ((conv=>whnf);first|refine cg hP1 ?_|refine af ?_|apply ae|apply oi|(apply fi<;>intro h)|refine cl hb ?_|refine⟨_,rfl,?_⟩|exact rfl)
   all_goals try exact⟨KO⟩
   all_goals try(exfalso;simp at h;done)
  | true=>
   rw[hw]at hb
   rw[show dE s.faq (adv c z) ⟨14,(n:Int)⟩=db (bn n (qPc (qFp (eE (aB (adv c z)))))) (iA (adv c z)) by simp[dE,sM,hw]]
   have o1:(eE (aB (adv c z))).ok:=aG (c:=adv c z) hc
   have o2:(qFp (eE (aB (adv c z)))).ok:=aG o1
   have o3:(qPc (qFp (eE (aB (adv c z))))).ok:=aG o2
   have hP2:=cF (eE (aB (adv c z))) o1
   have hP3:=cF (qFp (eE (aB (adv c z)))) o2
   have hD:=nl (qPc (qFp (eE (aB (adv c z))))) n o3 (by omega)
   have hP4:=dm (bn n (qPc (qFp (eE (aB (adv c z)))))) (iA (adv c z)) (cS o3)
   repeat' ((conv=>whnf);first|refine af ?_|apply ae|apply oi|(apply fi<;>intro h)|refine⟨_,rfl,?_⟩|exact rfl)
   all_goals try exact⟨KO⟩
   refine cg (hP1) ?_
   repeat' ((conv=>whnf);first|refine af ?_|apply ae|apply oi|(apply fi<;>intro h)|refine cl hb ?_|refine⟨_,rfl,?_⟩|exact rfl)
   all_goals try exact⟨KO⟩
   all_goals try(exfalso;simp at h;done)
   refine cg (hP2) ?_
   repeat' ((conv=>whnf);first|refine af ?_|apply ae|apply oi|(apply fi<;>intro h)|refine⟨_,rfl,?_⟩|exact rfl)
   all_goals try exact⟨KO⟩
   refine cg (hP3) ?_
   repeat' ((conv=>whnf);first|refine cg hD ?_|refine cg hP4 ?_|refine af ?_|apply ae|apply oi|(apply fi<;>intro h)|refine⟨_,rfl,?_⟩|exact rfl)
   all_goals try exact⟨KO⟩
 by_cases e16:k=16
 ·subst e16
  obtain⟨a0,a1⟩:=ha (by omega) (by omega)
  obtain⟨n,rfl⟩:=Int.eq_ofNat_of_zero_le a0
  have o1:(aB (adv c z)).ok:=aG (c:=adv c z) hc
  have o2:(bn (n / 16) (aB (adv c z))).ok:=cS o1
  have o3:(qPc (bn (n / 16) (aB (adv c z)))).ok:=aG o2
  have w1:IntKind.i64.wrap ((n:Int).tdiv 16)=((n / 16:Nat):Int):=by
   rw[Int.tdiv_eq_ediv_of_nonneg (by omega),IntWalk.i64_in _ (by omega)];rfl
  have w2:(n:Int).tmod 16=((n % 16:Nat):Int):=by
   rw[Int.tmod_eq_emod_of_nonneg (by omega)];rfl
  have hP1:=cF (adv c z) hc
  have hD1:=nl (aB (adv c z)) (n / 16) o1 (by omega)
  have hP2:=cF (bn (n / 16) (aB (adv c z))) o2
  have hD2:=nl (qPc (bn (n / 16) (aB (adv c z)))) (n % 16) o3 (by omega)
  have hP4:=dm (bn (n % 16) (qPc (bn (n / 16) (aB (adv c z))))) (iA (adv c z)) (cS o3)
  rw[←w1]at hD1
  rw[←w2]at hD2
  repeat' ((conv=>whnf);first|refine af ?_|apply ae|apply oi|(apply fi<;>intro h)|refine⟨_,rfl,?_⟩|exact rfl)
  all_goals try exact⟨KO⟩
  refine cg (hP1) ?_
  repeat' ((conv=>whnf);first|refine af ?_|apply ae|apply oi|(apply fi<;>intro h)|refine⟨_,rfl,?_⟩|exact rfl)
  all_goals try exact⟨KO⟩
  refine cg (hD1) ?_
  repeat' ((conv=>whnf);first|refine af ?_|apply ae|apply oi|(apply fi<;>intro h)|refine⟨_,rfl,?_⟩|exact rfl)
  all_goals try exact⟨KO⟩
  refine cg (hP2) ?_
  repeat' ((conv=>whnf);first|refine af ?_|apply ae|apply oi|(apply fi<;>intro h)|refine⟨_,rfl,?_⟩|exact rfl)
  all_goals try exact⟨KO⟩
  refine cg (hD2) ?_
  repeat' ((conv=>whnf);first|refine af ?_|apply ae|apply oi|(apply fi<;>intro h)|refine⟨_,rfl,?_⟩|exact rfl)
  all_goals try exact⟨KO⟩
  refine cg (hP4) ?_
  repeat' ((conv=>whnf);first|refine af ?_|apply ae|apply oi|(apply fi<;>intro h)|refine⟨_,rfl,?_⟩|exact rfl)
  all_goals try exact⟨KO⟩
 ·have o1:(aB (adv c z)).ok:=aG (c:=adv c z) hc
  have hP1:=cF (adv c z) hc
  have hP2:=cF (aB (adv c z)) o1
  have hP3:=dm (aB (aB (adv c z))) (cK (k - 3) (iA (aB (adv c z))) (iA (adv c z))) (aG o1)
  have hA:=oZ (k - 3) (iA (aB (adv c z))) (iA (adv c z))
  have e:k=5∨k=6∨k=7∨k=8∨k=9:=by omega
  rcases e with rfl|rfl|rfl|rfl|rfl
  all_goals
   repeat' ((conv=>whnf);first|refine af ?_|apply ae|apply oi|(apply fi<;>intro h)|refine⟨_,rfl,?_⟩|exact rfl)
   all_goals try exact⟨KO⟩
   refine cg (hP1) ?_
   repeat' ((conv=>whnf);first|refine af ?_|apply ae|apply oi|(apply fi<;>intro h)|refine⟨_,rfl,?_⟩|exact rfl)
   all_goals try exact⟨KO⟩
   refine cg (hP2) ?_
   repeat' ((conv=>whnf);first|refine af ?_|apply ae|apply oi|(apply fi<;>intro h)|refine cl hA ?_|refine⟨_,rfl,?_⟩|exact rfl)
   all_goals try exact⟨KO⟩
   refine cg (hP3) ?_
   repeat' ((conv=>whnf);first|refine af ?_|apply ae|apply oi|(apply fi<;>intro h)|refine⟨_,rfl,?_⟩|exact rfl)
   all_goals try exact⟨KO⟩
theorem CG (s:HV)(c:CS)(a z:Int)(hc:c.ok)(ho:c.m.fah.length≤2000000):aS Tryz.prog 167 [.r (.agg (s.tr.map .t)),ez,opV ⟨17,a⟩,tI .i64 z] (ly c) (.tup []) (HG (AJ (adv c z))):=by
 refine bb hΓ ay Tryz.func167 rfl (by decide) rfl rfl ?_
 have hP:=cF (adv c z) hc
 have ho2:(aB (adv c z)).m.fah.length≤2000000:=by unfold aB;split <;> exact ho
 repeat' ((conv=>whnf);first|refine cg hP ?_|refine af ?_|refine xG 5 7 ?_|apply oi|(apply fi<;>intro h)|refine⟨_,rfl,?_⟩|exact rfl)
 all_goals try exact⟨KR⟩
 all_goals(refine⟨?_⟩;first|(refine And.intro ?_ ?_ <;> simp only[List.length_map,List.length_append,List.length_cons,List.length_nil] <;> omega)|simp[AJ,aa])
end Go.Proofs.YtjmplnfiabmalaaGreat
namespace Go.Proofs.YtjmplnfiabmalaaGreat
open Go.Sim
set_option maxRecDepth 100000
set_option maxHeartbeats 8000000
theorem aN {p:Prop}[Decidable p](Q:CS→Prop){a b:CS}(ha:Q a)(hb:Q b):Q (if p then a else b):=by split <;> assumption
theorem sV {es:List Int}{c:CS}{x:HR}(h:c.ok):(ca es c x).ok:=by
 unfold ca
 refine aN (CS.ok) (by
  exact dG h) ?_
 refine aN (CS.ok) (by
  exact yp h) ?_
 refine aN (CS.ok) (by
  exact yp h) ?_
 refine aN (CS.ok) (by
  exact vt h) ?_
 refine aN (CS.ok) (by
  exact vt h) ?_
 refine aN (CS.ok) (by
  exact dG (aG (aG h))) ?_
 refine aN (CS.ok) (by
  exact h) ?_
 refine aN (CS.ok) (by
  unfold qK;split
  ·exact aG h
  ·exact aG h) ?_
 refine aN (CS.ok) (by
  unfold qC;split
  ·exact dG h
  ·exact dG h) ?_
 refine aN (CS.ok) (by
  exact pF (dG h)) ?_
 refine aN (CS.ok) (by
  exact pF h) ?_
 refine aN (CS.ok) (by
  exact dG (cS (aG (aG (aG h))))) ?_
 refine aN (CS.ok) (by
  exact dG (cS (aG (cS (aG h))))) ?_
 refine aN (CS.ok) (by
  exact aG h) ?_
 exact h
def MW (m:HQ):Prop:=(∀w∈m.fap,inI w)∧inI m.fao∧inI m.fan
theorem Fa (n:Int):inI (wr n):=by
 have e:wr n=if n % 18446744073709551616≥9223372036854775808 then n % 18446744073709551616 - 18446744073709551616 else n % 18446744073709551616:=by simp[wr,IntKind.wrap,IntKind.bits,IntKind.signed]
 unfold inI
 rw[e]
 split <;> omega
theorem sa:inI 0:=by unfold inI;omega
theorem wg {m:HQ}(h:MW m)(a:Int):inI (eN m a):=by
 unfold eN
 split
 ·rename_i x hx;exact h.1 _ (List.mem_of_getElem? hx)
 ·exact sa
theorem yE {m:HQ}(h:MW m){a v:Int}(hv:inI v):MW (nU m a v):=by
 refine⟨fun w hw=>?_,h.2⟩
 rcases List.mem_or_eq_of_mem_set hw with h1|h1
 ·exact h.1 w h1
 ·rw[h1];exact hv
theorem gp {c:CS}(h:MW c.m){v:Int}(hv:inI v):MW (bS c v).m:=by
 unfold bS
 split
 ·exact h
 ·exact⟨(yE h hv).1,h.2⟩
theorem dV {c:CS}(h:MW c.m):MW (aB c).m:=by
 unfold aB
 split
 ·exact h
 ·exact h
theorem oK {c:CS}(h:MW c.m):inI (iO c):=by
 unfold iO
 split
 ·exact sa
 ·exact wg h _
theorem oD:∀{n:Nat} {c:CS},MW c.m→MW (bn n c).m
 | 0,_,h=>h
 | n+1,_,h=>oD (n:=n) (dV h)
theorem pH:∀{n:Nat} {c:CS},MW c.m→MW (eL n c).m
 | 0,_,h=>h
 | n+1,_,h=>pH (n:=n) (gp h sa)
theorem ym {c:CS}{a:Int}(h:MW c.m):MW (jg c a).m:=by
 unfold jg
 split
 ·exact h
 ·exact gp (c:=⟨c.m,false⟩) h (wg h a)
theorem vU {c:CS}{a:Int}(h:MW c.m):MW (fB c a).m:=by
 have:=dV h
 unfold fB
 split
 ·exact this
 ·exact yE this (oK h)
theorem zM (n:Int):inI (w32 n):=by have:=ig n;unfold inI;omega
theorem Cl (k a b:Int):inI (cK k a b):=by
 unfold cK
 repeat' split
 ·exact zM _
 ·exact zM _
 ·exact zM _
 ·unfold inI;omega
 ·exact sa
theorem GG {c:CS}(h:MW c.m):MW (cFp c).m:=⟨(dV h).1,(dV h).2.1,oK h⟩
theorem Dm {c:CS}(h:MW c.m):MW (cPc c).m:=⟨(dV h).1,oK h,(dV h).2.2⟩
theorem Fl {c:CS}(h:MW c.m):MW (eE c).m:=h
theorem xW {c:CS}(h:MW c.m)(a:Int):MW (mQ c a).m:=⟨h.1,Fa _,h.2.2⟩
theorem zj {c:CS}(h:MW c.m)(hs:inI c.m.fae)(v:Int):inI (bS c v).m.fae:=by
 unfold bS
 split
 ·exact hs
 ·exact Fa _
theorem Ed {es:List Int}{c:CS}{x:HR}(h:MW c.m)(hs:inI c.m.fae)(ha:inI x.faf)(he:∀e∈es,inI e):MW (ca es c x).m:=by
 unfold ca
 refine aN (fun c=>MW c.m) (by
  exact gp h ha) ?_
 refine aN (fun c=>MW c.m) (by
  exact ym h) ?_
 refine aN (fun c=>MW c.m) (by
  exact ym h) ?_
 refine aN (fun c=>MW c.m) (by
  exact vU h) ?_
 refine aN (fun c=>MW c.m) (by
  exact vU h) ?_
 refine aN (fun c=>MW c.m) (by
  exact gp (dV (dV h)) (Cl _ _ _)) ?_
 refine aN (fun c=>MW c.m) (by
  exact xW h _) ?_
 refine aN (fun c=>MW c.m) (by
  unfold qK;split
  ·exact xW (dV h) _
  ·exact dV h) ?_
 refine aN (fun c=>MW c.m) (by
  have hp:=gp h h.2.1
  unfold qC;split
  ·rename_i e hee
   exact⟨hp.1,he _ (List.mem_of_getElem? hee),hp.2.2⟩
  ·exact hp) ?_
 refine aN (fun c=>MW c.m) (by
  have hp:=gp h h.2.2
  exact pH (c:=⟨{(bS c c.m.fan).m with fan:=(bS c c.m.fan).m.fae},(bS c c.m.fan).bad⟩) ⟨hp.1,hp.2.1,zj h hs _⟩) ?_
 refine aN (fun c=>MW c.m) (by
  exact pH h) ?_
 refine aN (fun c=>MW c.m) (by
  exact gp (oD (Dm (GG (Fl (dV h))))) (oK h)) ?_
 refine aN (fun c=>MW c.m) (by
  exact gp (oD (Dm (oD (dV h)))) (oK h)) ?_
 refine aN (fun c=>MW c.m) (by
  exact dV h) ?_
 exact h
theorem dS {c:CS}{v:Int}:(bS c v).m.fah=c.m.fah:=by unfold bS;split <;> rfl
theorem cPop_out' {c:CS}:(aB c).m.fah=c.m.fah:=by unfold aB;split <;> rfl
theorem cDrop_out:∀{n:Nat} {c:CS},(bn n c).m.fah=c.m.fah
 | 0,_=>rfl
 | n+1,c=>by rw[bn,cDrop_out (n:=n),cPop_out']
theorem nk:∀{n:Nat} {c:CS},(eL n c).m.fah=c.m.fah
 | 0,_=>rfl
 | n+1,c=>by rw[eL,nk (n:=n),dS]
theorem ww {c:CS}{a:Int}:(jg c a).m.fah=c.m.fah:=by
 unfold jg
 split
 ·rfl
 ·exact dS
theorem ut {c:CS}{a:Int}:(fB c a).m.fah=c.m.fah:=by
 unfold fB
 split
 ·exact cPop_out'
 ·exact cPop_out'
theorem CJ {es:List Int}{c:CS}{x:HR}:(ca es c x).m.fah.length≤c.m.fah.length+1:=by
 have key:∀l:List Int,l=c.m.fah→l.length≤c.m.fah.length+1:=fun l h=>by rw[h];omega
 unfold ca
 refine aN (fun d=>d.m.fah.length≤c.m.fah.length+1) (by
  exact key _ dS) ?_
 refine aN (fun d=>d.m.fah.length≤c.m.fah.length+1) (by
  exact key _ ww) ?_
 refine aN (fun d=>d.m.fah.length≤c.m.fah.length+1) (by
  exact key _ ww) ?_
 refine aN (fun d=>d.m.fah.length≤c.m.fah.length+1) (by
  exact key _ ut) ?_
 refine aN (fun d=>d.m.fah.length≤c.m.fah.length+1) (by
  exact key _ ut) ?_
 refine aN (fun d=>d.m.fah.length≤c.m.fah.length+1) (by
  exact key _ (by rw[wW,dS,cPop_out',cPop_out'])) ?_
 refine aN (fun d=>d.m.fah.length≤c.m.fah.length+1) (by
  exact key _ rfl) ?_
 refine aN (fun d=>d.m.fah.length≤c.m.fah.length+1) (by
  refine key _ ?_;unfold qK;split
  ·exact cPop_out'
  ·exact cPop_out') ?_
 refine aN (fun d=>d.m.fah.length≤c.m.fah.length+1) (by
  refine key _ ?_;unfold qC;split
  ·exact dS
  ·exact dS) ?_
 refine aN (fun d=>d.m.fah.length≤c.m.fah.length+1) (by
  refine key _ ?_;rw[xa,nk];exact dS) ?_
 refine aN (fun d=>d.m.fah.length≤c.m.fah.length+1) (by
  exact key _ nk) ?_
 refine aN (fun d=>d.m.fah.length≤c.m.fah.length+1) (by
  refine key _ ?_
  rw[wQ,dS,cDrop_out]
  exact cPop_out'.trans (cPop_out'.trans cPop_out')) ?_
 refine aN (fun d=>d.m.fah.length≤c.m.fah.length+1) (by
  refine key _ ?_
  rw[rV,dS,cDrop_out]
  exact cPop_out'.trans (cDrop_out.trans cPop_out')) ?_
 refine aN (fun d=>d.m.fah.length≤c.m.fah.length+1) (by
  show((aB c).m.fah++[iO c]).length≤_
  rw[List.length_append,cPop_out']
  simp) ?_
 omega
def dz (s:HV)(a:Int):Option (HR×Nat):=if(yS s a).1 < 0 then none else match s.faA[(yS s a).1.toNat]? with
 | some im=>aU im.fab (yS s a).2
 | none=>none
def eP (c:CS):Option HQ:=if c.bad=true then none else if c.m.fao=0 then(if bf c.m.fae=true then some {c.m with fai:=1,faz:=eN c.m c.m.fae} else none)else some c.m
def cC (s:HV)(m:HQ):Option HQ:=match dz s m.fao with
 | none=>none
 | some x=>eP (ca s.faq (adv ⟨m,false⟩ x.2) x.1)
def vI (s:HV)(m:HQ):Option HQ:=match dz s m.fao with
 | none=>none
 | some x=>eP (dE s.faq (adv ⟨m,false⟩ x.2) x.1)
theorem nL {s:HV}{a:Int}{x:HR×Nat}(h:dz s a=some x):∃(t:List UInt8) (p:Int),aU t p=some x:=by
 unfold dz at h
 split at h
 ·cases h
 ·split at h
  ·exact⟨_,_,h⟩
  ·cases h
theorem ET {c d:CS}(h:Rel c d):eP c=eP d:=by
 obtain⟨h1,h2⟩:=h
 cases hb:c.bad with
 | true=>rw[eP,eP,if_pos hb,if_pos (h1 ▸ hb)]
 | false=>
  obtain⟨h3,_⟩:=h2 hb
  obtain⟨m,b⟩:=c
  obtain⟨m',b'⟩:=d
  dsimp only at *
  subst h3;subst h1
  rfl
theorem FV {s:HV}{m:HQ}(hsp:0≤m.fae∧m.fae≤1200)(hfp:inI m.fan):cC s m=vI s m:=by
 unfold cC vI
 cases h:dz s m.fao with
 | none=>rfl
 | some x=>
  obtain⟨t,p,hd⟩:=nL h
  obtain⟨x,z⟩:=x
  obtain⟨c0,c1,c2,_⟩:=dT hd
  exact ET (yJ s.faq {m with fao:=wr (m.fao+z)} x hsp hfp c0 c1 c2)
def Cd (m:HQ):HQ:={m with fai:=2}
def mV (m:HQ)(st out:Sim.Id):AV:= .r (.agg [.t (.int .i64 m.fao),.t (.int .i64 m.fae),.t (.int .i64 m.fan),.own st,.own out,.t (.int .i64 m.fai),.t (.int .i64 m.faz)])
theorem pO {i0 i1:HM}{i:Nat}(hi:i < 2)(h0:i0.fab.length≤1000000)(h1:i1.fab.length≤1000000):∃im:HM,[i0,i1][i]?=some im∧([i0.tr,i1.tr]:List (List Tr))[i]?=some im.tr∧im.fab.length≤1000000:=by
 match i,hi with
 | 0,_=>exact⟨i0,rfl,rfl,h0⟩
 | 1,_=>exact⟨i1,rfl,rfl,h1⟩
theorem uQ {i0 i1:HM}{b0 b1 a:Int}(h0:i0.fab.length≤1000000)(h1:i1.fab.length≤1000000):(ep i0 i1 b0 b1 a).2≤1000000:=by
 unfold ep
 split
 ·dsimp only;omega
 ·split <;> dsimp only <;> omega
def HC (m:HQ):Option HQ→AV
 | none=> .r (.agg ((Cd m).tr.map .t))
 | some m'=>mV m' (1,0,0) (1,0,1)
def HE (m:HQ):Option HQ→List (Sim.Id×AO)
 | none=>[]
 | some m'=>[((1,0,0),.arr false 1 (m'.fap.map aa)),((1,0,1),.arr false 1 (m'.fah.map aa))]
theorem oh (s:HV)(m:HQ)(h0:m.fai≠0):aS Tryz.prog 93 [.r (.agg (s.tr.map .t)),.r (.agg (m.tr.map .t))] [] (.r (.agg (m.tr.map .t))) []:=by
 refine bb hΓ ay Tryz.func93 rfl (by decide) rfl rfl ?_
 repeat' ((conv=>whnf);first|refine af ?_|apply ae|apply oi|(apply fi<;>intro h)|refine⟨_,rfl,?_⟩|exact rfl)
 all_goals try exact⟨KO⟩
 all_goals try(exfalso;exact h0 (by simpa using h))
theorem wF (s:HV)(m:HQ)(hok:bp s=true)(hm:m.fap.length=1200)(ho:m.fah.length≤2000000)(h0:m.fai=0)(r:Option HQ)(hr:cC s m=r):aS Tryz.prog 93 [.r (.agg (s.tr.map .t)),.r (.agg (m.tr.map .t))] [] (HC m r) (HE m r):=by
 obtain⟨i0,i1,b0,b1,hsh,⟨e1,e2⟩,⟨g0,p0,p1⟩,⟨g1,q0,q1⟩,_,_⟩:=jj hok
 have l0:=(imageOk_iff.1 g0).1
 have l1:=(imageOk_iff.1 g1).1
 have hL:=mO i0 i1 b0 b1 m.fao s.faq (by omega) (by omega) (by omega) (by omega)
 obtain⟨im,bs,es⟩:=s
 dsimp only at hsh hL e2
 injection hsh with h1 h2
 subst h1
 subst h2
 refine bb hΓ ay Tryz.func93 rfl (by decide) rfl rfl ?_
 have hloc:yS ⟨[i0,i1],[b0,b1],es⟩ m.fao=ep i0 i1 b0 b1 m.fao:=rfl
 rcases nj i0 i1 b0 b1 m.fao with hx|⟨i,off,hi,hx⟩
 ·rw[hx]at hL
  have:r=none:=by rw[←hr,cC,dz,hloc,hx];rfl
  subst this
  repeat' ((conv=>whnf);first|refine af ?_|apply ae|apply oi|(apply fi<;>intro h)|refine cl hL ?_|refine⟨_,rfl,?_⟩|exact rfl)
  all_goals try exact⟨KO⟩
  all_goals try(exfalso;simp[h0]at h;done)
 ·have hoff:=uQ (b0:=b0) (b1:=b1) (a:=m.fao) l0 l1
  rw[hx]at hL hoff
  dsimp only at hoff
  obtain⟨im,hi1,hi2,hil⟩:=pO hi l0 l1
  have hD:=gM im.fab off (by omega) (by omega)
  have hf:dz ⟨[i0,i1],[b0,b1],es⟩ m.fao=aU im.fab off:=by
   rw[dz,hloc,hx]
   dsimp only
   rw[if_neg (by omega),Int.toNat_natCast,hi1]
  cases hd:aU im.fab off with
  | none=>
   rw[hd]at hD hf
   have:r=none:=by rw[←hr,cC,hf]
   subst this
   repeat' ((conv=>whnf);first|refine af ?_|apply ae|apply oi|(apply fi<;>intro h)|refine cl hL ?_|refine⟨i,im.tr,rfl,hi2,?_⟩|refine cl hD ?_|refine⟨_,rfl,?_⟩|exact rfl)
   all_goals try exact⟨KO⟩
   all_goals try(exfalso;simp[h0]at h;done)
   all_goals try(exfalso;have h':=of_decide_eq_true h;omega)
  | some xz=>
   obtain⟨x,z⟩:=xz
   rw[hd]at hD hf
   obtain⟨c0,c1,_,z5⟩:=dT hd
   have hC:=bB m (by omega) ho
   have hr2:eP (ca es (adv ⟨m,false⟩ z) x)=r:=by rw[←hr,cC,hf]
   by_cases h17:x.fab=17
   ·have hxx:x=⟨17,x.faf⟩:=by rw[←h17]
    have hP:=uu ⟨[i0,i1],[b0,b1],es⟩ (adv ⟨m,false⟩ z) x.faf hm ho
    rw[←hxx]at hP
    have hcc:ca es (adv ⟨m,false⟩ z) x=va (adv ⟨m,false⟩ z):=by rw[hxx];simp[ca]
    rw[hcc]at hr2
    have hco:(va (adv ⟨m,false⟩ z)).ok:=aG (c:=adv ⟨m,false⟩ z) hm
    generalize va (adv ⟨m,false⟩ z)=c at *
    have hA:=eR ⟨{c.m with fai:=1},c.bad⟩ c.m.fae
    obtain⟨cm,cb⟩:=c
    unfold cAt at hA
    dsimp only at hA
    cases cb with
    | true=>
     have:r=none:=by rw[←hr2];rfl
     subst this
     repeat' ((conv=>whnf);first|refine cg hP ?_|refine af ?_|apply ae|apply oi|(apply fi<;>intro h)|refine cl hL ?_|refine⟨i,im.tr,rfl,hi2,?_⟩|refine cl hD ?_|refine cl hC ?_|refine⟨_,rfl,?_⟩|exact rfl)
     all_goals try exact⟨KO⟩
     all_goals try(exfalso;simp[h0]at h;done)
     all_goals try(exfalso;have h':=of_decide_eq_true h;omega)
    | false=>
     by_cases hpc:cm.fao=0
     ·cases hin:bf cm.fae with
      | false=>
       rw[hin]at hA
       have:r=none:=by rw[←hr2];simp[eP,hpc,hin]
       subst this
       repeat' ((conv=>whnf);first|refine cg hP ?_|refine cg hA ?_|refine af ?_|apply ae|apply oi|(apply fi<;>intro h)|refine cl hL ?_|refine⟨i,im.tr,rfl,hi2,?_⟩|refine cl hD ?_|refine cl hC ?_|refine⟨_,rfl,?_⟩|exact rfl)
       all_goals try exact⟨KO⟩
       all_goals try(exfalso;simp[h0]at h;done)
       all_goals try(exfalso;simp[hpc]at h;done)
       all_goals try(exfalso;have h':=of_decide_eq_true h;omega)
      | true=>
       rw[hin]at hA
       obtain⟨j,v,hj,hv,hlt,_⟩:=iE hco hin
       have hlen:(cm.fap.map aa).length=cm.fap.length:=by simp
       have hin':bf (j:Int)=true:=hj ▸ hin
       have:r=some {cm with fai:=1,faz:=v}:=by rw[←hr2];simp[eP,hpc,hin',eN,hj,hv]
       subst this
       repeat' ((conv=>whnf);first|refine cg hP ?_|refine cg hA ?_|refine af ?_|apply ae|apply oi|(apply fi<;>intro h)|refine cl hL ?_|refine⟨i,im.tr,rfl,hi2,?_⟩|refine cl hD ?_|refine cl hC ?_|refine⟨_,rfl,?_⟩|exact rfl)
       all_goals try exact⟨KO⟩
       all_goals try(exfalso;simp[h0]at h;done)
       all_goals try(exfalso;simp[hpc]at h;done)
       all_goals try(exfalso;have h':=of_decide_eq_true h;omega)
       conv=>whnf
       refine⟨j,hj,by rw[hlen];exact hlt,?_⟩
       repeat' ((conv=>whnf);first|refine af ?_|apply ae|apply oi|(apply fi<;>intro h)|refine⟨(aa v),ab hv,?_⟩|refine⟨_,rfl,?_⟩|exact rfl)
       all_goals try exact⟨KO⟩
     ·have:r=some cm:=by rw[←hr2];simp[eP,hpc]
      subst this
      repeat' ((conv=>whnf);first|refine cg hP ?_|refine af ?_|apply ae|apply oi|(apply fi<;>intro h)|refine cl hL ?_|refine⟨i,im.tr,rfl,hi2,?_⟩|refine cl hD ?_|refine cl hC ?_|refine⟨_,rfl,?_⟩|exact rfl)
      all_goals try exact⟨KO⟩
      all_goals try(exfalso;simp[h0]at h;done)
      all_goals try(exfalso;simp[hpc]at h;done)
      all_goals try(exfalso;have h':=of_decide_eq_true h;omega)
   ·have hP:=lR ⟨[i0,i1],[b0,b1],es⟩ (adv ⟨m,false⟩ z) x hm h17 c1 (by dsimp only;omega)
    have hco:(ca es (adv ⟨m,false⟩ z) x).ok:=sV hm
    dsimp only at hP
    generalize ca es (adv ⟨m,false⟩ z) x=c at *
    have hA:=eR ⟨{c.m with fai:=1},c.bad⟩ c.m.fae
    obtain⟨cm,cb⟩:=c
    unfold cAt at hA
    dsimp only at hA
    cases cb with
    | true=>
     have:r=none:=by rw[←hr2];rfl
     subst this
     repeat' ((conv=>whnf);first|refine cg hP ?_|refine af ?_|apply ae|apply oi|(apply fi<;>intro h)|refine cl hL ?_|refine⟨i,im.tr,rfl,hi2,?_⟩|refine cl hD ?_|refine cl hC ?_|refine⟨_,rfl,?_⟩|exact rfl)
     all_goals try exact⟨KO⟩
     all_goals try(exfalso;simp[h0]at h;done)
     all_goals try(exfalso;have h':=of_decide_eq_true h;omega)
    | false=>
     by_cases hpc:cm.fao=0
     ·cases hin:bf cm.fae with
      | false=>
       rw[hin]at hA
       have:r=none:=by rw[←hr2];simp[eP,hpc,hin]
       subst this
       repeat' ((conv=>whnf);first|refine cg hP ?_|refine cg hA ?_|refine af ?_|apply ae|apply oi|(apply fi<;>intro h)|refine cl hL ?_|refine⟨i,im.tr,rfl,hi2,?_⟩|refine cl hD ?_|refine cl hC ?_|refine⟨_,rfl,?_⟩|exact rfl)
       all_goals try exact⟨KO⟩
       all_goals try(exfalso;simp[h0]at h;done)
       all_goals try(exfalso;simp[hpc]at h;done)
       all_goals try(exfalso;have h':=of_decide_eq_true h;omega)
      | true=>
       rw[hin]at hA
       obtain⟨j,v,hj,hv,hlt,_⟩:=iE hco hin
       have hlen:(cm.fap.map aa).length=cm.fap.length:=by simp
       have hin':bf (j:Int)=true:=hj ▸ hin
       have:r=some {cm with fai:=1,faz:=v}:=by rw[←hr2];simp[eP,hpc,hin',eN,hj,hv]
       subst this
       repeat' ((conv=>whnf);first|refine cg hP ?_|refine cg hA ?_|refine af ?_|apply ae|apply oi|(apply fi<;>intro h)|refine cl hL ?_|refine⟨i,im.tr,rfl,hi2,?_⟩|refine cl hD ?_|refine cl hC ?_|refine⟨_,rfl,?_⟩|exact rfl)
       all_goals try exact⟨KO⟩
       all_goals try(exfalso;simp[h0]at h;done)
       all_goals try(exfalso;simp[hpc]at h;done)
       all_goals try(exfalso;have h':=of_decide_eq_true h;omega)
       conv=>whnf
       refine⟨j,hj,by rw[hlen];exact hlt,?_⟩
       repeat' ((conv=>whnf);first|refine af ?_|apply ae|apply oi|(apply fi<;>intro h)|refine⟨(aa v),ab hv,?_⟩|refine⟨_,rfl,?_⟩|exact rfl)
       all_goals try exact⟨KO⟩
     ·have:r=some cm:=by rw[←hr2];simp[eP,hpc]
      subst this
      repeat' ((conv=>whnf);first|refine cg hP ?_|refine af ?_|apply ae|apply oi|(apply fi<;>intro h)|refine cl hL ?_|refine⟨i,im.tr,rfl,hi2,?_⟩|refine cl hD ?_|refine cl hC ?_|refine⟨_,rfl,?_⟩|exact rfl)
      all_goals try exact⟨KO⟩
      all_goals try(exfalso;simp[h0]at h;done)
      all_goals try(exfalso;simp[hpc]at h;done)
      all_goals try(exfalso;have h':=of_decide_eq_true h;omega)
theorem ry (i0 i1:HM)(b0 b1 a:Int)(es:List Int)(hb0:0≤b0∧b0≤1000000)(hb1:0≤b1∧b1≤1000000)(l0:i0.fab.length≤1000000)(l1:i1.fab.length≤1000000):Sim.Spec Tryz.prog 128 [.agg (HV.mk [i0,i1] [b0,b1] es).tr,tvI a] (rOp (dz ⟨[i0,i1],[b0,b1],es⟩ a)):=by
 have hL:=jU i0 i1 b0 b1 a es hb0 hb1 (by omega) (by omega)
 refine ao hΓ ay Tryz.func128 rfl (by decide) rfl ?_
 have hloc:yS ⟨[i0,i1],[b0,b1],es⟩ a=ep i0 i1 b0 b1 a:=rfl
 rcases nj i0 i1 b0 b1 a with hx|⟨i,off,hi,hx⟩
 ·rw[hx]at hL
  have hf:dz ⟨[i0,i1],[b0,b1],es⟩ a=none:=by rw[dz,hloc,hx];rfl
  rw[hf]
  repeat' ((conv=>whnf);first|refine Or.inl ?_|apply oi|(apply fi<;>intro h)|refine ci hL (ai (ai rfl (ai rfl (ai rfl trivial))) (ai rfl trivial)) ?_|refine⟨_,rfl,?_⟩|exact rfl)
  all_goals try exact⟨KO⟩
  all_goals try(exfalso;simp at h;done)
 ·have hoff:=uQ (b0:=b0) (b1:=b1) (a:=a) l0 l1
  rw[hx]at hL hoff
  dsimp only at hoff
  obtain⟨im,hi1,hi2,hil⟩:=pO hi l0 l1
  have hD:=kR im.fab off (by omega) (by omega)
  have hf:dz ⟨[i0,i1],[b0,b1],es⟩ a=aU im.fab off:=by
   rw[dz,hloc,hx]
   dsimp only
   rw[if_neg (by omega),Int.toNat_natCast,hi1]
  rw[hf]
  repeat' ((conv=>whnf);first|refine Or.inl ?_|apply oi|(apply fi<;>intro h)|refine ci hL (ai (ai rfl (ai rfl (ai rfl trivial))) (ai rfl trivial)) ?_|refine⟨i,im.tr,rfl,hi2,?_⟩|refine ci hD (ai rfl (ai rfl trivial)) ?_|refine⟨_,rfl,?_⟩|exact rfl)
  all_goals try exact⟨KO⟩
  all_goals try(exfalso;have h':=of_decide_eq_true h;omega)
def iY (m:HQ):Option HQ→HQ
 | none=>Cd m
 | some m'=>m'
theorem Bw {c:CS}{a v:Int}(h:c.ok):(Cg c a v).ok:=by
 unfold Cg CS.ok at *
 split
 ·simpa [nU]using h
 ·exact h
theorem Ea {es:List Int}{c:CS}{x:HR}(h:c.ok):(dE es c x).ok:=by
 unfold dE
 refine aN (CS.ok) (dJ h) ?_
 refine aN (CS.ok) (dJ (Ds h)) ?_
 refine aN (CS.ok) (dJ (Ds h)) ?_
 refine aN (CS.ok) (Bw (aG h)) ?_
 refine aN (CS.ok) (Bw (aG h)) ?_
 refine aN (CS.ok) h ?_
 refine aN (CS.ok) (by unfold za;split <;> exact aG h) ?_
 refine aN (CS.ok) (by
              unfold yo;split;· exact dJ h
              ·exact h) ?_
 refine aN (CS.ok) (pI (dJ h)) ?_
 refine aN (CS.ok) (pI h) ?_
 refine aN (CS.ok) (by
              unfold sM;split;· exact dJ (cS (aG (aG (aG h))))
              ·exact aG h) ?_
 refine aN (CS.ok) (dJ (cS (aG (cS (aG h))))) ?_
 refine aN (CS.ok) (aG h) ?_
 exact dJ (aG (aG h))
theorem tG (s:HV)(m:HQ)(hok:bp s=true)(hm:m.fap.length=1200)(ho:m.fah.length≤2000000):Sim.Spec Tryz.prog 97 [.agg s.tr,.agg m.tr] (.r (.agg ((iY m (vI s m)).tr.map sD))):=by
 obtain⟨i0,i1,b0,b1,hsh,⟨e1,e2⟩,⟨g0,p0,p1⟩,⟨g1,q0,q1⟩,_,_⟩:=jj hok
 have l0:=(imageOk_iff.1 g0).1
 have l1:=(imageOk_iff.1 g1).1
 have hF:=ry i0 i1 b0 b1 m.fao s.faq (by omega) (by omega) l0 l1
 have hC:=lh m (by omega) ho
 obtain⟨im,bs,es⟩:=s
 dsimp only at hsh hF e2
 injection hsh with h1 h2
 subst h1
 subst h2
 refine ao hΓ ay Tryz.func97 rfl (by decide) rfl ?_
 obtain⟨r,hr⟩:∃r,vI ⟨[i0,i1],[b0,b1],es⟩ m=r:=⟨_,rfl⟩
 rw[hr]
 cases hf:dz ⟨[i0,i1],[b0,b1],es⟩ m.fao with
 | none=>
  rw[hf]at hF
  have:r=none:=by rw[←hr,vI,hf]
  subst this
  repeat' ((conv=>whnf);first|refine af ?_|apply ae|apply oi|(apply fi<;>intro h)|refine cl hC ?_|refine cl hF ?_|refine⟨_,rfl,?_⟩|exact rfl)
  all_goals try exact⟨KO⟩
  all_goals exact⟨⟨rfl,bc _⟩⟩
 | some xz=>
  obtain⟨x,z⟩:=xz
  rw[hf]at hF
  obtain⟨t,p,hd⟩:=nL hf
  obtain⟨c0,c1,_,z5⟩:=dT hd
  have hr2:eP (dE es (adv ⟨m,false⟩ z) x)=r:=by rw[←hr,vI,hf]
  by_cases h17:x.fab=17
  ·have hxx:x=⟨17,x.faf⟩:=by rw[←h17]
   have hP:=CG ⟨[i0,i1],[b0,b1],es⟩ ⟨m,false⟩ x.faf z hm ho
   rw[←hxx]at hP
   have hcc:dE es (adv ⟨m,false⟩ z) x=AJ (adv ⟨m,false⟩ z):=by rw[hxx];simp[dE]
   rw[hcc]at hr2
   have hco:(AJ (adv ⟨m,false⟩ z)).ok:=aG (c:=adv ⟨m,false⟩ z) hm
   generalize AJ (adv ⟨m,false⟩ z)=c at *
   have hW:=iG c c.m.fae hco
   obtain⟨cm,cb⟩:=c
   unfold cAt at hW
   dsimp only at hW
   cases cb with
   | true=>
    have:r=none:=by rw[←hr2];rfl
    subst this
    repeat' ((conv=>whnf);first|refine cg hP ?_|refine af ?_|apply ae|apply oi|(apply fi<;>intro h)|refine cl hC ?_|refine cl hF ?_|refine⟨_,rfl,?_⟩|exact rfl)
    all_goals try exact⟨KO⟩
    all_goals exact⟨⟨rfl,bc _⟩⟩
   | false=>
    by_cases hpc:cm.fao=0
    ·cases hin:bf cm.fae with
     | false=>
      rw[hin]at hW
      have:r=none:=by rw[←hr2];simp[eP,hpc,hin]
      subst this
      repeat' ((conv=>whnf);first|refine cg hP ?_|refine cg hW ?_|refine af ?_|apply ae|apply oi|(apply fi<;>intro h)|refine cl hC ?_|refine cl hF ?_|refine⟨_,rfl,?_⟩|exact rfl)
      all_goals try exact⟨KO⟩
      all_goals try(exfalso;simp[hpc]at h;done)
      all_goals exact⟨⟨rfl,bc _⟩⟩
     | true=>
      rw[hin]at hW
      have:r=some {cm with fai:=1,faz:=rF ⟨cm,false⟩ cm.fae}:=by rw[←hr2];simp[eP,hpc,hin,rF]
      subst this
      repeat' ((conv=>whnf);first|refine cg hP ?_|refine cg hW ?_|refine af ?_|apply ae|apply oi|(apply fi<;>intro h)|refine cl hC ?_|refine cl hF ?_|refine⟨_,rfl,?_⟩|exact rfl)
      all_goals try exact⟨KO⟩
      all_goals try(exfalso;simp[hpc]at h;done)
      all_goals exact⟨⟨rfl,bc _⟩⟩
    ·have:r=some cm:=by rw[←hr2];simp[eP,hpc]
     subst this
     repeat' ((conv=>whnf);first|refine cg hP ?_|refine af ?_|apply ae|apply oi|(apply fi<;>intro h)|refine cl hC ?_|refine cl hF ?_|refine⟨_,rfl,?_⟩|exact rfl)
     all_goals try exact⟨KO⟩
     all_goals try(exfalso;simp[hpc]at h;done)
     all_goals exact⟨⟨rfl,bc _⟩⟩
  ·have hP:=vj ⟨[i0,i1],[b0,b1],es⟩ ⟨m,false⟩ x z hm h17 c0 c1 (by dsimp only;omega)
   have hco:(dE es (adv ⟨m,false⟩ z) x).ok:=Ea hm
   dsimp only at hP
   generalize dE es (adv ⟨m,false⟩ z) x=c at *
   have hW:=iG c c.m.fae hco
   obtain⟨cm,cb⟩:=c
   unfold cAt at hW
   dsimp only at hW
   cases cb with
   | true=>
    have:r=none:=by rw[←hr2];rfl
    subst this
    repeat' ((conv=>whnf);first|refine cg hP ?_|refine af ?_|apply ae|apply oi|(apply fi<;>intro h)|refine cl hC ?_|refine cl hF ?_|refine⟨_,rfl,?_⟩|exact rfl)
    all_goals try exact⟨KO⟩
    all_goals exact⟨⟨rfl,bc _⟩⟩
   | false=>
    by_cases hpc:cm.fao=0
    ·cases hin:bf cm.fae with
     | false=>
      rw[hin]at hW
      have:r=none:=by rw[←hr2];simp[eP,hpc,hin]
      subst this
      repeat' ((conv=>whnf);first|refine cg hP ?_|refine cg hW ?_|refine af ?_|apply ae|apply oi|(apply fi<;>intro h)|refine cl hC ?_|refine cl hF ?_|refine⟨_,rfl,?_⟩|exact rfl)
      all_goals try exact⟨KO⟩
      all_goals try(exfalso;simp[hpc]at h;done)
      all_goals exact⟨⟨rfl,bc _⟩⟩
     | true=>
      rw[hin]at hW
      have:r=some {cm with fai:=1,faz:=rF ⟨cm,false⟩ cm.fae}:=by rw[←hr2];simp[eP,hpc,hin,rF]
      subst this
      repeat' ((conv=>whnf);first|refine cg hP ?_|refine cg hW ?_|refine af ?_|apply ae|apply oi|(apply fi<;>intro h)|refine cl hC ?_|refine cl hF ?_|refine⟨_,rfl,?_⟩|exact rfl)
      all_goals try exact⟨KO⟩
      all_goals try(exfalso;simp[hpc]at h;done)
      all_goals exact⟨⟨rfl,bc _⟩⟩
    ·have:r=some cm:=by rw[←hr2];simp[eP,hpc]
     subst this
     repeat' ((conv=>whnf);first|refine cg hP ?_|refine af ?_|apply ae|apply oi|(apply fi<;>intro h)|refine cl hC ?_|refine cl hF ?_|refine⟨_,rfl,?_⟩|exact rfl)
     all_goals try exact⟨KO⟩
     all_goals try(exfalso;simp[hpc]at h;done)
     all_goals exact⟨⟨rfl,bc _⟩⟩
theorem pD {c:CS}{m':HQ}(h:eP c=some m'):m'.fap=c.m.fap∧m'.fah=c.m.fah∧m'.fae=c.m.fae∧m'.fan=c.m.fan∧m'.fao=c.m.fao∧c.bad=false:=by
 unfold eP at h
 split at h
 ·cases h
 ·rename_i hb
  have hb':c.bad=false:=by simpa using hb
  split at h
  ·split at h
   ·injection h with h;subst h;exact⟨rfl,rfl,rfl,rfl,rfl,hb'⟩
   ·cases h
  ·injection h with h;subst h;exact⟨rfl,rfl,rfl,rfl,rfl,hb'⟩
theorem kj {s:HV}{m m':HQ}(h:cC s m=some m'):∃x,dz s m.fao=some x∧eP (ca s.faq (adv ⟨m,false⟩ x.2) x.1)=some m':=by
 unfold cC at h
 split at h
 ·cases h
 ·rename_i x hx;exact⟨x,hx,h⟩
theorem wk {s:HV}{m:HQ}(hm:m.fap.length=1200):∀m',cC s m=some m'→m'.fap.length=1200:=by
 intro m' h
 obtain⟨x,_,h2⟩:=kj h
 rw[(pD h2).1]
 exact sV (c:=adv ⟨m,false⟩ x.2) hm
theorem pw {s:HV}{m:HQ}:∀m',cC s m=some m'→m'.fah.length≤m.fah.length+1:=by
 intro m' h
 obtain⟨x,_,h2⟩:=kj h
 rw[(pD h2).2.1]
 exact CJ (c:=adv ⟨m,false⟩ x.2)
def lD (s:HV)(m:HQ):HQ:=if bp s=true∧ct m=true∧m.fai=0 then iY m (cC s m)else m
theorem machineOk_iffL {m:HQ}:ct m=true↔m.fap.length=1200∧(0≤m.fae∧m.fae≤1200)∧0≤m.fai∧m.fai≤2:=by
 rw[ct,Bool.and_eq_true,Bool.and_eq_true,within_iff,within_iff,beq_iff_eq]
 exact⟨fun h=>⟨h.1.1,h.1.2,h.2⟩,fun h=>⟨⟨h.1,h.2.1⟩,h.2.2⟩⟩
theorem nq {m:HQ}(h:aC 1048576 m.tr):m.fap.length≤2000000∧m.fah.length≤1048576:=by
 simp only[HQ.tr,aC]at h
 have h1:=ce h.2.2.2.1
 have h2:=ce h.2.2.2.2.1
 omega
theorem mU (s:HV)(m:HQ)(hs:aC 1048576 s.tr)(hms:aC 1048576 m.tr):Sim.Spec Tryz.prog 25 [.agg s.tr,.agg m.tr] (.r (.agg ((lD s m).tr.map sD))):=by
 have hS:=iz s hs
 have hM:=jQ m
 obtain⟨k1,k2⟩:=nq hms
 have hC:=bB m k1 (by omega)
 refine ao hΓ ay Tryz.func25 rfl (by decide) rfl ?_
 unfold lD
 cases h1:bp s with
 | false=>
  rw[h1]at hS
  rw[if_neg (by simp)]
  repeat' ((conv=>whnf);first|refine Or.inl ?_|apply oi|(apply fi<;>intro h)|refine ci hS (ai (ai rfl (ai rfl (ai rfl trivial))) trivial) ?_|refine ci hM (ai (ai rfl (ai rfl (ai rfl (ai rfl (ai rfl (ai rfl (ai rfl trivial))))))) trivial) ?_|refine ci hC (ai (ai rfl (ai rfl (ai rfl (ai rfl (ai rfl (ai rfl (ai rfl trivial))))))) trivial) ?_|refine⟨_,rfl,?_⟩|exact rfl)
  all_goals try exact⟨KO⟩
  all_goals try(exfalso;simp at h;done)
 | true=>
  rw[h1]at hS
  cases h2:ct m with
  | false=>
   rw[h2]at hM
   rw[if_neg (by simp)]
   repeat' ((conv=>whnf);first|refine Or.inl ?_|apply oi|(apply fi<;>intro h)|refine ci hS (ai (ai rfl (ai rfl (ai rfl trivial))) trivial) ?_|refine ci hM (ai (ai rfl (ai rfl (ai rfl (ai rfl (ai rfl (ai rfl (ai rfl trivial))))))) trivial) ?_|refine ci hC (ai (ai rfl (ai rfl (ai rfl (ai rfl (ai rfl (ai rfl (ai rfl trivial))))))) trivial) ?_|refine⟨_,rfl,?_⟩|exact rfl)
   all_goals try exact⟨KO⟩
   all_goals try(exfalso;simp at h;done)
  | true=>
   rw[h2]at hM
   obtain⟨m1,m2,m3⟩:=machineOk_iffL.1 h2
   by_cases h0:m.fai=0
   ·have hT:=wF s m h1 m1 (by omega) h0 _ rfl
    have hlen:=wk (s:=s) (m:=m) m1
    have hout:=pw (s:=s) (m:=m)
    rw[if_pos ⟨rfl,rfl,h0⟩]
    cases hr:cC s m with
    | none=>
     rw[hr]at hT
     have hB:=bB (Cd m) k1 (by have:(Cd m).fah=m.fah:=rfl;rw[this];omega)
     repeat' ((conv=>whnf);first|refine cg hT ?_|refine af ?_|apply ae|apply oi|(apply fi<;>intro h)|refine cl hS ?_|refine cl hM ?_|refine cl hB ?_|refine⟨_,rfl,?_⟩|exact rfl)
     all_goals try exact⟨KO⟩
    | some m'=>
     rw[hr]at hT hlen hout
     have hB:=bB m' (by have:=hlen m' rfl;omega) (by have:=hout m' rfl;omega)
     repeat' ((conv=>whnf);first|refine cg hT ?_|refine af ?_|apply ae|apply oi|(apply fi<;>intro h)|refine cl hS ?_|refine cl hM ?_|refine cl hB ?_|refine⟨_,rfl,?_⟩|exact rfl)
     all_goals try exact⟨KO⟩
   ·rw[if_neg (by simp[h0])]
    have hT:=oh s m h0
    repeat' ((conv=>whnf);first|refine cg hT ?_|refine af ?_|apply ae|apply oi|(apply fi<;>intro h)|refine cl hS ?_|refine cl hM ?_|refine cl hC ?_|refine⟨_,rfl,?_⟩|exact rfl)
    all_goals try exact⟨KO⟩
def dU (s:HV):Nat→HQ→HQ×Nat
 | 0,m=>(m,0)
 | k+1,m=>if m.fai=0 then((dU s k (iY m (cC s m))).1,(dU s k (iY m (cC s m))).2+1)else(m,0)
def br (s:HV)(m:HQ)(l:Int):HQ×Nat:=if bp s=true∧ct m=true∧ah l 0 20000=true then dU s l.toNat m else(m,0)
structure MInv (m:HQ) (n:Nat):Prop where
 len:m.fap.length=1200
 sp:0≤m.fae∧m.fae≤1200
 w:MW m
 out:m.fah.length≤1048576+n
theorem Co {c:Int}{m:Nat}(h:aT c=(4,true))(hm:m < 4294967296):inI (iV c m):=by
 unfold inI
 by_cases hb:2 ^ (8 * 4 - 1)≤m
 ·have e:iV c m=(m:Int) - 2 ^ (8 * 4):=nQ (n:=4) (by rw[h];rfl) (by rw[h]) hb
  rw[e]
  omega
 ·have e:iV c m=(m:Int):=mm (n:=4) (by rw[h];rfl) (fun hh=>hb hh.2)
  rw[e]
  omega
theorem vl {s:List UInt8}{p:Int}{x:HR}{z:Nat}(h:aU s p=some (x,z)):inI x.faf:=by
 obtain⟨h0,h1,h2,_⟩:=dT h
 by_cases c1:12≤x.fab∧x.fab≤16
 ·have:=h1 c1.1 c1.2;unfold inI;omega
 by_cases c2:1≤x.fab∧x.fab≤11
 ·have:=h2 c2.1 c2.2;unfold inI;omega
 have c3:x.fab=0∨x.fab=17:=by omega
 unfold aU at h
 split at h
 ·split at h
  ·cases h
  ·injection h with h
   injection h with h3 h4
   subst h3
   dsimp only at c3 ⊢
   rcases c3 with c3|c3
   ·rw[c3]
    have hl:=dZ s (p.toNat+1) 4
    exact Co (by decide) (by
                    have:(256:Nat) ^ 4=4294967296:=by decide
                    show aQ s (p.toNat+1) 4 < 4294967296
                    omega)
   ·rw[c3]
    have hl:=dZ s (p.toNat+1) 0
    have hl:aQ s (p.toNat+1) 0 < 1:=hl
    have e2:iV 17 (aQ s (p.toNat+1) 0)=((aQ s (p.toNat+1) 0:Nat):Int):=mm (n:=0) (by decide) (fun hh=>absurd hh.1 (by decide))
    show inI (iV 17 (aQ s (p.toNat+1) 0))
    rw[e2]
    unfold inI
    omega
 ·cases h
theorem MInv.step {s:HV}{m:HQ}{n:Nat}(h:MInv m n)(he:∀e∈s.faq,inI e):MInv (iY m (cC s m)) (n+1):=by
 obtain⟨h1,h2,h3,h4⟩:=h
 cases hr:cC s m with
 | none=>exact⟨h1,h2,h3,by show m.fah.length≤_;omega⟩
 | some m'=>
  obtain⟨x,hf,hx⟩:=kj hr
  obtain⟨t,p,hd⟩:=nL hf
  obtain⟨x,z⟩:=x
  obtain⟨c0,c1,c2,_⟩:=dT hd
  have ha:=vl hd
  obtain⟨e1,e2,e3,e4,e5,e6⟩:=pD hx
  have hrel:=yJ s.faq {m with fao:=wr (m.fao+z)} x h2 h3.2.2 c0 c1 c2
  have hsp:=(hrel.2 e6).2
  have hin:MW (ca s.faq (adv ⟨m,false⟩ z) x).m:=Ed (c:=adv ⟨m,false⟩ z) ⟨h3.1,Fa _,h3.2.2⟩ (by show inI m.fae;unfold inI;omega) ha he
  refine⟨wk h1 m' hr,?_,?_,?_⟩
  ·show 0≤m'.fae∧m'.fae≤1200
   rw[e3];exact hsp
  ·show MW m'
   refine⟨?_,?_,?_⟩
   ·rw[e1];exact hin.1
   ·rw[e5];exact hin.2.1
   ·rw[e4];exact hin.2.2
  ·have:=pw m' hr
   show m'.fah.length≤_
   omega
def HF (m:HQ):Option HQ→AV
 | none=>mV (Cd m) (0,0,0) (0,0,1)
 | some m'=>mV m' (1,0,0) (1,0,1)
def HD (m:HQ):Option HQ→List (Sim.Id×AO)
 | none=>[((0,0,0),.arr false 1 (m.fap.map aa)),((0,0,1),.arr false 1 (m.fah.map aa))]
 | some m'=>([((0,0,0),.arr false 1 (m.fap.map aa)),((0,0,1),.arr false 1 (m.fah.map aa))]++[((1,0,0),.arr false 1 (m'.fap.map aa)),((1,0,1),.arr false 1 (m'.fah.map aa))])
theorem xw (s:HV)(m:HQ)(hok:bp s=true)(hm:m.fap.length=1200)(ho:m.fah.length≤2000000)(h0:m.fai=0)(r:Option HQ)(hr:cC s m=r):aS Tryz.prog 93 [.r (.agg (s.tr.map .t)),mV m (0,0,0) (0,0,1)] [((0,0,0),.arr false 1 (m.fap.map aa)),((0,0,1),.arr false 1 (m.fah.map aa))] (HF m r) (HD m r):=by
 obtain⟨i0,i1,b0,b1,hsh,⟨e1,e2⟩,⟨g0,p0,p1⟩,⟨g1,q0,q1⟩,_,_⟩:=jj hok
 have l0:=(imageOk_iff.1 g0).1
 have l1:=(imageOk_iff.1 g1).1
 have hL:=mO i0 i1 b0 b1 m.fao s.faq (by omega) (by omega) (by omega) (by omega)
 obtain⟨im,bs,es⟩:=s
 dsimp only at hsh hL e2
 injection hsh with h1 h2
 subst h1
 subst h2
 refine bb hΓ ay Tryz.func93 rfl (by decide) rfl rfl ?_
 have hloc:yS ⟨[i0,i1],[b0,b1],es⟩ m.fao=ep i0 i1 b0 b1 m.fao:=rfl
 rcases nj i0 i1 b0 b1 m.fao with hx|⟨i,off,hi,hx⟩
 ·rw[hx]at hL
  have:r=none:=by rw[←hr,cC,dz,hloc,hx];rfl
  subst this
  repeat' ((conv=>whnf);first|refine af ?_|apply ae|apply oi|(apply fi<;>intro h)|refine cl hL ?_|refine⟨_,rfl,?_⟩|exact rfl)
  all_goals try exact⟨KO⟩
  all_goals try(exfalso;simp[h0]at h;done)
 ·have hoff:=uQ (b0:=b0) (b1:=b1) (a:=m.fao) l0 l1
  rw[hx]at hL hoff
  dsimp only at hoff
  obtain⟨im,hi1,hi2,hil⟩:=pO hi l0 l1
  have hD:=gM im.fab off (by omega) (by omega)
  have hf:dz ⟨[i0,i1],[b0,b1],es⟩ m.fao=aU im.fab off:=by
   rw[dz,hloc,hx]
   dsimp only
   rw[if_neg (by omega),Int.toNat_natCast,hi1]
  cases hd:aU im.fab off with
  | none=>
   rw[hd]at hD hf
   have:r=none:=by rw[←hr,cC,hf]
   subst this
   repeat' ((conv=>whnf);first|refine af ?_|apply ae|apply oi|(apply fi<;>intro h)|refine cl hL ?_|refine⟨i,im.tr,rfl,hi2,?_⟩|refine cl hD ?_|refine⟨_,rfl,?_⟩|exact rfl)
   all_goals try exact⟨KO⟩
   all_goals try(exfalso;simp[h0]at h;done)
   all_goals try(exfalso;have h':=of_decide_eq_true h;omega)
  | some xz=>
   obtain⟨x,z⟩:=xz
   rw[hd]at hD hf
   obtain⟨c0,c1,_,z5⟩:=dT hd
   have hC:=bB m (by omega) ho
   have hr2:eP (ca es (adv ⟨m,false⟩ z) x)=r:=by rw[←hr,cC,hf]
   by_cases h17:x.fab=17
   ·have hxx:x=⟨17,x.faf⟩:=by rw[←h17]
    have hP:=uu ⟨[i0,i1],[b0,b1],es⟩ (adv ⟨m,false⟩ z) x.faf hm ho
    rw[←hxx]at hP
    have hcc:ca es (adv ⟨m,false⟩ z) x=va (adv ⟨m,false⟩ z):=by rw[hxx];simp[ca]
    rw[hcc]at hr2
    have hco:(va (adv ⟨m,false⟩ z)).ok:=aG (c:=adv ⟨m,false⟩ z) hm
    generalize va (adv ⟨m,false⟩ z)=c at *
    have hA:=eR ⟨{c.m with fai:=1},c.bad⟩ c.m.fae
    obtain⟨cm,cb⟩:=c
    unfold cAt at hA
    dsimp only at hA
    cases cb with
    | true=>
     have:r=none:=by rw[←hr2];rfl
     subst this
     repeat' ((conv=>whnf);first|refine cg hP ?_|refine af ?_|apply ae|apply oi|(apply fi<;>intro h)|refine cl hL ?_|refine⟨i,im.tr,rfl,hi2,?_⟩|refine cl hD ?_|refine cl hC ?_|refine⟨_,rfl,?_⟩|exact rfl)
     all_goals try exact⟨KO⟩
     all_goals try(exfalso;simp[h0]at h;done)
     all_goals try(exfalso;have h':=of_decide_eq_true h;omega)
    | false=>
     by_cases hpc:cm.fao=0
     ·cases hin:bf cm.fae with
      | false=>
       rw[hin]at hA
       have:r=none:=by rw[←hr2];simp[eP,hpc,hin]
       subst this
       repeat' ((conv=>whnf);first|refine cg hP ?_|refine cg hA ?_|refine af ?_|apply ae|apply oi|(apply fi<;>intro h)|refine cl hL ?_|refine⟨i,im.tr,rfl,hi2,?_⟩|refine cl hD ?_|refine cl hC ?_|refine⟨_,rfl,?_⟩|exact rfl)
       all_goals try exact⟨KO⟩
       all_goals try(exfalso;simp[h0]at h;done)
       all_goals try(exfalso;simp[hpc]at h;done)
       all_goals try(exfalso;have h':=of_decide_eq_true h;omega)
      | true=>
       rw[hin]at hA
       obtain⟨j,v,hj,hv,hlt,_⟩:=iE hco hin
       have hlen:(cm.fap.map aa).length=cm.fap.length:=by simp
       have hin':bf (j:Int)=true:=hj ▸ hin
       have:r=some {cm with fai:=1,faz:=v}:=by rw[←hr2];simp[eP,hpc,hin',eN,hj,hv]
       subst this
       repeat' ((conv=>whnf);first|refine cg hP ?_|refine cg hA ?_|refine af ?_|apply ae|apply oi|(apply fi<;>intro h)|refine cl hL ?_|refine⟨i,im.tr,rfl,hi2,?_⟩|refine cl hD ?_|refine cl hC ?_|refine⟨_,rfl,?_⟩|exact rfl)
       all_goals try exact⟨KO⟩
       all_goals try(exfalso;simp[h0]at h;done)
       all_goals try(exfalso;simp[hpc]at h;done)
       all_goals try(exfalso;have h':=of_decide_eq_true h;omega)
       conv=>whnf
       refine⟨j,hj,by rw[hlen];exact hlt,?_⟩
       repeat' ((conv=>whnf);first|refine af ?_|apply ae|apply oi|(apply fi<;>intro h)|refine⟨(aa v),ab hv,?_⟩|refine⟨_,rfl,?_⟩|exact rfl)
       all_goals try exact⟨KO⟩
     ·have:r=some cm:=by rw[←hr2];simp[eP,hpc]
      subst this
      repeat' ((conv=>whnf);first|refine cg hP ?_|refine af ?_|apply ae|apply oi|(apply fi<;>intro h)|refine cl hL ?_|refine⟨i,im.tr,rfl,hi2,?_⟩|refine cl hD ?_|refine cl hC ?_|refine⟨_,rfl,?_⟩|exact rfl)
      all_goals try exact⟨KO⟩
      all_goals try(exfalso;simp[h0]at h;done)
      all_goals try(exfalso;simp[hpc]at h;done)
      all_goals try(exfalso;have h':=of_decide_eq_true h;omega)
   ·have hP:=lR ⟨[i0,i1],[b0,b1],es⟩ (adv ⟨m,false⟩ z) x hm h17 c1 (by dsimp only;omega)
    have hco:(ca es (adv ⟨m,false⟩ z) x).ok:=sV hm
    dsimp only at hP
    generalize ca es (adv ⟨m,false⟩ z) x=c at *
    have hA:=eR ⟨{c.m with fai:=1},c.bad⟩ c.m.fae
    obtain⟨cm,cb⟩:=c
    unfold cAt at hA
    dsimp only at hA
    cases cb with
    | true=>
     have:r=none:=by rw[←hr2];rfl
     subst this
     repeat' ((conv=>whnf);first|refine cg hP ?_|refine af ?_|apply ae|apply oi|(apply fi<;>intro h)|refine cl hL ?_|refine⟨i,im.tr,rfl,hi2,?_⟩|refine cl hD ?_|refine cl hC ?_|refine⟨_,rfl,?_⟩|exact rfl)
     all_goals try exact⟨KO⟩
     all_goals try(exfalso;simp[h0]at h;done)
     all_goals try(exfalso;have h':=of_decide_eq_true h;omega)
    | false=>
     by_cases hpc:cm.fao=0
     ·cases hin:bf cm.fae with
      | false=>
       rw[hin]at hA
       have:r=none:=by rw[←hr2];simp[eP,hpc,hin]
       subst this
       repeat' ((conv=>whnf);first|refine cg hP ?_|refine cg hA ?_|refine af ?_|apply ae|apply oi|(apply fi<;>intro h)|refine cl hL ?_|refine⟨i,im.tr,rfl,hi2,?_⟩|refine cl hD ?_|refine cl hC ?_|refine⟨_,rfl,?_⟩|exact rfl)
       all_goals try exact⟨KO⟩
       all_goals try(exfalso;simp[h0]at h;done)
       all_goals try(exfalso;simp[hpc]at h;done)
       all_goals try(exfalso;have h':=of_decide_eq_true h;omega)
      | true=>
       rw[hin]at hA
       obtain⟨j,v,hj,hv,hlt,_⟩:=iE hco hin
       have hlen:(cm.fap.map aa).length=cm.fap.length:=by simp
       have hin':bf (j:Int)=true:=hj ▸ hin
       have:r=some {cm with fai:=1,faz:=v}:=by rw[←hr2];simp[eP,hpc,hin',eN,hj,hv]
       subst this
       repeat' ((conv=>whnf);first|refine cg hP ?_|refine cg hA ?_|refine af ?_|apply ae|apply oi|(apply fi<;>intro h)|refine cl hL ?_|refine⟨i,im.tr,rfl,hi2,?_⟩|refine cl hD ?_|refine cl hC ?_|refine⟨_,rfl,?_⟩|exact rfl)
       all_goals try exact⟨KO⟩
       all_goals try(exfalso;simp[h0]at h;done)
       all_goals try(exfalso;simp[hpc]at h;done)
       all_goals try(exfalso;have h':=of_decide_eq_true h;omega)
       conv=>whnf
       refine⟨j,hj,by rw[hlen];exact hlt,?_⟩
       repeat' ((conv=>whnf);first|refine af ?_|apply ae|apply oi|(apply fi<;>intro h)|refine⟨(aa v),ab hv,?_⟩|refine⟨_,rfl,?_⟩|exact rfl)
       all_goals try exact⟨KO⟩
     ·have:r=some cm:=by rw[←hr2];simp[eP,hpc]
      subst this
      repeat' ((conv=>whnf);first|refine cg hP ?_|refine af ?_|apply ae|apply oi|(apply fi<;>intro h)|refine cl hL ?_|refine⟨i,im.tr,rfl,hi2,?_⟩|refine cl hD ?_|refine cl hC ?_|refine⟨_,rfl,?_⟩|exact rfl)
      all_goals try exact⟨KO⟩
      all_goals try(exfalso;simp[h0]at h;done)
      all_goals try(exfalso;simp[hpc]at h;done)
      all_goals try(exfalso;have h':=of_decide_eq_true h;omega)
theorem dY {s:HV}{k:Nat}{m:HQ}(h:m.fai≠0∨k=0):dU s k m=(m,0):=by
 cases k with
 | zero=>rfl
 | succ k=>rw[dU,if_neg (by
                  rcases h with h|h;· exact h
                  ·cases h)]
theorem ko {s:HV}{k:Nat}{m:HQ}(h:m.fai=0):dU s (k+1) m=((dU s k (iY m (cC s m))).1,(dU s k (iY m (cC s m))).2+1):=by rw[dU,if_pos h]
abbrev Hm:AO:= .box [.t (.int .i64 0),.t (.int .i64 0),.t (.int .i64 0),.nils 0,.nils 0,.t (.int .i64 0),.t (.int .i64 0)]
abbrev Hx (s:HV):AO:= .box (s.tr.map .t)
theorem fm (s:HV)(m:HQ)(l:Int)(hs:aC 1048576 s.tr)(hms:aC 1048576 m.tr)(hw:MW m)(hsw:∀e∈s.faq,inI e):Sim.Spec Tryz.prog 24 [.agg s.tr,.agg m.tr,tvI l] (.tup [.agg ((br s m l).1.tr.map sD),.c (.t (.int .i64 ((br s m l).2:Int)))]):=by
 have hS:=iz s hs
 have hM:=jQ m
 have hB:=bm l 0 20000
 obtain⟨k1,k2⟩:=nq hms
 have hC:=bB m k1 (by omega)
 refine ao hΓ ay Tryz.func24 rfl (by decide) rfl ?_
 unfold br
 cases a1:bp s with
 | false=>
  rw[a1]at hS
  rw[if_neg (by simp)]
  repeat' ((conv=>whnf);first|refine af ?_|apply ae|apply oi|(apply fi<;>intro h)|refine cl hC ?_|refine cl hS ?_|refine cl hM ?_|refine cl hB ?_|refine⟨_,rfl,?_⟩|exact rfl)
  all_goals try exact⟨KO⟩
  all_goals try(exfalso;simp at h;done)
  all_goals exact⟨⟨rfl,bc _⟩⟩
 | true=>
  rw[a1]at hS
  cases a2:ct m with
  | false=>
   rw[a2]at hM
   rw[if_neg (by simp)]
   repeat' ((conv=>whnf);first|refine af ?_|apply ae|apply oi|(apply fi<;>intro h)|refine cl hC ?_|refine cl hS ?_|refine cl hM ?_|refine cl hB ?_|refine⟨_,rfl,?_⟩|exact rfl)
   all_goals try exact⟨KO⟩
   all_goals try(exfalso;simp at h;done)
   all_goals exact⟨⟨rfl,bc _⟩⟩
  | true=>
   rw[a2]at hM
   cases a3:ah l 0 20000 with
   | false=>
    rw[a3]at hB
    rw[if_neg (by simp)]
    repeat' ((conv=>whnf);first|refine af ?_|apply ae|apply oi|(apply fi<;>intro h)|refine cl hC ?_|refine cl hS ?_|refine cl hM ?_|refine cl hB ?_|refine⟨_,rfl,?_⟩|exact rfl)
    all_goals try exact⟨KO⟩
    all_goals try(exfalso;simp at h;done)
    all_goals exact⟨⟨rfl,bc _⟩⟩
   | true=>
    rw[a3]at hB
    rw[if_pos ⟨rfl,rfl,rfl⟩]
    have hl:=within_iff.1 a3
    obtain⟨L,rfl⟩:=Int.eq_ofNat_of_zero_le hl.1
    obtain⟨m1,m2,m3⟩:=machineOk_iffL.1 a2
    have hinv:MInv m 0:=⟨m1,m2,hw,by omega⟩
    have hen:∀e∈s.faq,inI e:=hsw
    rw[Int.toNat_natCast]
    obtain⟨R,hR⟩:∃R,dU s L m=R:=⟨_,rfl⟩
    rw[hR]
    repeat' ((conv=>whnf);first|refine af ?_|apply ae|apply oi|(apply fi<;>intro h)|refine cl hC ?_|refine cl hS ?_|refine cl hM ?_|refine cl hB ?_|refine⟨_,rfl,?_⟩|exact rfl)
    all_goals try exact⟨KO⟩
    all_goals try(exfalso;simp at h;done)
    conv=>whnf
    refine⟨{q:Nat×HQ // q.1≤L∧MInv q.2 q.1∧(dU s (L - q.1) q.2).1=R.1∧(dU s (L - q.1) q.2).2+q.1=R.2},fun q=>⟨[(2,tI .i64 (L:Int)),(3,.r (.c (.ptr (3,0,0) 0))),(6,.r (.c (.ptr (6,0,0) 0))),(7,tI .i64 0),(8,.r (.c (.ptr (8,0,0) 0))),(9,tI .i64 (q.1.1:Int))],
     [((3,0,0),some (Hx s)),((6,0,0),some Hm),((8,0,0),some (FD q.1.2 (11,0,3) (11,0,4))),((11,0,3),some (.arr false 1 (q.1.2.fap.map aa))),((11,0,4),some (.arr false 1 (q.1.2.fah.map aa)))],[3,6,8,11]⟩,fun q=>L - q.1.1,⟨(0,m),by omega,hinv,by simp[hR],by simp[hR]⟩,?_,?_⟩
    ·skip
     repeat' ((conv=>whnf);first|refine af ?_|apply ae|apply oi|(apply fi<;>intro h)|refine⟨_,rfl,?_⟩|exact rfl)
     all_goals try exact⟨KO⟩
    intro⟨⟨n,d⟩,q1,q2,q3,q4⟩
    dsimp only at q1 q2 q3 q4 ⊢
    by_cases hgo:d.fai=0∧n < L
    ·obtain⟨g1,g2⟩:=hgo
     obtain⟨j,hj⟩:∃j,L - n=j+1:=⟨L - n - 1,by omega⟩
     rw[hj,ko g1]at q3 q4
     dsimp only at q3 q4
     have hnx:=q2.step hen
     have hT:=xw s d a1 q2.len (by have:=q2.out;omega) g1 _ rfl
     cases hr:cC s d with
     | none=>
      rw[hr]at hT hnx q3 q4
      repeat' ((conv=>whnf);first|refine cg hT ?_|refine af ?_|apply ae|apply oi|(apply fi<;>intro h)|refine⟨_,rfl,?_⟩|exact rfl)
      all_goals try exact⟨KO⟩
      all_goals try(exfalso;simp[g1]at h;done)
      all_goals try(exfalso;have h':=of_decide_eq_false h;omega)
      conv=>whnf
      refine⟨⟨(n+1,Cd d),by dsimp only;omega,hnx,by rw[show L - (n+1)=j by omega];exact q3,by rw[show L - (n+1)=j by omega];dsimp only[iY]at q4 ⊢;omega⟩,?_,KD⟩
      repeat' ((conv=>whnf);first|refine af ?_|apply ae|apply oi|(apply fi<;>intro h)|refine⟨_,rfl,?_⟩|exact rfl)
      all_goals try exact⟨KO⟩
      all_goals try(refine⟨congrArg (Tr.int _) ?_⟩;dsimp only;rw[IntWalk.i64_in _ (by omega)];omega)
     | some d'=>
      rw[hr]at hT hnx q3 q4
      repeat' ((conv=>whnf);first|refine cg hT ?_|refine af ?_|apply ae|apply oi|(apply fi<;>intro h)|refine⟨_,rfl,?_⟩|exact rfl)
      all_goals try exact⟨KO⟩
      all_goals try(exfalso;simp[g1]at h;done)
      all_goals try(exfalso;have h':=of_decide_eq_false h;omega)
      conv=>whnf
      refine⟨⟨(n+1,d'),by dsimp only;omega,hnx,by rw[show L - (n+1)=j by omega];exact q3,by rw[show L - (n+1)=j by omega];dsimp only[iY]at q4 ⊢;omega⟩,?_,KD⟩
      repeat' ((conv=>whnf);first|refine af ?_|apply ae|apply oi|(apply fi<;>intro h)|refine⟨_,rfl,?_⟩|exact rfl)
      all_goals try exact⟨KO⟩
      all_goals try(refine⟨congrArg (Tr.int _) ?_⟩;dsimp only;rw[IntWalk.i64_in _ (by omega)];omega)
    ·have hst:dU s (L - n) d=(d,0):=dY (by
                                by_cases h0:d.fai=0;· exact .inr (by have:=fun h=>hgo ⟨h0,h⟩;omega)
                                ·exact .inl h0)
     rw[hst]at q3 q4
     dsimp only at q3 q4
     have hD:=bB d (by have:=q2.len;omega) (by have:=q2.out;omega)
     obtain⟨R1,R2⟩:=R
     dsimp only at q3 q4
     subst q3;subst q4
     repeat' ((conv=>whnf);first|refine af ?_|apply ae|apply oi|(apply fi<;>intro h)|refine cl hD ?_|refine⟨_,rfl,?_⟩|exact rfl)
     all_goals try exact⟨KO⟩
     all_goals try(exfalso;apply hgo;refine⟨by simpa using ‹(d.fai==0)=true›,?_⟩;have h':=of_decide_eq_true ‹decide ((n:Int) < (L:Int))=true›;omega)
     all_goals exact⟨congrArg (Tr.int _) (by dsimp only;omega)⟩
theorem oW (s:HV)(m:HQ)(l:Int)(hs:aC 1048576 s.tr)(hms:aC 1048576 m.tr)(hw:MW m)(hsw:∀e∈s.faq,inI e):Sim.Spec Tryz.prog 26 [.agg s.tr,.agg m.tr,tvI l] (.tup [.agg ((br s m l).1.tr.map sD),.c (.t (.int .i64 ((br s m l).2:Int)))]):=by
 have hS:=kY s hs
 have hM:=pY m
 have hB:=aH l 0 20000
 obtain⟨k1,k2⟩:=nq hms
 have hC:=lh m k1 (by omega)
 refine ao hΓ ay Tryz.func26 rfl (by decide) rfl ?_
 unfold br
 cases a1:bp s with
 | false=>
  rw[a1]at hS
  rw[if_neg (by simp)]
  repeat' ((conv=>whnf);first|refine af ?_|apply ae|apply oi|(apply fi<;>intro h)|refine cl hC ?_|refine cl hS ?_|refine cl hM ?_|refine cl hB ?_|refine⟨_,rfl,?_⟩|exact rfl)
  all_goals try exact⟨KO⟩
  all_goals try(exfalso;simp at h;done)
  all_goals exact⟨⟨rfl,bc _⟩⟩
 | true=>
  rw[a1]at hS
  cases a2:ct m with
  | false=>
   rw[a2]at hM
   rw[if_neg (by simp)]
   repeat' ((conv=>whnf);first|refine af ?_|apply ae|apply oi|(apply fi<;>intro h)|refine cl hC ?_|refine cl hS ?_|refine cl hM ?_|refine cl hB ?_|refine⟨_,rfl,?_⟩|exact rfl)
   all_goals try exact⟨KO⟩
   all_goals try(exfalso;simp at h;done)
   all_goals exact⟨⟨rfl,bc _⟩⟩
  | true=>
   rw[a2]at hM
   cases a3:ah l 0 20000 with
   | false=>
    rw[a3]at hB
    rw[if_neg (by simp)]
    repeat' ((conv=>whnf);first|refine af ?_|apply ae|apply oi|(apply fi<;>intro h)|refine cl hC ?_|refine cl hS ?_|refine cl hM ?_|refine cl hB ?_|refine⟨_,rfl,?_⟩|exact rfl)
    all_goals try exact⟨KO⟩
    all_goals try(exfalso;simp at h;done)
    all_goals exact⟨⟨rfl,bc _⟩⟩
   | true=>
    rw[a3]at hB
    rw[if_pos ⟨rfl,rfl,rfl⟩]
    have hl:=within_iff.1 a3
    obtain⟨L,rfl⟩:=Int.eq_ofNat_of_zero_le hl.1
    obtain⟨m1,m2,m3⟩:=machineOk_iffL.1 a2
    have hinv:MInv m 0:=⟨m1,m2,hw,by omega⟩
    have hen:∀e∈s.faq,inI e:=hsw
    rw[Int.toNat_natCast]
    obtain⟨R,hR⟩:∃R,dU s L m=R:=⟨_,rfl⟩
    rw[hR]
    repeat' ((conv=>whnf);first|refine af ?_|apply ae|apply oi|(apply fi<;>intro h)|refine cl hC ?_|refine cl hS ?_|refine cl hM ?_|refine cl hB ?_|refine⟨_,rfl,?_⟩|exact rfl)
    all_goals try exact⟨KO⟩
    all_goals try(exfalso;simp at h;done)
    conv=>whnf
    refine⟨{q:Nat×HQ // q.1≤L∧MInv q.2 q.1∧(dU s (L - q.1) q.2).1=R.1∧(dU s (L - q.1) q.2).2+q.1=R.2},fun q=>⟨[(2,tI .i64 (L:Int)),(3,.r (.c (.ptr (3,0,0) 0))),(6,.r (.c (.ptr (6,0,0) 0))),(7,tI .i64 0),(8,.r (.c (.ptr (8,0,0) 0))),(9,tI .i64 (q.1.1:Int))],
     [((3,0,0),some (Hx s)),((6,0,0),some Hm),((8,0,0),some (FD q.1.2 (11,0,3) (11,0,4))),((11,0,3),some (.arr false 1 (q.1.2.fap.map aa))),((11,0,4),some (.arr false 1 (q.1.2.fah.map aa)))],[3,6,8,11]⟩,fun q=>L - q.1.1,⟨(0,m),by omega,hinv,by simp[hR],by simp[hR]⟩,?_,?_⟩
    ·skip
     repeat' ((conv=>whnf);first|refine af ?_|apply ae|apply oi|(apply fi<;>intro h)|refine⟨_,rfl,?_⟩|exact rfl)
     all_goals try exact⟨KO⟩
    intro⟨⟨n,d⟩,q1,q2,q3,q4⟩
    dsimp only at q1 q2 q3 q4 ⊢
    by_cases hgo:d.fai=0∧n < L
    ·obtain⟨g1,g2⟩:=hgo
     obtain⟨j,hj⟩:∃j,L - n=j+1:=⟨L - n - 1,by omega⟩
     rw[hj,ko g1]at q3 q4
     dsimp only at q3 q4
     have hnx:=q2.step hen
     have hT:=tG s d a1 q2.len (by have:=q2.out;omega)
     rw[←FV q2.sp q2.w.2.2]at hT
     generalize iY d (cC s d)=d' at *
     repeat' ((conv=>whnf);first|refine af ?_|apply ae|apply oi|(apply fi<;>intro h)|refine cl hT ?_|refine⟨_,rfl,?_⟩|exact rfl)
     all_goals try exact⟨KO⟩
     all_goals try(exfalso;simp[g1]at h;done)
     all_goals try(exfalso;have h':=of_decide_eq_false h;omega)
     conv=>whnf
     refine⟨⟨(n+1,d'),by dsimp only;omega,hnx,by rw[show L - (n+1)=j by omega];exact q3,by rw[show L - (n+1)=j by omega];dsimp only at q4 ⊢;omega⟩,?_,KD⟩
     repeat' ((conv=>whnf);first|refine af ?_|apply ae|apply oi|(apply fi<;>intro h)|refine⟨_,rfl,?_⟩|exact rfl)
     all_goals try exact⟨KO⟩
     all_goals try(refine⟨congrArg (Tr.int _) ?_⟩;dsimp only;rw[IntWalk.i64_in _ (by omega)];omega)
    ·have hst:dU s (L - n) d=(d,0):=dY (by
                                by_cases h0:d.fai=0;· exact .inr (by have:=fun h=>hgo ⟨h0,h⟩;omega)
                                ·exact .inl h0)
     rw[hst]at q3 q4
     dsimp only at q3 q4
     obtain⟨R1,R2⟩:=R
     dsimp only at q3 q4
     subst q3;subst q4
     repeat' ((conv=>whnf);first|refine af ?_|apply ae|apply oi|(apply fi<;>intro h)|refine⟨_,rfl,?_⟩|exact rfl)
     all_goals try exact⟨KO⟩
     all_goals try(exfalso;apply hgo;refine⟨by simpa using ‹(d.fai==0)=true›,?_⟩;have h':=of_decide_eq_true ‹decide ((n:Int) < (L:Int))=true›;omega)
     all_goals first
      | exact⟨congrArg (Tr.int _) (by dsimp only;omega)⟩
      | exact⟨⟨rfl,bc _⟩⟩
end Go.Proofs.YtjmplnfiabmalaaGreat
