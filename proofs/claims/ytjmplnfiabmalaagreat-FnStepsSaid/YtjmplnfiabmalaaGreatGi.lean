import Derived.Test.YtjmplnfiabmalaaGreatGh
namespace Go.Proofs.YtjmplnfiabmalaaGreat
open Go.Sim
set_option maxRecDepth 100000
set_option maxHeartbeats 4000000
def nm0:List (List UInt8):=[[109,97,105,110],[102],[103,103],[104]]
def ar0:List Int:=[0,1,2,1]
def arg0:List (List UInt8):=[[120],[121]]
def arN (k:Nat):Nat:=(ar0[k]?.getD 0).toNat
def nmN (k:Nat):List UInt8:=nm0[k]?.getD []
def gpV (n k:Nat)(b:Bool):GP:=⟨arg0.take (arN k)++[[105],[122]],(nm0.take n).drop (if b=true then k else k+1),(ar0.take n).drop (if b=true then k else k+1)⟩
theorem xq {n k:Nat}(b:Bool):(gpV n k b).ok:=by
 refine⟨by simp[gpV],by simp[gpV,arg0];omega,by simp[gpV,nm0];omega,by simp[gpV,nm0,ar0],fun a ha=>?_,fun s hs=>?_,fun s hs=>?_⟩
 ·have:=List.mem_of_mem_take (List.mem_of_mem_drop ha)
  simp[ar0]at this
  omega
 ·simp only[gpV,List.mem_append]at hs
  rcases hs with hs|hs
  ·have:=List.mem_of_mem_take hs
   simp[arg0]at this
   rcases this with rfl|rfl <;> simp
  ·simp at hs
   rcases hs with rfl|rfl <;> simp
 ·have:=List.mem_of_mem_take (List.mem_of_mem_drop hs)
  simp[nm0]at this
  rcases this with rfl|rfl|rfl|rfl <;> simp
noncomputable def ve (n k:Nat) (c:TCur):List TLine×TCur:=
 let o:=if 0 < k then iw 5 c else(false,c)
 let G:=gpV n k o.1
 let t:=bB 4 o.2
 let u:=bB 2 t.2
 let B:=qZ G (1+u.1) (1+t.1) u.2
 let e:=exV G 3 B.2
 (⟨0,nmN k,arg0.take (arN k),[]⟩::(B.1++[⟨6,[],[],e.1⟩,⟨7,[],[],[]⟩]),e.2)
noncomputable def iR (n:Nat):Nat→Nat→TCur→List TLine×TCur
 | 0,_,c=>([],c)
 | r+1,k,c=>((ve n k c).1++(iR n r (k+1) (ve n k c).2).1,(iR n r (k+1) (ve n k c).2).2)
noncomputable def jD (c:TCur):List TLine×TCur:=iR (1+(bB 4 c).1) (1+(bB 4 c).1) 0 (bB 4 c).2
def drP (x:TLine):List DC:=if x.faa=0 then [.d (.int .i64 0),.d (.str x.fac),.d (.lst 1 (x.faj.map ak)),.d (.lst 0 [])]else dr x
structure PL (x:TLine):Prop where
 name:x.fac.length≤8
 args:x.faj.length≤2∧∀s∈x.faj,s.length≤8
 len:x.fag.length≤125
 tok:∀t∈x.fag,t.fac.length≤8
 fe:x.faa=0→x.fag=[]
 fa:x.faa≠0→x.faj=[]
theorem Ek {n k:Nat}{c:TCur}(hc:c.ok):(ve n k c).1.length≤200∧(ve n k c).2.b=c.b∧(ve n k c).2.ok∧∀x∈(ve n k c).1,PL x:=by
 unfold ve
 dsimp only
 have ho:(if 0 < k then iw 5 c else(false,c)).2.b=c.b∧(if 0 < k then iw 5 c else(false,c)).2.ok:=by
  split
  ·have:=fU hc 5;exact⟨this.1,this.2.1⟩
  ·exact⟨rfl,hc⟩
 generalize(if 0 < k then iw 5 c else(false,c))=o at *
 have hG:=xq (n:=n) (k:=k) o.1
 generalize gpV n k o.1=G at *
 obtain⟨k4,b4,o4,_⟩:=bx ho.2 4
 obtain⟨k2,b2,o2,_⟩:=bx o4 2
 have k4':=k4 (by omega)
 have k2':=k2 (by omega)
 have hB:=mc hG (1+(bB 2 (bB 4 o.2).2).1)
 have hl:=hB.len (1+(bB 4 o.2).1) _ o2
 have hb:=hB.b (1+(bB 4 o.2).1) _ o2
 have hk:=hB.ok (1+(bB 4 o.2).1) _ o2
 have hx:=hB.bl (1+(bB 4 o.2).1) _ o2
 have hs:sB (1+(bB 2 (bB 4 o.2).2).1)≤21:=by
  have:(bB 2 (bB 4 o.2).2).1=0∨(bB 2 (bB 4 o.2).2).1=1:=by omega
  rcases this with e|e <;> rw[e] <;> simp[sB]
 have hl2:=Nat.mul_le_mul (show 1+(bB 4 o.2).1≤4 by omega) hs
 generalize qZ G (1+(bB 2 (bB 4 o.2).2).1) (1+(bB 4 o.2).1) (bB 2 (bB 4 o.2).2).2=B at *
 obtain⟨t3,b3,o3,_⟩:=dt hG hk 3 (by omega)
 refine⟨by simp;omega,((b3.trans hb).trans b2).trans (b4.trans ho.1),o3,fun x h=>?_⟩
 have hbl:∀{x:TLine},BL x→PL x:=fun h=>⟨h.name,by rw[h.args];simp,h.len,h.tok,fun e=>by have:=h.kind;omega,fun _=>h.args⟩
 simp only[List.mem_cons,List.mem_append,List.not_mem_nil,or_false]at h
 rcases h with rfl|h|rfl|rfl
 ·refine⟨?_,⟨?_,fun s hs=>?_⟩,by simp,by simp,fun _=>rfl,fun e=>absurd rfl e⟩
  ·show(nmN k).length≤8
   unfold nmN
   cases hn:nm0[k]? with
   | none=>simp
   | some v=>
    have:=List.mem_of_getElem? hn
    simp[nm0]at this
    rcases this with rfl|rfl|rfl|rfl <;> simp
  ·simp[arg0];omega
  ·have:=List.mem_of_mem_take hs
   simp[arg0]at this
   rcases this with rfl|rfl <;> simp
 ·exact hbl (hx x h)
 ·exact hbl (wh (by simp) t3)
 ·exact hbl tL
theorem wJ (n:Nat):∀(r k:Nat) (c:TCur),c.ok→(iR n r k c).1.length≤r * 200∧(iR n r k c).2.b=c.b∧(iR n r k c).2.ok∧∀x∈(iR n r k c).1,PL x
 | 0,_,c,hc=>⟨by simp[iR],rfl,hc,fun x hx=>by simp[iR]at hx⟩
 | r+1,k,c,hc=>by
  obtain⟨h1,h2,h3,h4⟩:=Ek (n:=n) (k:=k) hc
  obtain⟨i1,i2,i3,i4⟩:=wJ n r (k+1) _ h3
  rw[iR]
  refine⟨by simp only[List.length_append];omega,i2.trans h2,i3,fun x hx=>?_⟩
  rcases List.mem_append.1 hx with hx|hx
  ·exact h4 x hx
  ·exact i4 x hx
theorem Bu {c:TCur}(hc:c.ok):(jD c).1.length≤800∧(jD c).2.b=c.b∧(jD c).2.ok∧∀x∈(jD c).1,PL x:=by
 obtain⟨k1,b1,o1,_⟩:=bx hc 4
 have k1':=k1 (by omega)
 obtain⟨h1,h2,h3,h4⟩:=wJ (1+(bB 4 c).1) (1+(bB 4 c).1) 0 _ o1
 have:=Nat.mul_le_mul_right 200 (show 1+(bB 4 c).1≤4 by omega)
 exact⟨by unfold jD;omega,h2.trans b1,h3,h4⟩
theorem Ap {l:List TLine}(h:∀x∈l,BL x):l.map dr=l.map drP:=by
 refine List.map_congr_left fun x hx=>?_
 have:=(h x hx).kind
 rw[drP,if_neg (by omega)]
theorem Fh {x:TLine}(h:PL x):((drP x).map DC.tr).length=x.tr.length∧∀(p:Nat) (c d:Tr),((drP x).map DC.tr)[p]?=some c→x.tr[p]?=some d→emE c d:=by
 obtain⟨k,n,a,e⟩:=x
 have key:∃u v,(drP ⟨k,n,a,e⟩).map DC.tr=[.int .i64 k,.str n,u,v]∧emE u (.lst 1 (a.map ak))∧emE v (.lst 3 (e.map TTok.tr)):=by
  by_cases h0:k=0
  ·subst h0
   have he:=h.fe rfl
   dsimp only at he
   subst he
   exact⟨_,_,rfl,.inl rfl,.inr ⟨_,_,rfl,rfl⟩⟩
  ·have ha:=h.fa h0
   dsimp only at ha
   subst ha
   rw[drP,if_neg h0]
   cases e with
   | nil=>exact⟨_,_,rfl,.inr ⟨_,_,rfl,rfl⟩,.inr ⟨_,_,rfl,rfl⟩⟩
   | cons t l=>exact⟨_,_,rfl,.inr ⟨_,_,rfl,rfl⟩,.inl rfl⟩
 obtain⟨u,v,e1,e2,e3⟩:=key
 rw[e1]
 refine⟨rfl,fun p c d hc hd=>?_⟩
 match p with
 | 0=>simp[TLine.tr]at hc hd;subst hc;subst hd;exact .inl rfl
 | 1=>simp[TLine.tr]at hc hd;subst hc;subst hd;exact .inl rfl
 | 2=>simp[TLine.tr]at hc hd;subst hc;subst hd;exact e2
 | 3=>simp[TLine.tr]at hc hd;subst hc;subst hd;exact e3
 | p+4=>simp at hc
theorem BP:∀{l:List TLine},(∀x∈l,PL x)→emR ((l.map drP).map fun x=>x.map DC.tr) (l.map TLine.tr)
 | [],_=>trivial
 | x::l,h=>⟨Fh (h x (by simp)),BP fun y hy=>h y (by simp[hy])⟩
theorem nU (c:TCur)(hc:c.ok):aS Tryz.prog 145 [fE] (ec c) (.r (.c (.t (.lst 4 ((jD c).1.map TLine.tr))))) (ec (jD c).2):=by
 obtain⟨k1,b1,o1,g1⟩:=bx hc 4
 have k1':=k1 (by omega)
 refine aw hΓ ay Tryz.func145 rfl (by decide) rfl rfl ?_
 unfold jD
 generalize(bB 4 c).2=c1 at *
 obtain⟨n,hn⟩:∃n,1+(bB 4 c).1=n:=⟨_,rfl⟩
 have hw:IntKind.i64.wrap (1+((bB 4 c).1:Int))=(n:Int):=by rw[IntWalk.i64_in _ (by omega)];omega
 rw[hn]
 obtain⟨R,c',hRR⟩:∃R c',iR n n 0 c1=(R,c'):=⟨_,_,rfl⟩
 have hPL:=(wJ n n 0 _ o1).2.2.2
 rw[hRR]at hPL ⊢
 repeat' ((conv=>whnf);first|(with_reducible apply W1;fail_if_success (with_reducible show Wo _ _ _ _ (Code.seq (Code.region 5 _ _) _) _ _))|(with_reducible first|apply W2|apply W3|apply W4|apply W5|apply W6|apply W7|apply W8|apply W9)|apply ae|apply oi|(apply fi<;>intro h)|refine⟨_,rfl,?_⟩|exact rfl)
 all_goals try exact⟨KP⟩
 refine cg (g1) ?_
 repeat' ((conv=>whnf);first|(with_reducible apply W1;fail_if_success (with_reducible show Wo _ _ _ _ (Code.seq (Code.region 5 _ _) _) _ _))|(with_reducible first|apply W2|apply W3|apply W4|apply W5|apply W6|apply W7|apply W8|apply W9)|apply ae|apply oi|(apply fi<;>intro h)|refine⟨_,rfl,?_⟩|exact rfl)
 all_goals try exact⟨KP⟩
 conv=>whnf
 refine mb ⟨[(0,fE),(3,vN nm0),(4,.r (.c (.t (.lst 1 (ar0.map aa))))),(5,tI .i64 (IntKind.i64.wrap (1+((bB 4 c).1:Int)))),(6,.r (.c (.own (15,0,0))))],[((0,0,0),some (.box [.t (.lst 1 (c1.b.map aM)),.t (.int .i64 c1.i),.t (.int .i64 c1.h)])),((15,0,0),some (.arr true 4 []))],[15,13,11,10,0]⟩ ?_ ?_ rfl ?_
 ·refine⟨.inl rfl,.inr ⟨_,_,rfl,rfl,rfl,?_⟩,.inr ⟨_,_,rfl,rfl,rfl,?_⟩,.inl rfl,.inl rfl,trivial⟩
  all_goals(intro q hq;simp only[AC.ids,List.mem_cons,List.not_mem_nil,or_false]at hq;subst hq;rfl)
 ·exact⟨.inr rfl,.inr rfl,trivial⟩
 rw[hw]
 repeat' ((conv=>whnf);first|apply Wx|apply W6|apply oi|(apply fi<;>intro h)|refine⟨_,rfl,?_⟩|exact rfl)
 all_goals try exact⟨KP⟩
 conv=>whnf
 refine⟨{q:Nat×TCur×List TLine // q.1≤n∧q.2.1.ok∧q.2.2.length+(n - q.1) * 200≤800∧q.2.2++(iR n (n - q.1) q.1 q.2.1).1=R∧(iR n (n - q.1) q.1 q.2.1).2=c'},fun q=>⟨[(0,fE),(3,vN nm0),(4,.r (.c (.t (.lst 1 (ar0.map aa))))),(5,tI .i64 (n:Int)),(6,.r (.c (.own (15,0,0)))),(7,tI .i64 (q.1.1:Int))],[((0,0,0),some (.box [.t (.lst 1 (q.1.2.1.b.map aM)),.t (.int .i64 q.1.2.1.i),.t (.int .i64 q.1.2.1.h)])),((15,0,0),some (.dar 4 (q.1.2.2.map drP) none))],[15,0]⟩,fun q=>n - q.1.1,⟨(0,c1,[]),by dsimp only;omega,o1,by simp;omega,by dsimp only;rw[Nat.sub_zero,hRR];rfl,by dsimp only;rw[Nat.sub_zero,hRR]⟩,?_,?_⟩
 ·skip
  repeat' ((conv=>whnf);first|apply Wx|apply W6|apply oi|(apply fi<;>intro h)|refine⟨_,rfl,?_⟩|exact rfl)
  all_goals try exact⟨KP⟩
  all_goals try exact⟨rfl⟩
 intro⟨⟨k,ci,acc⟩,hi,hci,hal,hr1,hr2⟩
 dsimp only at hi hci hal hr1 hr2 ⊢
 by_cases hlt:k < n
 ·obtain⟨m,hm⟩:∃m,n - k=m+1:=⟨n - k - 1,by omega⟩
  rw[hm]at hr1 hr2 hal
  rw[iR]at hr1 hr2
  dsimp only at hr1 hr2
  obtain⟨s1,_,s3,s4⟩:=Ek (n:=n) (k:=k) hci
  generalize hF:ve n k ci=F at *
  rw[←List.append_assoc]at hr1
  have hlen:(acc++F.1).length+(n - (k+1)) * 200≤800:=by rw[List.length_append];omega
  rw[show m=n - (k+1) by omega]at hr1 hr2
  unfold ve at hF
  dsimp only at hF
  have hk4:k < 4:=by omega
  have hnm:nm0[k]?=some (nmN k):=by
   have:k=0∨k=1∨k=2∨k=3:=by omega
   rcases this with rfl|rfl|rfl|rfl <;> rfl
  have har:ar0[k]?=some (arN k:Int):=by
   have:k=0∨k=1∨k=2∨k=3:=by omega
   rcases this with rfl|rfl|rfl|rfl <;> rfl
  have har2:arN k≤2:=by
   have:k=0∨k=1∨k=2∨k=3:=by omega
   rcases this with rfl|rfl|rfl|rfl <;> decide
  have hw1:IntKind.i64.wrap ((k:Int)+1)=((k+1:Nat):Int):=by rw[IntWalk.i64_in _ (by omega)];omega
  have hnl:(nm0.map ak).length=4:=rfl
  have hal4:(ar0.map aa).length=4:=rfl
  have hfl:flat ([]++List.take (arN k) (arg0.map ak)):=by rw[List.nil_append,←List.map_take];exact jR _
  rcases Nat.eq_zero_or_pos k with hk0|hk0
  ·rw[if_neg (by omega)]at hF
   (try dsimp only at hF)
   have hG:=xq (n:=n) (k:=k) false
   obtain⟨k4,b4,o4,g4⟩:=bx hci 4
   generalize bB 4 ci=t at *
   obtain⟨k5,b5,o5,g5⟩:=bx o4 2
   generalize bB 2 t.2=u at *
   have k4':=k4 (by omega)
   have k5':=k5 (by omega)
   have g6:=wX hG (1+u.1) (1+t.1) u.2 (by omega) (by omega) o5
   have hB:=mc hG (1+u.1)
   have hl:=hB.len (1+t.1) _ o5
   have hk:=hB.ok (1+t.1) _ o5
   have hx:=Ap (hB.bl (1+t.1) _ o5)
   have hs:sB (1+u.1)≤21:=by
    have:u.1=0∨u.1=1:=by omega
    rcases this with e|e <;> rw[e] <;> simp[sB]
   have hl2:=Nat.mul_le_mul (show 1+t.1≤4 by omega) hs
   generalize qZ (gpV n k false) (1+u.1) (1+t.1) u.2=B at *
   obtain⟨t3,b3,o3,g3⟩:=dt hG hk 3 (by omega)
   generalize exV (gpV n k false) 3 B.2=e at *
   subst hF
   have hnames:Tr.lst 1 ((gpV n k false).names.map ak)=Tr.lst 1 (((nm0.map ak).take n).drop (k+1)):=by simp[gpV,List.map_drop,List.map_take]
   have hars:Tr.lst 1 ((gpV n k false).ars.map aa)=Tr.lst 1 (((ar0.map aa).take n).drop (k+1)):=by simp[gpV,List.map_drop,List.map_take]
   have hvars:[]++List.take (arN k) (arg0.map ak)++([[105],[122]]:List (List UInt8)).map ak=(gpV n k false).vars.map ak:=by simp[gpV,List.map_take]
   have hn1:Tr.int .i64 ((1+t.1:Nat):Int)=Tr.int .i64 (IntKind.i64.wrap (1+(t.1:Int))):=by rw[IntWalk.i64_in _ (by omega)];simp
   have hn2:Tr.int .i64 ((1+u.1:Nat):Int)=Tr.int .i64 (IntKind.i64.wrap (1+(u.1:Int))):=by rw[IntWalk.i64_in _ (by omega)];simp
   repeat' ((conv=>whnf);first|apply Wx|apply W6|apply oi|(apply fi<;>intro h)|refine⟨k,(aa (arN k)),rfl,ab har,?_⟩|refine⟨0,arN k,rfl,rfl,Nat.zero_le _,har2,?_⟩|refine⟨k+1,n,hw1,rfl,by omega,by(rw[hnl];omega),?_⟩|refine⟨k+1,n,hw1,rfl,by omega,by(rw[hal4];omega),?_⟩|refine⟨k,(ak (nmN k)),rfl,ab hnm,?_⟩|refine⟨_,rfl,?_⟩|exact rfl)
   all_goals try exact⟨KP⟩
   all_goals try exact KX
   all_goals try exact⟨har2⟩
   all_goals try exact⟨⟨by simp <;> omega,by simp <;> omega⟩⟩
   all_goals try exact⟨hfl⟩
   refine cg (g4) ?_
   repeat' ((conv=>whnf);first|apply Wx|apply W6|apply oi|(apply fi<;>intro h)|refine⟨_,rfl,?_⟩|exact rfl)
   all_goals try exact⟨KP⟩
   refine cg (g5) ?_
   repeat' ((conv=>whnf);first|apply Wx|apply W6|apply oi|(apply fi<;>intro h)|refine⟨_,rfl,?_⟩|exact rfl)
   all_goals try exact⟨KP⟩
   refine cg (g6) ?_
   repeat' ((conv=>whnf);first|apply Wx|apply W6|apply oi|(apply fi<;>intro h)|refine⟨_,rfl,?_⟩|exact rfl)
   all_goals try exact⟨KP⟩
   all_goals try exact⟨hnames⟩
   all_goals try exact⟨hars⟩
   all_goals try exact⟨hn1⟩
   all_goals try exact⟨hn2⟩
   all_goals try exact⟨hvars⟩
   all_goals try exact⟨⟨by simp <;> omega,by simp <;> omega⟩⟩
   refine cg (g3) ?_
   repeat' ((conv=>whnf);first|apply Wx|apply W6|apply oi|(apply fi<;>intro h)|refine⟨_,rfl,?_⟩|exact rfl)
   all_goals try exact⟨KP⟩
   all_goals try exact⟨aN _⟩
   all_goals try exact⟨⟨by simp <;> omega,by simp <;> omega⟩⟩
   conv=>whnf
   refine⟨⟨(k+1,_,_),by dsimp only;omega,s3,hlen,hr1,hr2⟩,?_,KD⟩
   repeat' ((conv=>whnf);first|apply Wx|apply W6|apply oi|(apply fi<;>intro h)|refine⟨_,rfl,?_⟩|exact rfl)
   all_goals try exact⟨KP⟩
   all_goals try exact⟨KW⟩
   all_goals try exact⟨by simp[drP,lC t3.1,pP,hx,List.map_take,arg0,ak]⟩
  ·rw[if_pos hk0]at hF
   obtain⟨b7,o7,g7⟩:=fU hci 5
   generalize iw 5 ci=o at *
   (try dsimp only at hF)
   cases ho:o.1 with
   | true=>
    rw[ho]at hF g7
    have hG:=xq (n:=n) (k:=k) true
    obtain⟨k4,b4,o4,g4⟩:=bx o7 4
    generalize bB 4 o.2=t at *
    obtain⟨k5,b5,o5,g5⟩:=bx o4 2
    generalize bB 2 t.2=u at *
    have k4':=k4 (by omega)
    have k5':=k5 (by omega)
    have g6:=wX hG (1+u.1) (1+t.1) u.2 (by omega) (by omega) o5
    have hB:=mc hG (1+u.1)
    have hl:=hB.len (1+t.1) _ o5
    have hk:=hB.ok (1+t.1) _ o5
    have hx:=Ap (hB.bl (1+t.1) _ o5)
    have hs:sB (1+u.1)≤21:=by
     have:u.1=0∨u.1=1:=by omega
     rcases this with e|e <;> rw[e] <;> simp[sB]
    have hl2:=Nat.mul_le_mul (show 1+t.1≤4 by omega) hs
    generalize qZ (gpV n k true) (1+u.1) (1+t.1) u.2=B at *
    obtain⟨t3,b3,o3,g3⟩:=dt hG hk 3 (by omega)
    generalize exV (gpV n k true) 3 B.2=e at *
    subst hF
    have hnames:Tr.lst 1 ((gpV n k true).names.map ak)=Tr.lst 1 (((nm0.map ak).take n).drop (k)):=by simp[gpV,List.map_drop,List.map_take]
    have hars:Tr.lst 1 ((gpV n k true).ars.map aa)=Tr.lst 1 (((ar0.map aa).take n).drop (k)):=by simp[gpV,List.map_drop,List.map_take]
    have hvars:[]++List.take (arN k) (arg0.map ak)++([[105],[122]]:List (List UInt8)).map ak=(gpV n k true).vars.map ak:=by simp[gpV,List.map_take]
    have hn1:Tr.int .i64 ((1+t.1:Nat):Int)=Tr.int .i64 (IntKind.i64.wrap (1+(t.1:Int))):=by rw[IntWalk.i64_in _ (by omega)];simp
    have hn2:Tr.int .i64 ((1+u.1:Nat):Int)=Tr.int .i64 (IntKind.i64.wrap (1+(u.1:Int))):=by rw[IntWalk.i64_in _ (by omega)];simp
    repeat' ((conv=>whnf);first|apply Wx|apply W6|apply oi|(apply fi<;>intro h)|refine⟨k,(aa (arN k)),rfl,ab har,?_⟩|refine⟨0,arN k,rfl,rfl,Nat.zero_le _,har2,?_⟩|refine⟨k+1,n,hw1,rfl,by omega,by(rw[hnl];omega),?_⟩|refine⟨k+1,n,hw1,rfl,by omega,by(rw[hal4];omega),?_⟩|refine⟨k,(ak (nmN k)),rfl,ab hnm,?_⟩|refine⟨_,rfl,?_⟩|exact rfl)
    all_goals try exact⟨KP⟩
    all_goals try exact KX
    all_goals try exact⟨har2⟩
    all_goals try exact⟨⟨by simp <;> omega,by simp <;> omega⟩⟩
    all_goals try exact⟨hfl⟩
    refine cg (g7) ?_
    repeat' ((conv=>whnf);first|apply Wx|apply W6|apply oi|(apply fi<;>intro h)|refine⟨k,(ak (nmN k)),rfl,ab hnm,?_⟩|refine⟨k,n,rfl,rfl,by omega,by(rw[hnl];omega),?_⟩|refine⟨k,n,rfl,rfl,by omega,by(rw[hal4];omega),?_⟩|refine⟨_,rfl,?_⟩|exact rfl)
    all_goals try exact⟨KP⟩
    all_goals try exact KX
    all_goals try exact⟨har2⟩
    all_goals try exact⟨⟨by simp <;> omega,by simp <;> omega⟩⟩
    all_goals try exact⟨hfl⟩
    refine cg (g4) ?_
    repeat' ((conv=>whnf);first|apply Wx|apply W6|apply oi|(apply fi<;>intro h)|refine⟨_,rfl,?_⟩|exact rfl)
    all_goals try exact⟨KP⟩
    refine cg (g5) ?_
    repeat' ((conv=>whnf);first|apply Wx|apply W6|apply oi|(apply fi<;>intro h)|refine⟨_,rfl,?_⟩|exact rfl)
    all_goals try exact⟨KP⟩
    refine cg (g6) ?_
    repeat' ((conv=>whnf);first|apply Wx|apply W6|apply oi|(apply fi<;>intro h)|refine⟨_,rfl,?_⟩|exact rfl)
    all_goals try exact⟨KP⟩
    all_goals try exact⟨hnames⟩
    all_goals try exact⟨hars⟩
    all_goals try exact⟨hn1⟩
    all_goals try exact⟨hn2⟩
    all_goals try exact⟨hvars⟩
    all_goals try exact⟨⟨by simp <;> omega,by simp <;> omega⟩⟩
    refine cg (g3) ?_
    repeat' ((conv=>whnf);first|apply Wx|apply W6|apply oi|(apply fi<;>intro h)|refine⟨_,rfl,?_⟩|exact rfl)
    all_goals try exact⟨KP⟩
    all_goals try exact⟨aN _⟩
    all_goals try exact⟨⟨by simp <;> omega,by simp <;> omega⟩⟩
    conv=>whnf
    refine⟨⟨(k+1,_,_),by dsimp only;omega,s3,hlen,hr1,hr2⟩,?_,KD⟩
    repeat' ((conv=>whnf);first|apply Wx|apply W6|apply oi|(apply fi<;>intro h)|refine⟨_,rfl,?_⟩|exact rfl)
    all_goals try exact⟨KP⟩
    all_goals try exact⟨KW⟩
    all_goals try exact⟨by simp[drP,lC t3.1,pP,hx,List.map_take,arg0,ak]⟩
   | false=>
    rw[ho]at hF g7
    have hG:=xq (n:=n) (k:=k) false
    obtain⟨k4,b4,o4,g4⟩:=bx o7 4
    generalize bB 4 o.2=t at *
    obtain⟨k5,b5,o5,g5⟩:=bx o4 2
    generalize bB 2 t.2=u at *
    have k4':=k4 (by omega)
    have k5':=k5 (by omega)
    have g6:=wX hG (1+u.1) (1+t.1) u.2 (by omega) (by omega) o5
    have hB:=mc hG (1+u.1)
    have hl:=hB.len (1+t.1) _ o5
    have hk:=hB.ok (1+t.1) _ o5
    have hx:=Ap (hB.bl (1+t.1) _ o5)
    have hs:sB (1+u.1)≤21:=by
     have:u.1=0∨u.1=1:=by omega
     rcases this with e|e <;> rw[e] <;> simp[sB]
    have hl2:=Nat.mul_le_mul (show 1+t.1≤4 by omega) hs
    generalize qZ (gpV n k false) (1+u.1) (1+t.1) u.2=B at *
    obtain⟨t3,b3,o3,g3⟩:=dt hG hk 3 (by omega)
    generalize exV (gpV n k false) 3 B.2=e at *
    subst hF
    have hnames:Tr.lst 1 ((gpV n k false).names.map ak)=Tr.lst 1 (((nm0.map ak).take n).drop (k+1)):=by simp[gpV,List.map_drop,List.map_take]
    have hars:Tr.lst 1 ((gpV n k false).ars.map aa)=Tr.lst 1 (((ar0.map aa).take n).drop (k+1)):=by simp[gpV,List.map_drop,List.map_take]
    have hvars:[]++List.take (arN k) (arg0.map ak)++([[105],[122]]:List (List UInt8)).map ak=(gpV n k false).vars.map ak:=by simp[gpV,List.map_take]
    have hn1:Tr.int .i64 ((1+t.1:Nat):Int)=Tr.int .i64 (IntKind.i64.wrap (1+(t.1:Int))):=by rw[IntWalk.i64_in _ (by omega)];simp
    have hn2:Tr.int .i64 ((1+u.1:Nat):Int)=Tr.int .i64 (IntKind.i64.wrap (1+(u.1:Int))):=by rw[IntWalk.i64_in _ (by omega)];simp
    repeat' ((conv=>whnf);first|apply Wx|apply W6|apply oi|(apply fi<;>intro h)|refine⟨k,(aa (arN k)),rfl,ab har,?_⟩|refine⟨0,arN k,rfl,rfl,Nat.zero_le _,har2,?_⟩|refine⟨k+1,n,hw1,rfl,by omega,by(rw[hnl];omega),?_⟩|refine⟨k+1,n,hw1,rfl,by omega,by(rw[hal4];omega),?_⟩|refine⟨k,(ak (nmN k)),rfl,ab hnm,?_⟩|refine⟨_,rfl,?_⟩|exact rfl)
    all_goals try exact⟨KP⟩
    all_goals try exact KX
    all_goals try exact⟨har2⟩
    all_goals try exact⟨⟨by simp <;> omega,by simp <;> omega⟩⟩
    all_goals try exact⟨hfl⟩
    refine cg (g7) ?_
    repeat' ((conv=>whnf);first|apply Wx|apply W6|apply oi|(apply fi<;>intro h)|refine⟨k,(ak (nmN k)),rfl,ab hnm,?_⟩|refine⟨_,rfl,?_⟩|exact rfl)
    all_goals try exact⟨KP⟩
    all_goals try exact KX
    all_goals try exact⟨har2⟩
    all_goals try exact⟨⟨by simp <;> omega,by simp <;> omega⟩⟩
    all_goals try exact⟨hfl⟩
    refine cg (g4) ?_
    repeat' ((conv=>whnf);first|apply Wx|apply W6|apply oi|(apply fi<;>intro h)|refine⟨_,rfl,?_⟩|exact rfl)
    all_goals try exact⟨KP⟩
    refine cg (g5) ?_
    repeat' ((conv=>whnf);first|apply Wx|apply W6|apply oi|(apply fi<;>intro h)|refine⟨_,rfl,?_⟩|exact rfl)
    all_goals try exact⟨KP⟩
    refine cg (g6) ?_
    repeat' ((conv=>whnf);first|apply Wx|apply W6|apply oi|(apply fi<;>intro h)|refine⟨_,rfl,?_⟩|exact rfl)
    all_goals try exact⟨KP⟩
    all_goals try exact⟨hnames⟩
    all_goals try exact⟨hars⟩
    all_goals try exact⟨hn1⟩
    all_goals try exact⟨hn2⟩
    all_goals try exact⟨hvars⟩
    all_goals try exact⟨⟨by simp <;> omega,by simp <;> omega⟩⟩
    refine cg (g3) ?_
    repeat' ((conv=>whnf);first|apply Wx|apply W6|apply oi|(apply fi<;>intro h)|refine⟨_,rfl,?_⟩|exact rfl)
    all_goals try exact⟨KP⟩
    all_goals try exact⟨aN _⟩
    all_goals try exact⟨⟨by simp <;> omega,by simp <;> omega⟩⟩
    conv=>whnf
    refine⟨⟨(k+1,_,_),by dsimp only;omega,s3,hlen,hr1,hr2⟩,?_,KD⟩
    repeat' ((conv=>whnf);first|apply Wx|apply W6|apply oi|(apply fi<;>intro h)|refine⟨_,rfl,?_⟩|exact rfl)
    all_goals try exact⟨KP⟩
    all_goals try exact⟨KW⟩
    all_goals try exact⟨by simp[drP,lC t3.1,pP,hx,List.map_take,arg0,ak]⟩
 ·have hkn:k=n:=by omega
  subst hkn
  rw[Nat.sub_self]at hr1 hr2
  simp only[iR,List.append_nil]at hr1 hr2
  subst hr1;subst hr2
  dsimp only at hPL
  refine mb ⟨[(0,fE),(5,tI .i64 (k:Int)),(6,.r (.c (.t (.lst 4 ((acc.map drP).map fun x=>x.map DC.tr))))),(7,tI .i64 (k:Int))],[((0,0,0),some (.box [.t (.lst 1 (ci.b.map aM)),.t (.int .i64 ci.i),.t (.int .i64 ci.h)]))],[15,0]⟩ ?_ ?_ rfl ?_
  ·refine⟨.inl rfl,.inl rfl,.inr ⟨_,_,rfl,rfl,rfl,?_⟩,.inl rfl,trivial⟩
   intro q hq;simp only[AC.ids,List.mem_cons,List.not_mem_nil,or_false]at hq;subst hq;rfl
  ·exact⟨.inr rfl,trivial⟩
  refine rf 6 rfl (BP hPL) ?_
  repeat' ((conv=>whnf);first|apply Wx|apply W6|apply oi|(apply fi<;>intro h)|refine⟨_,rfl,?_⟩|exact rfl)
  all_goals try exact⟨KP⟩
  all_goals try exact KX
theorem uE {l:List TLine}(h:∀x∈l,PL x)(hl:l.length≤800):aA 1048576 (.lst 4 (l.map TLine.tr)):=by
 refine il (by omega) fun x hx=>?_
 have hp:=h x hx
 have h1:aA 1048576 (.lst 1 (x.faj.map ak)):=il (by have:=hp.args.1;omega) fun s hs=>by
  have:=hp.args.2 s hs
  simp only[ak,aC,aA]
  exact⟨by omega,trivial⟩
 have h2:aA 1048576 (.lst 3 (x.fag.map TTok.tr)):=il (by have:=hp.len;omega) fun t ht=>by
  have:=hp.tok t ht
  simp only[TTok.tr,aC,aA]
  exact⟨trivial,trivial,by omega,trivial⟩
 have h3:=hp.name
 exact⟨trivial,by simp only[aA];omega,h1,h2,trivial⟩
def fbP:List TLine:=[⟨0,[109,97,105,110],[],[]⟩,⟨2,[],[],[⟨0,1,[]⟩]⟩,⟨6,[],[],[⟨0,1,[]⟩]⟩,⟨7,[],[],[]⟩]
theorem GR:ax fbP=true:=by decide
theorem GF:∀x∈fbP,PL x:=by
 intro x hx
 simp only[fbP,List.mem_cons,List.not_mem_nil,or_false]at hx
 rcases hx with rfl|rfl|rfl|rfl
 all_goals exact⟨by simp,by simp,by simp,by simp,by simp,by simp⟩
noncomputable def iJ:Nat→TCur→List TLine×TCur
 | 0,c=>(fbP,c)
 | r+1,c=>if ax (jD c).1=true then jD c else iJ r (jD c).2
theorem xY:∀(r:Nat) (c:TCur),c.ok→ax (iJ r c).1=true∧(iJ r c).1.length≤800∧(iJ r c).2.b=c.b∧(iJ r c).2.ok∧∀x∈(iJ r c).1,PL x
 | 0,c,hc=>⟨GR,by simp[iJ,fbP],rfl,hc,GF⟩
 | r+1,c,hc=>by
  obtain⟨h1,h2,h3,h4⟩:=Bu hc
  rw[iJ]
  split
  ·rename_i h;exact⟨h,h1,h2,h3,h4⟩
  ·obtain⟨i1,i2,i3,i4,i5⟩:=xY r _ h3
   exact⟨i1,i2,i3.trans h2,i4,i5⟩
theorem Hi:emR [[.int .i64 0,.str [109,97,105,110],.lst 0 [],.lst 0 []],[.int .i64 2,.str [],.lst 0 [],.lst 3 [[.int .i64 0,.int .i64 1,.str []]]],[.int .i64 6,.str [],.lst 0 [],.lst 3 [[.int .i64 0,.int .i64 1,.str []]]],[.int .i64 7,.str [],.lst 0 [],.lst 0 []]] (fbP.map TLine.tr):=by
 refine⟨⟨rfl,fun p c d hc hd=>?_⟩,⟨rfl,fun p c d hc hd=>?_⟩,⟨rfl,fun p c d hc hd=>?_⟩,⟨rfl,fun p c d hc hd=>?_⟩,trivial⟩
 all_goals(
  match p with
  | 0=>simp[TLine.tr]at hc hd;subst hc;subst hd;exact .inl rfl
  | 1=>simp[TLine.tr]at hc hd;subst hc;subst hd;exact .inl rfl
  | 2=>simp[TLine.tr]at hc hd;subst hc;subst hd;exact .inr ⟨_,_,rfl,rfl⟩
  | 3=>simp[TLine.tr,TTok.tr]at hc hd;subst hc;subst hd;first|exact .inl rfl|exact .inr ⟨_,_,rfl,rfl⟩
  | p+4=>simp at hc)
theorem ph (c:TCur)(hc:c.ok):aS Tryz.prog 70 [fE] (ec c) (.r (.c (.t (.lst 4 ((iJ 5 c).1.map TLine.tr))))) (ec (iJ 5 c).2):=by
 refine aw hΓ ay Tryz.func70 rfl (by decide) rfl rfl ?_
 generalize hR:iJ 5 c=R at *
 repeat' ((conv=>whnf);first|apply Wx|apply W6|apply oi|(apply fi<;>intro h)|refine⟨_,rfl,?_⟩|exact rfl)
 all_goals try exact⟨KP⟩
 conv=>whnf
 refine⟨{q:Nat×TCur // q.1≤5∧q.2.ok∧iJ (5 - q.1) q.2=R},fun q=>⟨[(0,fE),(3,tI .i64 (q.1.1:Int))],[((0,0,0),some (.box [.t (.lst 1 (q.1.2.b.map aM)),.t (.int .i64 q.1.2.i),.t (.int .i64 q.1.2.h)]))],[0]⟩,fun q=>5 - q.1.1,⟨(0,c),by dsimp only;omega,hc,hR⟩,?_,?_⟩
 ·skip
  repeat' ((conv=>whnf);first|apply Wx|apply W6|apply oi|(apply fi<;>intro h)|refine⟨_,rfl,?_⟩|exact rfl)
  all_goals try exact⟨KP⟩
 intro⟨⟨k,ci⟩,hi,hci,hr⟩
 dsimp only at hi hci hr ⊢
 by_cases hlt:k < 5
 ·obtain⟨m,hm⟩:∃m,5 - k=m+1:=⟨5 - k - 1,by omega⟩
  rw[hm,iJ]at hr
  have gP:=nU ci hci
  obtain⟨h1,h2,h3,h4⟩:=Bu hci
  have hO:=cW (jD ci).1 (uE h4 h1)
  generalize jD ci=Q at *
  cases hq:ax Q.1 with
  | true=>
   rw[if_pos hq]at hr
   subst hr
   rw[hq]at hO
   repeat' ((conv=>whnf);first|apply Wx|apply W6|apply oi|(apply fi<;>intro h)|refine⟨_,rfl,?_⟩|exact rfl)
   all_goals try exact⟨KP⟩
   refine cg (gP) ?_
   repeat' ((conv=>whnf);first|apply Wx|apply W6|apply oi|(apply fi<;>intro h)|refine cl hO ?_|refine⟨_,rfl,?_⟩|exact rfl)
   all_goals try exact⟨KP⟩
   all_goals try exact KX
  | false=>
   rw[if_neg (by simp[hq])]at hr
   rw[hq]at hO
   repeat' ((conv=>whnf);first|apply Wx|apply W6|apply oi|(apply fi<;>intro h)|refine⟨_,rfl,?_⟩|exact rfl)
   all_goals try exact⟨KP⟩
   refine cg (gP) ?_
   repeat' ((conv=>whnf);first|apply Wx|apply W6|apply oi|(apply fi<;>intro h)|refine cl hO ?_|refine⟨_,rfl,?_⟩|exact rfl)
   all_goals try exact⟨KP⟩
   all_goals try exact KX
   conv=>whnf
   refine⟨⟨(k+1,Q.2),by dsimp only;omega,h3,by dsimp only;rw[show 5 - (k+1)=m by omega];exact hr⟩,?_,KD⟩
   repeat' ((conv=>whnf);first|apply Wx|apply W6|apply oi|(apply fi<;>intro h)|refine⟨_,rfl,?_⟩|exact rfl)
   all_goals try exact⟨KP⟩
   all_goals try exact⟨KW⟩
 ·have hk:k=5:=by omega
  subst hk
  rw[show(5:Nat) - 5=0 from rfl,iJ]at hr
  subst hr
  repeat' ((conv=>whnf);first|(with_reducible apply W1;fail_if_success (with_reducible show Wo _ _ _ _ (Code.region 8 _ _) _ _))|(with_reducible first|apply W2|apply W3|apply W4|apply W5|apply W6|apply W7|apply W8|apply W9)|apply ae|apply oi|(apply fi<;>intro h)|refine⟨_,rfl,?_⟩|exact rfl)
  all_goals try exact⟨KP⟩
  all_goals try exact KX
  conv=>whnf
  refine mb ⟨[(5,.r (.c (.t (.lst 3 [[.int .i64 0,.int .i64 1,.str []]]))))],[((0,0,0),some (.box [.t (.lst 1 (ci.b.map aM)),.t (.int .i64 ci.i),.t (.int .i64 ci.h)]))],[16,0]⟩ ?_ ?_ rfl ?_
  ·refine⟨.inr ⟨_,_,rfl,rfl,rfl,?_⟩,trivial⟩
   intro q hq;simp only[AC.ids,List.mem_cons,List.not_mem_nil,or_false]at hq;subst hq;rfl
  ·exact⟨.inr rfl,trivial⟩
  repeat' ((conv=>whnf);first|(with_reducible first|apply W1|apply W2)|apply ae|refine oi ?_ ?_|refine⟨_,rfl,?_⟩|exact rfl)
  all_goals try exact⟨KP⟩
  conv=>whnf
  refine mb ⟨[(2,.r (.c (.t (.lst 4 [[.int .i64 0,.str [109,97,105,110],.lst 0 [],.lst 0 []],[.int .i64 2,.str [],.lst 0 [],.lst 3 [[.int .i64 0,.int .i64 1,.str []]]],[.int .i64 6,.str [],.lst 0 [],.lst 3 [[.int .i64 0,.int .i64 1,.str []]]],[.int .i64 7,.str [],.lst 0 [],.lst 0 []]]))))],[((0,0,0),some (.box [.t (.lst 1 (ci.b.map aM)),.t (.int .i64 ci.i),.t (.int .i64 ci.h)]))],[23,16,0]⟩ ?_ ?_ rfl ?_
  ·refine⟨.inr ⟨_,_,rfl,rfl,rfl,?_⟩,trivial⟩
   intro q hq;simp only[AC.ids,List.mem_cons,List.not_mem_nil,or_false]at hq;subst hq;rfl
  ·exact⟨.inr rfl,trivial⟩
  refine rf 2 rfl Hi ?_
  repeat' ((conv=>whnf);first|apply Wx|apply W6|apply oi|(apply fi<;>intro h)|refine⟨_,rfl,?_⟩|exact rfl)
  all_goals try exact⟨KP⟩
abbrev Hx (code:List UInt8):AV:= .r (.c (.t (.lst 1 (code.map aM))))
theorem Fr {code:List UInt8}(hl:code.length≤1048576):(⟨code,0,Dz code⟩:TCur).ok:=⟨by simp,hl⟩
theorem Cd {rows:List (List Tr)}(h:∀r∈rows,∃n,r=[.int .u8 n]∧(Lit.int .u8 n).wf=true):∃bs:List UInt8,rows=bs.map aM:=by
 obtain⟨bs,hb,_⟩:=zn (g:=aM) (Q:=fun _=>True) (rows:=rows) fun r hr=>by
  obtain⟨n,rfl,hw⟩:=h r hr
  have h1:IntKind.u8.min≤n∧n≤IntKind.u8.max:=by simpa [Lit.wf]using hw
  have h2:0≤n∧n≤255:=h1
  refine⟨UInt8.ofNat n.toNat,?_,trivial⟩
  rw[aM,show(UInt8.ofNat n.toNat).toNat=n.toNat by simp;omega,Int.toNat_of_nonneg h2.1]
 exact⟨bs,hb⟩
def cJ (c:TCur):TCur:=⟨c.b,if c.i < c.b.length then c.i+1 else c.i,gq c.h⟩
def gw (c:TCur):Nat:=match c.b[c.i]? with
 | some u=>(byN (gq c.h)+u.toNat) % 256
 | none=>byN (gq c.h)
theorem iz {c:TCur}(h:c.ok):(cJ c).ok:=⟨by have:=h.1;unfold cJ;dsimp only;split <;> omega,h.2⟩
theorem rT (c:TCur):gw c < 256:=by
 unfold gw
 split
 ·omega
 ·exact Dt _
theorem DM (n:Nat):IntKind.i64.wrap ((BitVec.ofInt IntKind.i64.bits (IntKind.i64.wrap (n:Int)) &&& BitVec.ofInt IntKind.i64.bits 255).toNat:Int)=((n % 256:Nat):Int):=by
 show IntKind.i64.wrap (((BitVec.ofInt 64 (IntKind.i64.wrap (n:Int)) &&& BitVec.ofInt 64 255).toNat:Nat):Int)=_
 rw[DV]
 have hw:IntKind.i64.wrap (n:Int) % 256=(n:Int) % 256:=by
  unfold IntKind.wrap
  simp[IntKind.bits,IntKind.signed]
  split <;> omega
 rw[hw,IntWalk.i64_in _ (by omega)]
 omega
theorem fc (c:TCur)(hc:c.ok):aS Tryz.prog 203 [fE] (ec c) (tI .i64 (gw c)) (ec (cJ c)):=by
 obtain⟨hi,hl⟩:=hc
 have hbl:(c.b.map aM).length=c.b.length:=by simp
 have he0:=GS (gq c.h)
 have hlt8:=Dt (gq c.h)
 unfold gw cJ
 generalize hx:byN (gq c.h)=x0 at *
 unfold byW gq at he0
 unfold gq
 by_cases hlt:c.i < c.b.length
 ·obtain⟨u,hu⟩:=ag hlt
  have hu8:=u.toNat_lt
  have he:=DM (x0+u.toNat)
  rw[hu,if_pos hlt]
  dsimp only
  refine aw hΓ ay Tryz.func203 rfl (by decide) rfl rfl ?_
  repeat' ((conv=>whnf);first|apply Wx|apply W6|apply oi|(apply fi<;>intro h)|refine⟨c.i,(aM u),rfl,ab hu,?_⟩|refine⟨_,rfl,?_⟩|exact rfl)
  all_goals try exact⟨KP⟩
  all_goals try exact KX
  all_goals try exact⟨congrArg (Tr.int _) (by rw[he0,IntWalk.i64_in (u.toNat:Int) (by omega)];exact he)⟩
  all_goals exact⟨by rw[IntWalk.i64_in _ (by omega)];rfl⟩
 ·rw[List.getElem?_eq_none (by omega),if_neg hlt]
  dsimp only
  refine aw hΓ ay Tryz.func203 rfl (by decide) rfl rfl ?_
  repeat' ((conv=>whnf);first|apply Wx|apply W6|apply oi|(apply fi<;>intro h)|refine⟨_,rfl,?_⟩|exact rfl)
  all_goals try exact⟨KP⟩
  all_goals try exact KX
  all_goals try exact⟨congrArg (Tr.int _) he0⟩
  all_goals exact⟨rfl⟩
theorem vb (c:TCur)(n:Nat)(hc:c.ok)(h0:0 < n)(h1:n≤256):aS Tryz.prog 146 [fE,tI .i64 (n:Int)] (ec c) (tI .i64 ((gw c % n:Nat):Int)) (ec (cJ c)):=by
 have g1:=fc c hc
 have hm:((gw c:Nat):Int).tmod (n:Int)=((gw c % n:Nat):Int):=by rw[Int.tmod_eq_emod_of_nonneg (by omega)];rfl
 refine aw hΓ ay Tryz.func146 rfl (by decide) rfl rfl ?_
 repeat' ((conv=>whnf);first|apply Wx|apply W6|refine cg g1 ?_|apply oi|(apply fi<;>intro h)|refine⟨_,rfl,?_⟩|exact rfl)
 all_goals try exact⟨KP⟩
 all_goals try exact KX
 all_goals try exact⟨by omega⟩
 all_goals exact⟨congrArg (Tr.int _) hm⟩
theorem mC (c:TCur)(n:Int)(hc:c.ok)(h:256 < n):∃y:Nat,(y:Int) < n∧aS Tryz.prog 146 [fE,tI .i64 n] (ec c) (tI .i64 (y:Int)) (ec (cJ (cJ (cJ (cJ c))))):=by
 have g1:=fc c hc
 have g2:=fc _ (iz hc)
 have g3:=fc _ (iz (iz hc))
 have g4:=fc _ (iz (iz (iz hc)))
 have k1:=rT c
 have k2:=rT (cJ c)
 have k3:=rT (cJ (cJ c))
 have k4:=rT (cJ (cJ (cJ c)))
 generalize gw c=x1 at *
 generalize gw (cJ c)=x2 at *
 generalize gw (cJ (cJ c))=x3 at *
 generalize gw (cJ (cJ (cJ c)))=x4 at *
 obtain⟨y,hy,hm⟩:=na (x:=x1 * 16777216+x2 * 65536+x3 * 256+x4) (n:=n) (by omega)
 refine⟨y,hy,?_⟩
 refine aw hΓ ay Tryz.func146 rfl (by decide) rfl rfl ?_
 repeat' ((conv=>whnf);first|apply Wx|apply W6|apply oi|(apply fi<;>intro h)|refine⟨_,rfl,?_⟩|exact rfl)
 all_goals try exact⟨KP⟩
 all_goals try exact KX
 refine cg (g1) ?_
 repeat' ((conv=>whnf);first|apply Wx|apply W6|apply oi|(apply fi<;>intro h)|refine⟨_,rfl,?_⟩|exact rfl)
 all_goals try exact⟨KP⟩
 refine cg (g2) ?_
 repeat' ((conv=>whnf);first|apply Wx|apply W6|apply oi|(apply fi<;>intro h)|refine⟨_,rfl,?_⟩|exact rfl)
 all_goals try exact⟨KP⟩
 refine cg (g3) ?_
 repeat' ((conv=>whnf);first|apply Wx|apply W6|apply oi|(apply fi<;>intro h)|refine⟨_,rfl,?_⟩|exact rfl)
 all_goals try exact⟨KP⟩
 refine cg (g4) ?_
 repeat' ((conv=>whnf);first|apply Wx|apply W6|apply oi|(apply fi<;>intro h)|refine⟨_,rfl,?_⟩|exact rfl)
 all_goals try exact⟨KP⟩
 all_goals try exact⟨by omega⟩
 all_goals(
  have hw:IntKind.i64.wrap (IntKind.i64.wrap (IntKind.i64.wrap (IntKind.i64.wrap ((x1:Int) * 16777216)+IntKind.i64.wrap ((x2:Int) * 65536))+IntKind.i64.wrap ((x3:Int) * 256))+(x4:Int))=((x1 * 16777216+x2 * 65536+x3 * 256+x4:Nat):Int):=by
   rw[IntWalk.i64_in ((x1:Int) * 16777216) (by omega),IntWalk.i64_in ((x2:Int) * 65536) (by omega),IntWalk.i64_in ((x3:Int) * 256) (by omega),IntWalk.i64_in ((x1:Int) * 16777216+(x2:Int) * 65536) (by omega),IntWalk.i64_in ((x1:Int) * 16777216+(x2:Int) * 65536+(x3:Int) * 256) (by omega),IntWalk.i64_in _ (by omega)]
   omega
  exact⟨by rw[hw,hm]⟩)
theorem og (c:TCur)(ns:List Int)(hc:c.ok)(hp:0 < ns.length)(hl:ns.length≤256):aS Tryz.prog 147 [fE,.r (.c (.own (0,0,1)))] (ec c++[((0,0,1),.arr false 1 (ns.map aa))]) (tI .i64 (ns[gw c % ns.length]?.getD 0)) (ec (cJ c)++[((0,0,1),.arr false 1 (ns.map aa))]):=by
 have hlen:(ns.map aa).length=ns.length:=by simp
 have g1:=vb c (ns.map aa).length hc (by omega) (by omega)
 rw[hlen]at g1
 have hx:gw c % ns.length < ns.length:=Nat.mod_lt _ hp
 obtain⟨v,hv⟩:=ag hx
 have hxl:gw c % ns.length < (ns.map aa).length:=by rw[hlen];exact hx
 rw[hv]
 refine aw hΓ ay Tryz.func147 rfl (by decide) rfl rfl ?_
 rw[←hlen]at g1
 repeat' ((conv=>whnf);first|apply Wx|apply W6|refine cg g1 ?_|apply oi|(apply fi<;>intro h)|refine⟨(gw c % ns.length),(by rw[hlen]),hxl,?_⟩|refine⟨(aa v),ab hv,?_⟩|refine⟨_,rfl,?_⟩|exact rfl)
 all_goals try exact⟨KP⟩
def itC:Nat→TCur→TCur
 | 0,c=>c
 | n+1,c=>itC n (cJ c)
theorem rP:∀(n m:Nat) (c:TCur),itC (n+m) c=itC m (itC n c)
 | 0,m,c=>by rw[Nat.zero_add,itC]
 | n+1,m,c=>by rw[show n+1+m=(n+m)+1 by omega,itC,itC,rP n m]
theorem ue:∀(n:Nat) {c:TCur},c.ok→(itC n c).ok
 | 0,_,h=>h
 | n+1,c,h=>by rw[itC];exact ue n (iz h)
theorem Gh:∀(n:Nat) (c:TCur),(itC n c).b=c.b
 | 0,_=>rfl
 | n+1,c=>by rw[itC,Gh n];rfl
theorem Gu:∀(n:Nat) (c:TCur),(itC n c).h=itH n c.h
 | 0,_=>rfl
 | n+1,c=>by rw[itC,Gu n,itH];rfl
theorem Gl:∀(n:Nat) (c:TCur),c.i≤c.b.length→(itC n c).i=min (c.i+n) c.b.length
 | 0,c,h=>by rw[itC];omega
 | n+1,c,h=>by
  have h2:(cJ c).i≤(cJ c).b.length:=by unfold cJ;dsimp only;split <;> omega
  rw[itC,Gl n _ h2]
  unfold cJ
  dsimp only
  split <;> omega
def qP (c:TCur):Prop:=gw (itC 5 c) % 3=2
theorem zR (c:TCur)(h:c.ok):∃k,qP (itC (6 * k) c):=by
 obtain⟨k,hk,h2⟩:=CM c.h (c.b.length+1)
 obtain⟨j,rfl⟩:∃j,k=j+1:=⟨k - 1,by omega⟩
 refine⟨j,?_⟩
 unfold qP
 rw[←rP]
 have hi:=Gl (6 * j+5) c h.1
 have hb:=Gh (6 * j+5) c
 unfold gw
 rw[hb,List.getElem?_eq_none (by rw[hi];omega),Gu]
 dsimp only
 have e:gq (itH (6 * j+5) c.h)=itH (6 * (j+1)) c.h:=(kE (6 * j+5) 1 c.h).symm
 rw[e]
 exact h2
structure SpOk (p:List TLine) (b:TBuild) (first second:Int):Prop where
 small:aA 1048576 (.lst 4 (p.map TLine.tr))
 prog:ax p=true
 build:aV b=true
 fb:1≤first∧first≤9000
 sb:20000≤second∧second≤1000000
 space:bp (dn p b first second)=true
noncomputable abbrev spH (p:List TLine) (b:TBuild) (first second:Int):List (Sim.Id×AO):=[((1,0,0),.arr true 2 [(aj p b 0).tr,(aj p b 1).tr]),((1,0,1),.arr true 1 [aa first,aa second]),((1,0,2),.arr true 1 ((entries p b first second).map aa))]
noncomputable def yC (c:TCur):Nat:=open Classical in if h:c.ok then Classical.choose (mC c 9000 h (by omega))else 0
theorem Bp {c:TCur}(h:c.ok):(yC c:Int) < 9000∧aS Tryz.prog 146 [fE,tI .i64 9000] (ec c) (tI .i64 (yC c:Int)) (ec (itC 4 c)):=by
 rw[yC,dif_pos h]
 exact Classical.choose_spec (mC c 9000 h (by omega))
noncomputable abbrev fL (c:TCur):List Int:=[1,100,5000,1+(yC c:Int)]
abbrev sL:List Int:=[20000,60000,1000000]
noncomputable def gA (c:TCur):Int:=(fL c)[gw (itC 4 c) % (fL c).length]?.getD 0
def dC (c:TCur):Int:=sL[gw (itC 5 c) % sL.length]?.getD 0
theorem mn {c:TCur}(h:c.ok):1≤gA c∧gA c≤9000:=by
 have hy:=(Bp h).1
 unfold gA
 have:gw (itC 4 c) % (fL c).length < 4:=Nat.mod_lt _ (by simp)
 generalize gw (itC 4 c) % (fL c).length=k at *
 rcases(show k=0∨k=1∨k=2∨k=3 by omega)with rfl|rfl|rfl|rfl
 all_goals(simp;try omega)
theorem uF (c:TCur):20000≤dC c∧dC c≤1000000:=by
 unfold dC
 have:gw (itC 5 c) % sL.length < 3:=Nat.mod_lt _ (by decide)
 generalize gw (itC 5 c) % sL.length=k at *
 rcases(show k=0∨k=1∨k=2 by omega)with rfl|rfl|rfl
 all_goals simp
theorem ob {c:TCur}(h:qP c):dC c=1000000:=by
 unfold dC qP at *
 rw[show sL.length=3 from rfl,h]
 rfl
noncomputable def jX (p:List TLine) (b:TBuild):Nat→TCur→Int×Int×TCur
 | 0,c=>(gA c,dC c,itC 6 c)
 | n+1,c=>if(fH p b (gA c) (dC c)).isSome=true then(gA c,dC c,itC 6 c)else jX p b n (itC 6 c)
theorem yk {p:List TLine}{b:TBuild}(hs:aA 1048576 (.lst 4 (p.map TLine.tr)))(h1:ax p=true)(h2:aV b=true):∀(n:Nat) (c:TCur),c.ok→qP (itC (6 * n) c)→(1≤(jX p b n c).1∧(jX p b n c).1≤9000)∧(20000≤(jX p b n c).2.1∧(jX p b n c).2.1≤1000000)∧(fH p b (jX p b n c).1 (jX p b n c).2.1).isSome=true
 | 0,c,hc,hg=>by
  refine⟨mn hc,uF c,?_⟩
  rw[jX]
  dsimp only
  rw[ob (show qP c from hg),uz hs h1 h2 (mn hc) (by omega)]
  rfl
 | n+1,c,hc,hg=>by
  rw[jX]
  split
  ·exact⟨mn hc,uF c,by assumption⟩
  ·refine yk hs h1 h2 n _ (ue 6 hc) ?_
   rw[←rP,show 6+6 * n=6 * (n+1) by omega]
   exact hg
theorem AJ {p:List TLine}{b:TBuild}{first second:Int}(h:(fH p b first second).isSome=true):ax p=true∧aV b=true∧bp (dn p b first second)=true∧fH p b first second=some (dn p b first second):=by
 unfold fH at *
 split at h
 ·rename_i hc;exact⟨hc.1,hc.2.1,hc.2.2,by rw[if_pos hc]⟩
 ·cases h
theorem rF (c:TCur)(hc:c.ok):∃(p:List TLine) (b:TBuild) (first second:Int) (c':TCur),SpOk p b first second∧aS Tryz.prog 90 [fE] (ec c) (.tup [.c (.t (.lst 4 (p.map TLine.tr))),.agg (b.tr.map .t),.agg [.own (1,0,0),.own (1,0,1),.own (1,0,2)]]) (ec c'++spH p b first second):=by
 have g1:=ph c hc
 obtain⟨q1,q2,q3,q4,q5⟩:=xY 5 c hc
 generalize iJ 5 c=R0 at *
 obtain⟨p,c1⟩:=R0
 dsimp only at *
 obtain⟨b,c2,hb,_,o2,g2⟩:=rx c1 q4
 have hs:=uE q5 q2
 obtain⟨K,hK⟩:=zR c2 o2
 obtain⟨r1,r2,r3⟩:=yk hs q1 hb K c2 o2 hK
 obtain⟨_,_,s3,s4⟩:=AJ r3
 obtain⟨R,hR⟩:∃R,jX p b K c2=R:=⟨_,rfl⟩
 rw[hR]at r1 r2 r3 s3 s4
 refine⟨p,b,R.1,R.2.1,R.2.2,⟨hs,q1,hb,r1,r2,s3⟩,?_⟩
 refine aw hΓ ay Tryz.func90 rfl (by decide) rfl rfl ?_
 repeat' ((conv=>whnf);first|apply Wx|apply W6|apply oi|(apply fi<;>intro h)|refine⟨_,rfl,?_⟩|exact rfl)
 all_goals try exact⟨KP⟩
 refine cg (g1) ?_
 repeat' ((conv=>whnf);first|apply Wx|apply W6|apply oi|(apply fi<;>intro h)|refine⟨_,rfl,?_⟩|exact rfl)
 all_goals try exact⟨KP⟩
 refine cg (g2) ?_
 repeat' ((conv=>whnf);first|apply Wx|apply W6|apply oi|(apply fi<;>intro h)|refine⟨_,rfl,?_⟩|exact rfl)
 all_goals try exact⟨KP⟩
 conv=>whnf
 refine⟨{q:Nat×TCur // q.2.ok∧qP (itC (6 * q.1) q.2)∧jX p b q.1 q.2=R},fun q=>⟨[(0,fE),(3,.r (.c (.ptr (3,0,0) 0))),(4,.r (.c (.ptr (4,0,0) 0))),(5,vP p),(6,.r (.c (.ptr (6,0,0) 0)))],[((0,0,0),some (.box [.t (.lst 1 (q.1.2.b.map aM)),.t (.int .i64 q.1.2.i),.t (.int .i64 q.1.2.h)])),((3,0,0),some (.box [.t (.int .i64 0),.t (.int .i64 0),.t (.bool false),.t (.bool false)])),((4,0,0),some (.box [.nils 0,.nils 0,.nils 0])),((6,0,0),some (.box (b.tr.map .t)))],[6,4,3,0]⟩,fun q=>q.1.1,⟨(K,c2),o2,hK,hR⟩,?_,?_⟩
 ·skip
  repeat' ((conv=>whnf);first|apply Wx|apply W6|apply oi|(apply fi<;>intro h)|refine⟨_,rfl,?_⟩|exact rfl)
  all_goals try exact⟨KP⟩
 intro⟨⟨n,ci⟩,hci,hg,hr⟩
 dsimp only at hci hg hr ⊢
 obtain⟨hy,gy⟩:=Bp hci
 have gf:=og (itC 4 ci) (fL ci) (ue 4 hci) (by simp) (by simp)
 have gs:=og (itC 5 ci) sL (ue 5 hci) (by decide) (by decide)
 have hL:=pX p b (gA ci) (dC ci) hs
 rw[show(fL ci)[gw (itC 4 ci) % (fL ci).length]?.getD 0=gA ci from rfl]at gf
 rw[show sL[gw (itC 5 ci) % sL.length]?.getD 0=dC ci from rfl]at gs
 have n4:cJ (itC 4 ci)=itC 5 ci:=rfl
 have n5:cJ (itC 5 ci)=itC 6 ci:=rfl
 rw[n4]at gf
 rw[n5]at gs
 have hw1:IntKind.i64.wrap (1+(yC ci:Int))=1+(yC ci:Int):=IntWalk.i64_in _ (by omega)
 cases hl:fH p b (gA ci) (dC ci)with
 | some sp=>
  have hl2:(fH p b (gA ci) (dC ci)).isSome=true:=by rw[hl];rfl
  have hRe:R=(gA ci,dC ci,itC 6 ci):=by
   rw[←hr]
   cases n with
   | zero=>rfl
   | succ n=>rw[jX,if_pos hl2]
  subst hRe
  dsimp only at s4 ⊢
  rw[hl]at hL s4
  injection s4 with s4
  subst s4
  simp only[oSp,dn]at hL
  repeat' ((conv=>whnf);first|apply Wx|apply W6|apply oi|(apply fi<;>intro h)|refine⟨_,rfl,?_⟩|exact rfl)
  all_goals try exact⟨KP⟩
  refine cg (gy) ?_
  repeat' ((conv=>whnf);first|apply Wx|apply W6|apply oi|(apply fi<;>intro h)|refine⟨_,rfl,?_⟩|exact rfl)
  all_goals try exact⟨KP⟩
  refine cg (gf) ?_
  repeat' ((conv=>whnf);first|apply Wx|apply W6|apply oi|(apply fi<;>intro h)|refine⟨_,rfl,?_⟩|exact rfl)
  all_goals try exact⟨KP⟩
  all_goals try exact⟨by rw[hw1];rfl⟩
  refine cg (gs) ?_
  repeat' ((conv=>whnf);first|apply Wx|apply W6|apply oi|(apply fi<;>intro h)|refine cl hL ?_|refine⟨_,rfl,?_⟩|exact rfl)
  all_goals try exact⟨KP⟩
 | none=>
  have hl2:¬(fH p b (gA ci) (dC ci)).isSome=true:=by rw[hl];simp
  cases n with
  | zero=>
   rw[ob (show qP ci from hg),uz hs q1 hb (mn hci) (by omega)]at hl
   cases hl
  | succ n=>
   rw[jX,if_neg hl2]at hr
   rw[hl]at hL
   repeat' ((conv=>whnf);first|apply Wx|apply W6|apply oi|(apply fi<;>intro h)|refine⟨_,rfl,?_⟩|exact rfl)
   all_goals try exact⟨KP⟩
   refine cg (gy) ?_
   repeat' ((conv=>whnf);first|apply Wx|apply W6|apply oi|(apply fi<;>intro h)|refine⟨_,rfl,?_⟩|exact rfl)
   all_goals try exact⟨KP⟩
   refine cg (gf) ?_
   repeat' ((conv=>whnf);first|apply Wx|apply W6|apply oi|(apply fi<;>intro h)|refine⟨_,rfl,?_⟩|exact rfl)
   all_goals try exact⟨KP⟩
   all_goals try exact⟨by rw[hw1];rfl⟩
   refine cg (gs) ?_
   repeat' ((conv=>whnf);first|apply Wx|apply W6|apply oi|(apply fi<;>intro h)|refine cl hL ?_|refine⟨_,rfl,?_⟩|exact rfl)
   all_goals try exact⟨KP⟩
   all_goals try exact KX
   conv=>whnf
   refine⟨⟨(n,itC 6 ci),ue 6 hci,by dsimp only;rw[←rP,show 6+6 * n=6 * (n+1) by omega];exact hg,hr⟩,?_,KD⟩
   repeat' ((conv=>whnf);first|apply Wx|apply W6|apply oi|(apply fi<;>intro h)|refine⟨_,rfl,?_⟩|exact rfl)
   all_goals try exact⟨KP⟩
theorem pz (code:List UInt8)(hl:code.length≤1048576):∃(p:List TLine) (b:TBuild) (first second:Int),SpOk p b first second∧
  aS Tryz.prog 21 [Hx code] [] (.tup [.c (.t (.lst 4 (p.map TLine.tr))),.agg (b.tr.map .t),.agg [.own (1,0,0),.own (1,0,1),.own (1,0,2)]]) (spH p b first second):=by
 have g0:=uY code hl
 obtain⟨p,b,first,second,c',hok,g1⟩:=rF _ (Fr hl)
 refine⟨p,b,first,second,hok,?_⟩
 refine aw hΓ ay Tryz.func21 rfl (by decide) rfl rfl ?_
 repeat' ((conv=>whnf);first|apply Wx|apply W6|apply oi|(apply fi<;>intro h)|refine⟨_,rfl,?_⟩|exact rfl)
 all_goals try exact⟨KP⟩
 refine cg (g0) ?_
 repeat' ((conv=>whnf);first|apply Wx|apply W6|apply oi|(apply fi<;>intro h)|refine⟨_,rfl,?_⟩|exact rfl)
 all_goals try exact⟨KP⟩
 refine cg (g1) ?_
 repeat' ((conv=>whnf);first|apply Wx|apply W6|apply oi|(apply fi<;>intro h)|refine⟨_,rfl,?_⟩|exact rfl)
 all_goals try exact⟨KP⟩
structure StartAt (p:List TLine) (b:TBuild) (f i:Nat) (x:Nat×List TPlace):Prop where
 at_:(imL p b (cf b f))[i]?=some x
 fn:x.1=f
 start:bW p b f=((aq (aD ((imL p b (cf b f)).take i))).length:Int)
theorem tX {p:List TLine}{b:TBuild}{f:Nat}(hf:f < (aF p).length):∃i x,StartAt p b f i x:=by
 have hi:=iL b f
 obtain⟨s,hs⟩:=ki (f:=f) (a:=0) ((imgL_mem (p:=p) (b:=b) (image:=cf b f) (n:=(aF p).length) (f:=0) (at0:=0) (g:=f)).2 ⟨by omega,by omega,(qa hi).2 rfl⟩)
 obtain⟨i,x,h1,h2,h3⟩:=sS hs
 refine⟨i,x,h1,h2,?_⟩
 rw[bW,show imL p b (cf b f)=ct p b (cf b f) (aF p).length 0 0 from rfl,hs]
 show s=_
 omega
theorem vI {L:List (Nat×List TPlace)}{i:Nat}{x:Nat×List TPlace}(h:L[i]?=some x):aD L=aD (L.take i)++(x.2++aD (L.drop (i+1))):=by
 have e:L=L.take i++x::L.drop (i+1):=by rw[←cP h,List.take_append_drop]
 conv=>lhs;rw[e]
 simp[aD]
section
variable {p:List TLine} {b:TBuild}
theorem BI (hs:aA 1048576 (.lst 4 (p.map TLine.tr)))(h1:ax p=true)(h2:aV b=true){f i:Nat}{x:Nat×List TPlace}(h:StartAt p b f i x):
  0 < (aq x.2).length∧∃(o:TOp) (z:Nat),aU (aj p b (cf b f)).fab (bW p b f)=some (o,z)∧(o.fab=13∨o.fab=15):=by
 have h3:ah (cf b f) 0 1=true:=by have:=iL b f;rw[within_iff];omega
 obtain⟨g1,g2,g3⟩:=h
 obtain⟨y,hy⟩:=ag (mf hs h1 h2 (by omega) g1).2.2
 have hp:=(kl hs h1 h2 g1 hy).1
 have hsz:=AK hp.op
 have hel:=eT hp.op
 have hpos:0 < (aq x.2).length:=by
  obtain⟨c,l⟩:=x
  cases l with
  | nil=>simp at hy
  | cons a l=>
   simp only[List.getElem?_cons_zero,Option.some.injEq]at hy
   subst hy
   rw[show aq (a::l)=aX a.fal.fad++aq l by simp[aq],List.length_append]
   omega
 refine⟨hpos,y.fal.fad,(aK y.fal.fad.fab).toNat,?_,(hp.head rfl).1⟩
 have hopAll:∀z∈x.2,cY z.fal.fad.fab z.fal.fad.faf=true:=fun z hz=>by
  obtain⟨j,hj⟩:=List.mem_iff_getElem?.1 hz
  exact(kl hs h1 h2 g1 hj).1.op
 have hd:=yw hopAll hy (aq (aD ((imL p b (cf b f)).take i))) (aq (aD ((imL p b (cf b f)).drop (i+1))))
 rw[aj,if_pos ⟨h1,h2,h3⟩,g3]
 dsimp only
 have e:=vI g1
 rw[show imL p b (cf b f)=ct p b (cf b f) (aF p).length 0 0 from rfl]at *
 rw[e,aO,aO,←List.append_assoc]
 simpa [aq]using hd
theorem zO (hs:aA 1048576 (.lst 4 (p.map TLine.tr)))(h1:ax p=true)(h2:aV b=true){f:Nat}(hf:f < (aF p).length):0≤bW p b f∧bW p b f < (aj p b (cf b f)).fab.length:=by
 obtain⟨i,x,h⟩:=tX (b:=b) hf
 have hp:=(BI hs h1 h2 h).1
 obtain⟨g1,g2,g3⟩:=h
 have h3:ah (cf b f) 0 1=true:=by have:=iL b f;rw[within_iff];omega
 have e:=vI g1
 have e2:=congrArg List.length (congrArg aq e)
 rw[aO,aO,List.length_append,List.length_append]at e2
 rw[aj,if_pos ⟨h1,h2,h3⟩,g3]
 refine⟨by omega,?_⟩
 show _ < (((aq (aD (imL p b (cf b f)))).length:Nat):Int)
 omega
end
structure EntP (p:List TLine) (b:TBuild) (first second:Int) (f i:Nat) (im:TImage) (base:Int):Prop where
 no:(i:Int)=cf b f
 lt:i < 2
 img:[aj p b 0,aj p b 1][i]?=some im
 bas:[first,second][i]?=some base
 imE:im=aj p b (cf b f)
 range:1≤base∧base≤1000000
 len:im.fab.length≤75000
 ok:ba im=true
 start:0≤bW p b f∧bW p b f < im.fab.length
 entry:dA p b first second f=base+bW p b f
 loc:zB (dn p b first second) (dA p b first second f)=((i:Int),bW p b f)
 op:∃(o:TOp) (z:Nat),aU im.fab (bW p b f)=some (o,z)∧(o.fab=13∨o.fab=15)
theorem Fc {p:List TLine}{b:TBuild}{first second:Int}(h:SpOk p b first second){f:Nat}(hf:f < (aF p).length):∃i im base,EntP p b first second f i im base:=by
 have a0:=eQ h.small h.prog h.build (image:=0) (by decide)
 have a1:=eQ h.small h.prog h.build (image:=1) (by decide)
 have hst:=zO h.small h.prog h.build hf
 obtain⟨k,x,hx⟩:=tX (b:=b) hf
 have hop:=(BI h.small h.prog h.build hx).2
 have hfb:=h.fb
 have hsb:=h.sb
 have hsp:=h.space
 have hno:cI (aj p b 0) (aj p b 1) first second=false:=by
  have:ez (aj p b 0) (aj p b 1) first second (entries p b first second)=true:=hsp
  unfold ez at this
  simp only[Bool.and_eq_true,Bool.not_eq_true']at this
  exact this.2.2.2.2.2.1
 have hloc:∀e,zB (dn p b first second) e=eb (aj p b 0) (aj p b 1) first second e:=fun e=>rfl
 rcases iL b f with e|e
 ·rw[e]at hst hop
  have hent:dA p b first second f=first+bW p b f:=by
   rw[dA,e,if_neg (by decide),IntWalk.i64_in _ (by omega)]
  refine⟨0,aj p b 0,first,by rw[e];rfl,by omega,rfl,rfl,by rw[e],by omega,a0.2,a0.1,hst,hent,?_,hop⟩
  rw[hloc,hent,eb,if_pos ⟨by omega,by omega⟩,show first+bW p b f - first=bW p b f by omega]
  rfl
 ·rw[e]at hst hop
  have hent:dA p b first second f=second+bW p b f:=by
   rw[dA,e,if_pos rfl,IntWalk.i64_in _ (by omega)]
  refine⟨1,aj p b 1,second,by rw[e];rfl,by omega,rfl,rfl,by rw[e],by omega,a1.2,a1.1,hst,hent,?_,hop⟩
  rw[hloc,hent,eb,if_neg,if_pos ⟨by omega,by omega⟩,show second+bW p b f - second=bW p b f by omega]
  ·rfl
  ·intro hc
   unfold cI at hno
   simp only[Bool.and_eq_false_iff,decide_eq_false_iff_not]at hno
   omega
theorem zg {p:List TLine}{b:TBuild}{first second:Int}{f:Nat}(hf:f < (aF p).length):(entries p b first second)[f]?=some (dA p b first second f):=by
 rw[entries,List.getElem?_map,List.getElem?_range hf];rfl
theorem zo {p:List TLine}{b:TBuild}{first second:Int}:(entries p b first second).length=(aF p).length:=by
 rw[entries,List.length_map,List.length_range]
def bf (a:Int):Bool:=ah a 0 1199
abbrev wr (n:Int):Int:=IntKind.i64.wrap n
structure CS where
 m:TMachine
 bad:Bool
def CS.ok (c:CS):Prop:=c.m.fao.length=1200
def eO (m:TMachine)(a:Int):Int:=match m.fao[a.toNat]? with|some x=>x|none=>0
def po (m:TMachine)(a v:Int):TMachine:={m with fao:=m.fao.set a.toNat v}
def cAt (c:CS)(a:Int):CS:=⟨c.m,c.bad || !bf a⟩
def bS (c:CS)(v:Int):CS:=if(c.bad || !bf (wr (c.m.fae - 1)))=true then⟨c.m,true⟩else⟨{po c.m (wr (c.m.fae - 1)) v with fae:=wr (c.m.fae - 1)},false⟩
def aB (c:CS):CS:=if(c.bad || !bf c.m.fae)=true then⟨c.m,true⟩else⟨{c.m with fae:=c.m.fae+1},false⟩
def iK (c:CS):Int:=if(c.bad || !bf c.m.fae)=true then 0 else eO c.m c.m.fae
def bn:Nat→CS→CS
 | 0,c=>c
 | n+1,c=>bn n (aB c)
def eM:Nat→CS→CS
 | 0,c=>c
 | n+1,c=>eM n (bS c 0)
def je (c:CS)(a:Int):CS:=if(c.bad || !bf a)=true then⟨c.m,true⟩else bS ⟨c.m,false⟩ (eO c.m a)
def fu (c:CS)(a:Int):CS:=if((aB c).bad || !bf a)=true then⟨(aB c).m,true⟩else⟨po (aB c).m a (iK c),false⟩
theorem inStk_iff {a:Int}:bf a=true↔0≤a∧a≤1199:=within_iff
theorem dK {c:CS}{v:Int}(h:c.ok):(bS c v).ok:=by
 unfold bS CS.ok at *
 split
 ·exact h
 ·simpa [po]using h
theorem aG {c:CS}(h:c.ok):(aB c).ok:=by
 unfold aB CS.ok at *
 split
 ·exact h
 ·exact h
theorem cX:∀{n:Nat} {c:CS},c.ok→(bn n c).ok
 | 0,_,h=>h
 | n+1,c,h=>cX (n:=n) (aG h)
theorem pZ:∀{n:Nat} {c:CS},c.ok→(eM n c).ok
 | 0,_,h=>h
 | n+1,c,h=>pZ (n:=n) (dK h)
theorem yP {c:CS}{a:Int}(h:c.ok):(je c a).ok:=by
 unfold je
 split
 ·exact h
 ·exact dK (c:=⟨c.m,false⟩) h
theorem vD {c:CS}{a:Int}(h:c.ok):(fu c a).ok:=by
 have:=aG h
 unfold fu
 split
 ·exact this
 ·unfold CS.ok at *;simpa [po]using this
abbrev FX (m:TMachine)(st out:Sim.Id):AO:= .box [.t (.int .i64 m.fap),.t (.int .i64 m.fae),.t (.int .i64 m.fan),.own st,.own out,.t (.int .i64 m.fai),.t (.int .i64 m.fay)]
abbrev eZ (c:CS):List (Sim.Id×AO):=[((0,0,0),.box [.ptr (0,0,1) 0,.t (.bool c.bad)]),((0,0,1),FX c.m (0,0,2) (0,0,3)),((0,0,2),.arr false 1 (c.m.fao.map aa)),((0,0,3),.arr false 1 (c.m.fah.map aa))]
abbrev eA:AV:= .r (.c (.ptr (0,0,0) 0))
theorem eS (c:CS)(a:Int):aS Tryz.prog 163 [eA,tI .i64 a] (eZ c) (tB (!(c.bad || !bf a))) (eZ (cAt c a)):=by
 obtain⟨m,bad⟩:=c
 refine bb hΓ ay Tryz.func163 rfl (by decide) rfl rfl ?_
 have hb:=bm a 0 1199
 unfold cAt bf
 cases hin:ah a 0 1199
 all_goals
  rw[hin]at hb
  cases bad
  all_goals
   repeat' ((conv=>whnf);first|refine Or.inl ?_|apply oi|(apply fi<;>intro h)|refine ci hb (ai rfl (ai rfl (ai rfl trivial))) ?_|refine⟨_,rfl,?_⟩|exact rfl)
   all_goals try exact⟨KO⟩
   all_goals try(exfalso;simp at h;done)
theorem iy {l:List Int}{a:Int}(hl:l.length=1200)(h:bf a=true):∃(j:Nat) (x:Int),a=(j:Int)∧l[j]?=some x∧j < l.length∧j≤1199:=by
 have h':=inStk_iff.1 h
 obtain⟨j,rfl⟩:=Int.eq_ofNat_of_zero_le h'.1
 obtain⟨x,hx⟩:=ag (l:=l) (k:=j) (by omega)
 exact⟨j,x,rfl,hx,by omega,by omega⟩
theorem oR {l:List Int}{j:Nat}{v:Int}:(l.map aa).set j (aa v)=(l.set j v).map aa:=by rw[List.map_set]
theorem jQ {a b:Bool}(h:(a || !b)=false):a=false∧b=true:=by cases a <;> cases b <;> simp at h ⊢
theorem db (c:CS)(v:Int)(hc:c.ok):aS Tryz.prog 215 [eA,tI .i64 v] (eZ c) (.tup []) (eZ (bS c v)):=by
 refine bb hΓ ay Tryz.func215 rfl (by decide) rfl rfl ?_
 have hA:=eS c (wr (c.m.fae - 1))
 obtain⟨m,bad⟩:=c
 unfold CS.ok at hc
 unfold bS cAt at *
 dsimp only at hA hc ⊢
 cases hB:(bad || !bf (wr (m.fae - 1)))with
 | true=>
  rw[hB]at hA
  repeat' ((conv=>whnf);first|refine cg hA ?_|refine af ?_|apply ae|apply oi|(apply fi<;>intro h)|refine⟨_,rfl,?_⟩|exact rfl)
  all_goals try exact⟨KO⟩
  all_goals try(exfalso;simp at h;done)
 | false=>
  rw[hB]at hA
  obtain⟨_,hin⟩:=jQ hB
  obtain⟨j,x,hj,hx,hlt,_⟩:=iy hc hin
  have hlen:(m.fao.map aa).length=m.fao.length:=by simp
  repeat' ((conv=>whnf);first|refine cg hA ?_|refine af ?_|apply ae|apply oi|(apply fi<;>intro h)|refine⟨_,rfl,?_⟩|exact rfl)
  all_goals try exact⟨KO⟩
  conv=>whnf
  refine⟨j,hj,by rw[hlen];exact hlt,?_⟩
  repeat' ((conv=>whnf);first|refine af ?_|apply ae|apply oi|(apply fi<;>intro h)|refine⟨(aa x),ab hx,?_⟩|refine⟨_,rfl,?_⟩|exact rfl)
  all_goals try exact⟨KO⟩
  all_goals try(exfalso;simp at h;done)
  all_goals try(refine⟨?_⟩;rw[←show(wr (m.fae - 1)).toNat=j by rw[hj];rfl];exact oR)
theorem cz (c:CS)(hc:c.ok):aS Tryz.prog 218 [eA] (eZ c) (tI .i64 (iK c)) (eZ (aB c)):=by
 refine bb hΓ ay Tryz.func218 rfl (by decide) rfl rfl ?_
 have hA:=eS c c.m.fae
 obtain⟨m,bad⟩:=c
 unfold CS.ok at hc
 unfold aB iK cAt at *
 dsimp only at hA hc ⊢
 cases hB:(bad || !bf m.fae)with
 | true=>
  rw[hB]at hA
  repeat' ((conv=>whnf);first|refine cg hA ?_|refine af ?_|apply ae|apply oi|(apply fi<;>intro h)|refine⟨_,rfl,?_⟩|exact rfl)
  all_goals try exact⟨KO⟩
  all_goals try(exfalso;simp at h;done)
 | false=>
  rw[hB]at hA
  obtain⟨_,hin⟩:=jQ hB
  obtain⟨j,x,hj,hx,hlt,hj2⟩:=iy hc hin
  have hlen:(m.fao.map aa).length=m.fao.length:=by simp
  have hw:IntKind.i64.wrap (m.fae+1)=m.fae+1:=IntWalk.i64_in _ (by omega)
  repeat' ((conv=>whnf);first|refine cg hA ?_|refine af ?_|apply ae|apply oi|(apply fi<;>intro h)|refine⟨_,rfl,?_⟩|exact rfl)
  all_goals try exact⟨KO⟩
  conv=>whnf
  refine⟨j,?_,by rw[hlen];exact hlt,?_⟩
  ·show IntKind.i64.wrap (IntKind.i64.wrap (m.fae+1) - 1)=(j:Int)
   rw[hw,IntWalk.i64_in _ (by omega)];omega
  repeat' ((conv=>whnf);first|refine af ?_|apply ae|apply oi|(apply fi<;>intro h)|refine⟨(aa x),ab hx,?_⟩|refine⟨_,rfl,?_⟩|exact rfl)
  all_goals try exact⟨KO⟩
  all_goals try(exfalso;simp at h;done)
  all_goals first
   | exact⟨congrArg (Tr.int _) hw⟩
   |(refine⟨congrArg (Tr.int _) ?_⟩;simp[eO,hj,hx];done)
theorem ly (c:CS)(n:Nat)(hc:c.ok)(hn:n≤65536):aS Tryz.prog 221 [eA,tI .i64 (n:Int)] (eZ c) (.tup []) (eZ (bn n c)):=by
 refine bb hΓ ay Tryz.func221 rfl (by decide) rfl rfl ?_
 obtain⟨R,hR⟩:∃R,bn n c=R:=⟨_,rfl⟩
 rw[hR]
 repeat' ((conv=>whnf);first|refine af ?_|apply ae|apply oi|(apply fi<;>intro h)|refine⟨_,rfl,?_⟩|exact rfl)
 all_goals try exact⟨KO⟩
 conv=>whnf
 refine⟨{q:Nat×CS // q.1≤65536∧q.2.ok∧bn q.1 q.2=R},fun q=>⟨[(0,eA),(1,tI .i64 (q.1.1:Int))],(eZ q.1.2).map fun p=>(p.1,some p.2),[0]⟩,fun q=>q.1.1,⟨(n,c),hn,hc,hR⟩,?_,?_⟩
 ·skip
  repeat' ((conv=>whnf);first|refine af ?_|apply ae|apply oi|(apply fi<;>intro h)|refine⟨_,rfl,?_⟩|exact rfl)
  all_goals try exact⟨KO⟩
 intro⟨⟨k,d⟩,hk,hd,hr⟩
 dsimp only at hk hd hr ⊢
 cases k with
 | zero=>
  rw[bn]at hr
  subst hr
  repeat' ((conv=>whnf);first|refine af ?_|apply ae|apply oi|(apply fi<;>intro h)|refine⟨_,rfl,?_⟩|exact rfl)
  all_goals try exact⟨KO⟩
  all_goals try(exfalso;have h':=of_decide_eq_true h;omega)
 | succ k=>
  rw[bn]at hr
  have hP:=cz d hd
  repeat' ((conv=>whnf);first|refine cg hP ?_|refine af ?_|apply ae|apply oi|(apply fi<;>intro h)|refine⟨_,rfl,?_⟩|exact rfl)
  all_goals try exact⟨KO⟩
  all_goals try(exfalso;have h':=of_decide_eq_false h;omega)
  conv=>whnf
  refine⟨⟨(k,aB d),by dsimp only;omega,aG hd,hr⟩,?_,KD⟩
  repeat' ((conv=>whnf);first|refine af ?_|apply ae|apply oi|(apply fi<;>intro h)|refine⟨_,rfl,?_⟩|exact rfl)
  all_goals try exact⟨KO⟩
  all_goals try(refine⟨congrArg (Tr.int _) ?_⟩;dsimp only;rw[IntWalk.i64_in _ (by omega)];omega)
theorem oW (c:CS)(n:Nat)(hc:c.ok)(hn:n≤65536):aS Tryz.prog 220 [eA,tI .i64 (n:Int)] (eZ c) (.tup []) (eZ (eM n c)):=by
 refine bb hΓ ay Tryz.func220 rfl (by decide) rfl rfl ?_
 obtain⟨R,hR⟩:∃R,eM n c=R:=⟨_,rfl⟩
 rw[hR]
 repeat' ((conv=>whnf);first|refine af ?_|apply ae|apply oi|(apply fi<;>intro h)|refine⟨_,rfl,?_⟩|exact rfl)
 all_goals try exact⟨KO⟩
 conv=>whnf
 refine⟨{q:Nat×CS // q.1≤65536∧q.2.ok∧eM q.1 q.2=R},fun q=>⟨[(0,eA),(1,tI .i64 (q.1.1:Int))],(eZ q.1.2).map fun p=>(p.1,some p.2),[0]⟩,fun q=>q.1.1,⟨(n,c),hn,hc,hR⟩,?_,?_⟩
 ·skip
  repeat' ((conv=>whnf);first|refine af ?_|apply ae|apply oi|(apply fi<;>intro h)|refine⟨_,rfl,?_⟩|exact rfl)
  all_goals try exact⟨KO⟩
 intro⟨⟨k,d⟩,hk,hd,hr⟩
 dsimp only at hk hd hr ⊢
 cases k with
 | zero=>
  rw[eM]at hr
  subst hr
  repeat' ((conv=>whnf);first|refine af ?_|apply ae|apply oi|(apply fi<;>intro h)|refine⟨_,rfl,?_⟩|exact rfl)
  all_goals try exact⟨KO⟩
  all_goals try(exfalso;have h':=of_decide_eq_true h;omega)
 | succ k=>
  rw[eM]at hr
  have hP:=db d 0 hd
  repeat' ((conv=>whnf);first|refine cg hP ?_|refine af ?_|apply ae|apply oi|(apply fi<;>intro h)|refine⟨_,rfl,?_⟩|exact rfl)
  all_goals try exact⟨KO⟩
  all_goals try(exfalso;have h':=of_decide_eq_false h;omega)
  conv=>whnf
  refine⟨⟨(k,bS d 0),by dsimp only;omega,dK hd,hr⟩,?_,KD⟩
  repeat' ((conv=>whnf);first|refine af ?_|apply ae|apply oi|(apply fi<;>intro h)|refine⟨_,rfl,?_⟩|exact rfl)
  all_goals try exact⟨KO⟩
  all_goals try(refine⟨congrArg (Tr.int _) ?_⟩;dsimp only;rw[IntWalk.i64_in _ (by omega)];omega)
theorem qT (c:CS)(a:Int)(hc:c.ok):aS Tryz.prog 216 [eA,tI .i64 a] (eZ c) (.tup []) (eZ (je c a)):=by
 refine bb hΓ ay Tryz.func216 rfl (by decide) rfl rfl ?_
 have hA:=eS c a
 obtain⟨m,bad⟩:=c
 unfold CS.ok at hc
 unfold je cAt at *
 dsimp only at hA hc ⊢
 cases hB:(bad || !bf a)with
 | true=>
  rw[hB]at hA
  repeat' ((conv=>whnf);first|refine cg hA ?_|refine af ?_|apply ae|apply oi|(apply fi<;>intro h)|refine⟨_,rfl,?_⟩|exact rfl)
  all_goals try exact⟨KO⟩
  all_goals try(exfalso;simp at h;done)
 | false=>
  rw[hB]at hA
  obtain⟨_,hin⟩:=jQ hB
  obtain⟨j,x,hj,hx,hlt,hj2⟩:=iy hc hin
  have hlen:(m.fao.map aa).length=m.fao.length:=by simp
  have hP:=db ⟨m,false⟩ x hc
  have hwd:eO m a=x:=by simp[eO,hj,hx]
  rw[hwd]
  repeat' ((conv=>whnf);first|refine cg hA ?_|refine af ?_|apply ae|apply oi|(apply fi<;>intro h)|refine⟨_,rfl,?_⟩|exact rfl)
  all_goals try exact⟨KO⟩
  conv=>whnf
  refine⟨j,hj,by rw[hlen];exact hlt,?_⟩
  repeat' ((conv=>whnf);first|refine cg hP ?_|refine af ?_|apply ae|apply oi|(apply fi<;>intro h)|refine⟨(aa x),ab hx,?_⟩|refine⟨_,rfl,?_⟩|exact rfl)
  all_goals try exact⟨KO⟩
  all_goals try(exfalso;simp at h;done)
theorem oV (c:CS)(a:Int)(hc:c.ok):aS Tryz.prog 217 [eA,tI .i64 a] (eZ c) (.tup []) (eZ (fu c a)):=by
 refine bb hΓ ay Tryz.func217 rfl (by decide) rfl rfl ?_
 have hP:=cz c hc
 have hA:=eS (aB c) a
 have hok:=aG hc
 generalize hD:aB c=d at *
 unfold fu cAt at *
 rw[hD]
 obtain⟨m,bad⟩:=d
 unfold CS.ok at hok
 dsimp only at hA hok ⊢
 cases hB:(bad || !bf a)with
 | true=>
  rw[hB]at hA
  repeat' ((conv=>whnf);first|refine cg hP ?_|refine cg hA ?_|refine af ?_|apply ae|apply oi|(apply fi<;>intro h)|refine⟨_,rfl,?_⟩|exact rfl)
  all_goals try exact⟨KO⟩
  all_goals try(exfalso;simp at h;done)
 | false=>
  rw[hB]at hA
  obtain⟨_,hin⟩:=jQ hB
  obtain⟨j,x,hj,hx,hlt,hj2⟩:=iy hok hin
  have hlen:(m.fao.map aa).length=m.fao.length:=by simp
  repeat' ((conv=>whnf);first|refine cg hP ?_|refine cg hA ?_|refine af ?_|apply ae|apply oi|(apply fi<;>intro h)|refine⟨_,rfl,?_⟩|exact rfl)
  all_goals try exact⟨KO⟩
  conv=>whnf
  refine⟨j,hj,by rw[hlen];exact hlt,?_⟩
  repeat' ((conv=>whnf);first|refine af ?_|apply ae|apply oi|(apply fi<;>intro h)|refine⟨(aa x),ab hx,?_⟩|refine⟨_,rfl,?_⟩|exact rfl)
  all_goals try exact⟨KO⟩
  all_goals try(exfalso;simp at h;done)
  all_goals try(refine⟨?_⟩;rw[←show a.toNat=j by rw[hj];rfl];exact oR)
def mB (c:CS)(a:Int):CS:=⟨{c.m with fap:=wr (c.m.fap+a)},c.bad⟩
def wQ (c:CS)(k:Int):CS:=bS (aB (aB c)) (cK k (iK (aB c)) (iK c))
def qS (c:CS)(a:Int):CS:=if iK c=0 then mB (aB c) a else aB c
def qq (c:CS)(es:List Int)(a:Int):CS:=match es[a.toNat]? with
 | some e=>⟨{c.m with fap:=e},c.bad⟩
 | none=>⟨c.m,true⟩
def xl (c:CS)(n:Nat):CS:=eM n ⟨{(bS c c.m.fan).m with fan:=(bS c c.m.fan).m.fae},(bS c c.m.fan).bad⟩
def cFp (c:CS):CS:=⟨{(aB c).m with fan:=iK c},(aB c).bad⟩
def cPc (c:CS):CS:=⟨{(aB c).m with fap:=iK c},(aB c).bad⟩
def eD (c:CS):CS:=⟨{c.m with fae:=c.m.fan},c.bad⟩
def xc (c:CS)(n:Nat):CS:=bS (bn n (cPc (cFp (eD (aB c))))) (iK c)
def rO (c:CS)(n:Nat):CS:=bS (bn (n % 16) (cPc (bn (n / 16) (aB c)))) (iK c)
def vf (c:CS):CS:=⟨{(aB c).m with fah:=(aB c).m.fah++[iK c]},(aB c).bad⟩
def ce (es:List Int)(c:CS)(x:TOp):CS:=
 if x.fab=0 then bS c x.faf
 else if x.fab=1 then je c (wr (c.m.fan+x.faf))
 else if x.fab=3 then je c (wr (c.m.fae+x.faf))
 else if x.fab=2 then fu c (wr (c.m.fan+x.faf))
 else if x.fab=4 then fu c (wr (c.m.fae+x.faf))
 else if 5≤x.fab∧x.fab≤9 then wQ c (x.fab - 3)
 else if x.fab=10 then mB c x.faf
 else if x.fab=11 then qS c x.faf
 else if x.fab=12 then qq (bS c c.m.fap) es x.faf
 else if x.fab=13 then xl c x.faf.toNat
 else if x.fab=15 then eM x.faf.toNat c
 else if x.fab=14 then xc c x.faf.toNat
 else if x.fab=16 then rO c x.faf.toNat
 else if x.fab=17 then vf c
 else c
abbrev opV (x:TOp):AV:= .r (.agg [.t (.int .i64 x.fab),.t (.int .i64 x.faf)])
abbrev HB (c:CS):List (Sim.Id×AO):=[((0,0,0),.box [.ptr (0,0,1) 0,.t (.bool c.bad)]),((0,0,1),FX c.m (0,0,2) (1,0,0)),((0,0,2),.arr false 1 (c.m.fao.map aa)),((1,0,0),.arr false 1 (c.m.fah.map aa))]
theorem ll (s:TSpace)(c:CS)(x:TOp)(hc:c.ok)(hx:x.fab≠17)(ha:12≤x.fab→x.fab≤16→0≤x.faf∧x.faf≤65536)(he:s.faq.length≤1048576):aS Tryz.prog 162 [eA,.r (.agg (s.tr.map .t)),opV x] (eZ c) (.tup []) (eZ (ce s.faq c x)):=by
 obtain⟨k,a⟩:=x
 dsimp only at hx ha
 refine bb hΓ ay Tryz.func162 rfl (by decide) rfl rfl ?_
 by_cases h0:k=0
 ·subst h0
  have hP:=db c a hc
  repeat' ((conv=>whnf);first|refine cg hP ?_|refine af ?_|apply ae|apply oi|(apply fi<;>intro h)|refine⟨_,rfl,?_⟩|exact rfl)
  all_goals try exact⟨KO⟩
 by_cases h1:k=1
 ·subst h1
  have hP:=qT c (wr (c.m.fan+a)) hc
  repeat' ((conv=>whnf);first|refine cg hP ?_|refine af ?_|apply ae|apply oi|(apply fi<;>intro h)|refine⟨_,rfl,?_⟩|exact rfl)
  all_goals try exact⟨KO⟩
 by_cases h3:k=3
 ·subst h3
  have hP:=qT c (wr (c.m.fae+a)) hc
  repeat' ((conv=>whnf);first|refine cg hP ?_|refine af ?_|apply ae|apply oi|(apply fi<;>intro h)|refine⟨_,rfl,?_⟩|exact rfl)
  all_goals try exact⟨KO⟩
 by_cases h2:k=2
 ·subst h2
  have hP:=oV c (wr (c.m.fan+a)) hc
  repeat' ((conv=>whnf);first|refine cg hP ?_|refine af ?_|apply ae|apply oi|(apply fi<;>intro h)|refine⟨_,rfl,?_⟩|exact rfl)
  all_goals try exact⟨KO⟩
 by_cases h4:k=4
 ·subst h4
  have hP:=oV c (wr (c.m.fae+a)) hc
  repeat' ((conv=>whnf);first|refine cg hP ?_|refine af ?_|apply ae|apply oi|(apply fi<;>intro h)|refine⟨_,rfl,?_⟩|exact rfl)
  all_goals try exact⟨KO⟩
 by_cases h10:k=10
 ·subst h10
  repeat' ((conv=>whnf);first|refine af ?_|apply ae|apply oi|(apply fi<;>intro h)|refine⟨_,rfl,?_⟩|exact rfl)
  all_goals try exact⟨KO⟩
 by_cases h59:5≤k∧k≤9
 ·have hP1:=cz c hc
  have hP2:=cz (aB c) (aG hc)
  have hP3:=db (aB (aB c)) (cK (k - 3) (iK (aB c)) (iK c)) (aG (aG hc))
  have hA:=xd (k - 3) (iK (aB c)) (iK c)
  have e:k=5∨k=6∨k=7∨k=8∨k=9:=by omega
  rcases e with rfl|rfl|rfl|rfl|rfl
  all_goals
   repeat' ((conv=>whnf);first|refine af ?_|apply ae|apply oi|(apply fi<;>intro h)|refine⟨_,rfl,?_⟩|exact rfl)
   all_goals try exact⟨KO⟩
   refine cg (hP1) ?_
   repeat' ((conv=>whnf);first|refine af ?_|apply ae|apply oi|(apply fi<;>intro h)|refine⟨_,rfl,?_⟩|exact rfl)
   all_goals try exact⟨KO⟩
   refine cg (hP2) ?_
   repeat' ((conv=>whnf);first|refine af ?_|apply ae|apply oi|(apply fi<;>intro h)|refine cl hA ?_|refine⟨_,rfl,?_⟩|exact rfl)
   all_goals try exact⟨KO⟩
   refine cg (hP3) ?_
   repeat' ((conv=>whnf);first|refine af ?_|apply ae|apply oi|(apply fi<;>intro h)|refine⟨_,rfl,?_⟩|exact rfl)
   all_goals try exact⟨KO⟩
 by_cases h11:k=11
 ·subst h11
  have hP:=cz c hc
  by_cases hz:iK c=0
  ·rw[show ce s.faq c ⟨11,a⟩=mB (aB c) a by simp[ce,qS,hz]]
   repeat' ((conv=>whnf);first|refine cg hP ?_|refine af ?_|apply ae|apply oi|(apply fi<;>intro h)|refine⟨_,rfl,?_⟩|exact rfl)
   all_goals try exact⟨KO⟩
   all_goals try(exfalso;rw[hz]at h;simp at h;done)
  ·rw[show ce s.faq c ⟨11,a⟩=aB c by simp[ce,qS,hz]]
   repeat' ((conv=>whnf);first|refine cg hP ?_|refine af ?_|apply ae|apply oi|(apply fi<;>intro h)|refine⟨_,rfl,?_⟩|exact rfl)
   all_goals try exact⟨KO⟩
   all_goals try(exfalso;exact hz (by simpa using h))
 by_cases h12:k=12
 ·subst h12
  obtain⟨a0,a1⟩:=ha (by omega) (by omega)
  obtain⟨n,rfl⟩:=Int.eq_ofNat_of_zero_le a0
  have hP:=db c c.m.fap hc
  have hel:(s.faq.map aa).length=s.faq.length:=by simp
  by_cases hn:n < s.faq.length
  ·obtain⟨e,hee⟩:=ag hn
   rw[show ce s.faq c ⟨12,(n:Int)⟩=⟨{(bS c c.m.fap).m with fap:=e},(bS c c.m.fap).bad⟩ by simp[ce,qq,hee]]
   repeat' ((conv=>whnf);first|refine cg hP ?_|refine af ?_|apply ae|apply oi|(apply fi<;>intro h)|refine⟨n,(aa e),rfl,ab hee,?_⟩|refine⟨_,rfl,?_⟩|exact rfl)
   all_goals try exact⟨KO⟩
   all_goals try(exfalso;have h':=of_decide_eq_false h;rw[hel]at h';dsimp only at h';omega)
  ·have hnone:s.faq[n]?=none:=List.getElem?_eq_none (by omega)
   rw[show ce s.faq c ⟨12,(n:Int)⟩=⟨(bS c c.m.fap).m,true⟩ by simp[ce,qq,hnone]]
   repeat' ((conv=>whnf);first|refine cg hP ?_|refine af ?_|apply ae|apply oi|(apply fi<;>intro h)|refine⟨_,rfl,?_⟩|exact rfl)
   all_goals try exact⟨KO⟩
   all_goals try(exfalso;have h':=of_decide_eq_true h;rw[hel]at h';dsimp only at h';omega)
 by_cases h13:k=13
 ·subst h13
  obtain⟨a0,a1⟩:=ha (by omega) (by omega)
  obtain⟨n,rfl⟩:=Int.eq_ofNat_of_zero_le a0
  have hP:=db c c.m.fan hc
  have hZ:=oW ⟨{(bS c c.m.fan).m with fan:=(bS c c.m.fan).m.fae},(bS c c.m.fan).bad⟩ n (dK hc) (by omega)
  repeat' ((conv=>whnf);first|refine cg hP ?_|refine cg hZ ?_|refine af ?_|apply ae|apply oi|(apply fi<;>intro h)|refine⟨_,rfl,?_⟩|exact rfl)
  all_goals try exact⟨KO⟩
 by_cases h15:k=15
 ·subst h15
  obtain⟨a0,a1⟩:=ha (by omega) (by omega)
  obtain⟨n,rfl⟩:=Int.eq_ofNat_of_zero_le a0
  have hZ:=oW c n hc (by omega)
  repeat' ((conv=>whnf);first|refine cg hZ ?_|refine af ?_|apply ae|apply oi|(apply fi<;>intro h)|refine⟨_,rfl,?_⟩|exact rfl)
  all_goals try exact⟨KO⟩
 by_cases h14:k=14
 ·subst h14
  obtain⟨a0,a1⟩:=ha (by omega) (by omega)
  obtain⟨n,rfl⟩:=Int.eq_ofNat_of_zero_le a0
  have o1:(eD (aB c)).ok:=aG hc
  have o2:(cFp (eD (aB c))).ok:=aG o1
  have o3:(cPc (cFp (eD (aB c)))).ok:=aG o2
  have hP1:=cz c hc
  have hP2:=cz (eD (aB c)) o1
  have hP3:=cz (cFp (eD (aB c))) o2
  have hD:=ly (cPc (cFp (eD (aB c)))) n o3 (by omega)
  have hP4:=db (bn n (cPc (cFp (eD (aB c))))) (iK c) (cX o3)
  repeat' ((conv=>whnf);first|refine af ?_|apply ae|apply oi|(apply fi<;>intro h)|refine⟨_,rfl,?_⟩|exact rfl)
  all_goals try exact⟨KO⟩
  refine cg (hP1) ?_
  repeat' ((conv=>whnf);first|refine af ?_|apply ae|apply oi|(apply fi<;>intro h)|refine⟨_,rfl,?_⟩|exact rfl)
  all_goals try exact⟨KO⟩
  refine cg (hP2) ?_
  repeat' ((conv=>whnf);first|refine af ?_|apply ae|apply oi|(apply fi<;>intro h)|refine⟨_,rfl,?_⟩|exact rfl)
  all_goals try exact⟨KO⟩
  refine cg (hP3) ?_
  repeat' ((conv=>whnf);first|refine cg hD ?_|refine cg hP4 ?_|refine af ?_|apply ae|apply oi|(apply fi<;>intro h)|refine⟨_,rfl,?_⟩|exact rfl)
  all_goals try exact⟨KO⟩
 by_cases h16:k=16
 ·subst h16
  obtain⟨a0,a1⟩:=ha (by omega) (by omega)
  obtain⟨n,rfl⟩:=Int.eq_ofNat_of_zero_le a0
  have o1:(aB c).ok:=aG hc
  have o2:(bn (n / 16) (aB c)).ok:=cX o1
  have o3:(cPc (bn (n / 16) (aB c))).ok:=aG o2
  have w1:IntKind.i64.wrap ((n:Int).tdiv 16)=((n / 16:Nat):Int):=by
   rw[Int.tdiv_eq_ediv_of_nonneg (by omega),IntWalk.i64_in _ (by omega)];rfl
  have w2:(n:Int).tmod 16=((n % 16:Nat):Int):=by
   rw[Int.tmod_eq_emod_of_nonneg (by omega)];rfl
  have hP1:=cz c hc
  have hD1:=ly (aB c) (n / 16) o1 (by omega)
  have hP2:=cz (bn (n / 16) (aB c)) o2
  have hD2:=ly (cPc (bn (n / 16) (aB c))) (n % 16) o3 (by omega)
  have hP4:=db (bn (n % 16) (cPc (bn (n / 16) (aB c)))) (iK c) (cX o3)
  rw[←w1]at hD1
  rw[←w2]at hD2
  repeat' ((conv=>whnf);first|refine af ?_|apply ae|apply oi|(apply fi<;>intro h)|refine⟨_,rfl,?_⟩|exact rfl)
  all_goals try exact⟨KO⟩
  refine cg (hP1) ?_
  repeat' ((conv=>whnf);first|refine af ?_|apply ae|apply oi|(apply fi<;>intro h)|refine⟨_,rfl,?_⟩|exact rfl)
  all_goals try exact⟨KO⟩
  refine cg (hD1) ?_
  repeat' ((conv=>whnf);first|refine af ?_|apply ae|apply oi|(apply fi<;>intro h)|refine⟨_,rfl,?_⟩|exact rfl)
  all_goals try exact⟨KO⟩
  refine cg (hP2) ?_
  repeat' ((conv=>whnf);first|refine af ?_|apply ae|apply oi|(apply fi<;>intro h)|refine⟨_,rfl,?_⟩|exact rfl)
  all_goals try exact⟨KO⟩
  refine cg (hD2) ?_
  repeat' ((conv=>whnf);first|refine af ?_|apply ae|apply oi|(apply fi<;>intro h)|refine⟨_,rfl,?_⟩|exact rfl)
  all_goals try exact⟨KO⟩
  refine cg (hP4) ?_
  repeat' ((conv=>whnf);first|refine af ?_|apply ae|apply oi|(apply fi<;>intro h)|refine⟨_,rfl,?_⟩|exact rfl)
  all_goals try exact⟨KO⟩
 ·rw[show ce s.faq c ⟨k,a⟩=c by
   unfold ce
   dsimp only
   rw[if_neg h0,if_neg h1,if_neg h3,if_neg h2,if_neg h4,if_neg h59,if_neg h10,if_neg h11,if_neg h12,if_neg h13,if_neg h15,if_neg h14,if_neg h16,if_neg hx]]
  repeat' ((conv=>whnf);first|refine af ?_|apply ae|apply oi|(apply fi<;>intro h)|refine⟨_,rfl,?_⟩|exact rfl)
  all_goals try exact⟨KO⟩
  all_goals try exact K1
theorem tF (s:TSpace)(c:CS)(a:Int)(hc:c.ok)(ho:c.m.fah.length≤2000000):aS Tryz.prog 162 [eA,.r (.agg (s.tr.map .t)),opV ⟨17,a⟩] (eZ c) (.tup []) (HB (vf c)):=by
 refine bb hΓ ay Tryz.func162 rfl (by decide) rfl rfl ?_
 have hP:=cz c hc
 have ho2:(aB c).m.fah.length≤2000000:=by unfold aB;split <;> exact ho
 repeat' ((conv=>whnf);first|refine cg hP ?_|refine af ?_|refine wH 4 6 ?_|apply oi|(apply fi<;>intro h)|refine⟨_,rfl,?_⟩|exact rfl)
 all_goals try exact⟨KR⟩
 all_goals try exact⟨⟨by(try simp only[List.length_map,List.length_append,List.length_cons,List.length_nil]);omega,by(try simp only[List.length_map,List.length_append,List.length_cons,List.length_nil]);omega⟩⟩
 all_goals(refine⟨?_⟩;simp[vf,aa])
theorem Ee {c:Int}(h:12≤c∧c≤16):(aT c).2=false∧((aT c).1=1∨(aT c).1=2):=by
 unfold aT
 repeat' split
 all_goals first
  |(exfalso;omega)
  | simp
theorem Fy {c:Int}(h:1≤c∧c≤11):aT c=(2,true)∨aT c=(0,false):=by
 unfold aT
 repeat' split
 all_goals first
  |(exfalso;omega)
  | simp
theorem EZ {c:Int}{m:Nat}(h:aT c=(2,true))(hm:m < 65536):-65536≤iV c m∧iV c m≤65536:=by
 by_cases hb:2 ^ (8 * 2 - 1)≤m
 ·have e:iV c m=(m:Int) - 2 ^ (8 * 2):=nN (n:=2) (by rw[h];rfl) (by rw[h]) hb
  rw[e]
  show -65536≤(m:Int) - 65536∧(m:Int) - 65536≤65536
  omega
 ·have e:iV c m=(m:Int):=mx (n:=2) (by rw[h];rfl) (fun hh=>hb hh.2)
  rw[e]
  omega
theorem dY {s:List UInt8}{p:Int}{x:TOp}{z:Nat}(h:aU s p=some (x,z)):(0≤x.fab∧x.fab≤17)∧(12≤x.fab→x.fab≤16→0≤x.faf∧x.faf≤65536)∧(1≤x.fab→x.fab≤11→-65536≤x.faf∧x.faf≤65536)∧z≤5:=by
 unfold aU at h
 split at h
 ·split at h
  ·cases h
  ·rename_i hno
   injection h with h
   injection h with h1 h2
   rw[not_or]at hno
   have hz:=ib (bO s p.toNat)
   subst h1
   dsimp only
   generalize hc:((bO s p.toNat:Nat):Int)=c at *
   have hin:0≤c∧c≤17:=by
    have:=hno.1
    unfold aK at this
    split at this
    ·rename_i hw;exact within_iff.1 hw
    ·exact absurd rfl this
   refine⟨hin,fun g1 g2=>?_,fun g1 g2=>?_,by omega⟩
   ·obtain⟨e1,e2⟩:=Ee ⟨g1,g2⟩
    have hl:=dU s (p.toNat+1) (aT c).1.toNat
    have:256 ^ (aT c).1.toNat≤65536:=by rcases e2 with e2|e2 <;> rw[e2] <;> decide
    rw[iV,if_neg (by rw[e1];simp)]
    omega
   ·have hl:=dU s (p.toNat+1) (aT c).1.toNat
    rcases Fy ⟨g1,g2⟩with e|e
    ·rw[e]at hl ⊢
     exact EZ e hl
    ·rw[e]at hl ⊢
     have hl:aQ s (p.toNat+1) 0 < 1:=hl
     have e2:iV c (aQ s (p.toNat+1) 0)=((aQ s (p.toNat+1) 0:Nat):Int):=mx (n:=0) (by rw[e];rfl) (fun hh=>by rw[e]at hh;exact absurd hh.1 (by simp))
     show -65536≤iV c (aQ s (p.toNat+1) 0)∧iV c (aQ s (p.toNat+1) 0)≤65536
     rw[e2]
     omega
 ·cases h
theorem bA (m:TMachine)(hs:m.fao.length≤2000000)(ho:m.fah.length≤2000000):Sim.Spec Tryz.prog 91 [.agg m.tr] (.r (.agg (m.tr.map uo))):=by
 refine ao hΓ ay Tryz.func91 rfl (by decide) rfl ?_
 repeat' ((conv=>whnf);first|refine Or.inl ?_|apply oi|(apply fi<;>intro h)|refine⟨_,rfl,?_⟩|exact rfl)
 all_goals try exact⟨KO⟩
 all_goals exact⟨⟨rfl,bc _⟩⟩
theorem kV (m:TMachine)(hs:m.fao.length≤2000000)(ho:m.fah.length≤2000000):Sim.Spec Tryz.prog 94 [.agg m.tr] (.r (.agg (m.tr.map uo))):=by
 refine ao hΓ ay Tryz.func94 rfl (by decide) rfl ?_
 repeat' ((conv=>whnf);first|refine Or.inl ?_|apply oi|(apply fi<;>intro h)|refine⟨_,rfl,?_⟩|exact rfl)
 all_goals try exact⟨KO⟩
 all_goals exact⟨⟨rfl,bc _⟩⟩
def da (c:CS)(v:Int):CS:=if c.m.fae < 1∨1200 < c.m.fae then⟨c.m,true⟩else⟨{po c.m (c.m.fae - 1) v with fae:=c.m.fae - 1},c.bad⟩
def rA (c:CS)(a:Int):Int:=if bf a=true then eO c.m a else 0
def iF (c:CS):Int:=rA c c.m.fae
def Da (c:CS)(a v:Int):CS:=if bf a=true then⟨po c.m a v,c.bad⟩else⟨c.m,true⟩
def jz:Nat→CS→CS
 | 0,c=>c
 | n+1,c=>jz n (da c 0)
def lJ (a n:Int):Int:=if ah a (-100000) 100000=true then wr (a+n)else -1
def BR (c:CS)(a:Int):CS:=da (cAt c a) (rA c a)
def xf (c:CS)(a:Int):CS:=Da (aB c) a (iF c)
def Ea (c:CS)(k:Int):CS:=da (aB (aB c)) (cK k (iF (aB c)) (iF c))
def zG (c:CS)(a:Int):CS:=if iF c=0 then mB (aB c) a else aB c
def yj (c:CS)(es:List Int)(a:Int):CS:=match es[a.toNat]? with
 | some e=>⟨{(da c c.m.fap).m with fap:=e},(da c c.m.fap).bad⟩
 | none=>⟨c.m,true⟩
def El (c:CS)(n:Nat):CS:=jz n ⟨{(da c c.m.fan).m with fan:=(da c c.m.fan).m.fae},(da c c.m.fan).bad⟩
def qFp (c:CS):CS:=⟨{(aB c).m with fan:=iF c},(aB c).bad⟩
def qPc (c:CS):CS:=⟨{(aB c).m with fap:=iF c},(aB c).bad⟩
def ur (c:CS)(n:Nat):CS:=if ah (aB c).m.fan 0 1200=true then da (bn n (qPc (qFp (eD (aB c))))) (iF c)else⟨(aB c).m,true⟩
def AY (c:CS)(n:Nat):CS:=da (bn (n % 16) (qPc (bn (n / 16) (aB c)))) (iF c)
def Ai (c:CS):CS:=⟨{(aB c).m with fah:=(aB c).m.fah++[iF c]},(aB c).bad⟩
def dJ (es:List Int)(c:CS)(x:TOp):CS:=
 if x.fab=0 then da c x.faf
 else if x.fab=1 then BR c (lJ c.m.fan x.faf)
 else if x.fab=3 then BR c (wr (c.m.fae+x.faf))
 else if x.fab=2 then xf c (lJ c.m.fan x.faf)
 else if x.fab=4 then xf c (wr (c.m.fae+x.faf))
 else if x.fab=10 then mB c x.faf
 else if x.fab=11 then zG c x.faf
 else if x.fab=12 then yj c es x.faf
 else if x.fab=13 then El c x.faf.toNat
 else if x.fab=15 then jz x.faf.toNat c
 else if x.fab=14 then ur c x.faf.toNat
 else if x.fab=16 then AY c x.faf.toNat
 else if x.fab=17 then Ai c
 else Ea c (x.fab - 3)
def Rel (c d:CS):Prop:=c.bad=d.bad∧(c.bad=false→c.m=d.m∧0≤c.m.fae∧c.m.fae≤1200)
theorem Rel.bad {m m':TMachine}:Rel ⟨m,true⟩ ⟨m',true⟩:=⟨rfl,fun h=>by cases h⟩
theorem we {c:CS}{v:Int}(h:c.bad=true):(bS c v).bad=true:=by simp[bS,h]
theorem pS {c:CS}{v:Int}(h:c.bad=true):(da c v).bad=true:=by unfold da;split <;> simp[h]
theorem lG {c:CS}(h:c.bad=true):(aB c).bad=true:=by simp[aB,h]
theorem EA {c:CS}(h:bf c.m.fae=false):(aB c).bad=true:=by simp[aB,h]
theorem qf:∀{n:Nat} {c:CS},c.bad=true→(bn n c).bad=true
 | 0,_,h=>h
 | n+1,_,h=>qf (n:=n) (lG h)
theorem Rel.of_bad {c d:CS}(h1:c.bad=true)(h2:d.bad=true):Rel c d:=⟨h1.trans h2.symm,fun h=>by rw[h1]at h;cases h⟩
theorem gl {c d:CS}{v v':Int}(h:Rel c d)(hv:c.bad=false→v=v'):Rel (bS c v) (da d v'):=by
 obtain⟨h1,h2⟩:=h
 cases hb:c.bad with
 | true=>exact .of_bad (we hb) (pS (h1 ▸ hb))
 | false=>
  obtain⟨h3,h4,h5⟩:=h2 hb
  obtain⟨m,b⟩:=c
  obtain⟨m',b'⟩:=d
  dsimp only at *
  subst h3;subst h1;subst hb
  rw[hv rfl]
  unfold bS da
  dsimp only
  have hw:wr (m.fae - 1)=m.fae - 1:=IntWalk.i64_in _ (by omega)
  rw[hw]
  by_cases hs:m.fae < 1∨1200 < m.fae
  ·have hn:bf (m.fae - 1)=false:=by
    cases hi:bf (m.fae - 1)with
    | false=>rfl
    | true=>have:=inStk_iff.1 hi;omega
   rw[if_pos hs,if_pos (by simp[hn])]
   exact .bad
  ·have hn:bf (m.fae - 1)=true:=inStk_iff.2 (by omega)
   rw[if_neg hs,if_neg (by simp[hn])]
   exact⟨rfl,fun _=>⟨rfl,by dsimp only;omega,by dsimp only;omega⟩⟩
theorem eI {c d:CS}(h:Rel c d):Rel (aB c) (aB d):=by
 obtain⟨h1,h2⟩:=h
 cases hb:c.bad with
 | true=>exact .of_bad (lG hb) (lG (h1 ▸ hb))
 | false=>
  obtain⟨h3,h4,h5⟩:=h2 hb
  obtain⟨m,b⟩:=c
  obtain⟨m',b'⟩:=d
  dsimp only at *
  subst h3;subst h1;subst hb
  refine⟨rfl,fun hn=>⟨rfl,?_⟩⟩
  unfold aB at hn ⊢
  dsimp only at hn ⊢
  split at hn
  ·cases hn
  ·rename_i hi
   rw[if_neg hi]
   have:bf m.fae=true:=by simpa using hi
   have:=inStk_iff.1 this
   dsimp only
   omega
theorem ga {c d:CS}(h:Rel c d)(hb:(aB c).bad=false):iK c=iF d:=by
 obtain⟨h1,h2⟩:=h
 unfold aB at hb
 split at hb
 ·cases hb
 ·rename_i hi
  have hi':c.bad=false∧bf c.m.fae=true:=by simpa using hi
  obtain⟨h3,_⟩:=h2 hi'.1
  unfold iK iF rA
  rw[if_neg hi,←h3,if_pos hi'.2]
theorem pd:∀{n:Nat} {c d:CS},Rel c d→Rel (bn n c) (bn n d)
 | 0,_,_,h=>h
 | n+1,_,_,h=>pd (n:=n) (eI h)
theorem qd:∀{n:Nat} {c:CS},(bn n c).bad=false→c.bad=false
 | n,c,h=>by cases hb:c.bad with
  | false=>rfl
  | true=>rw[qf hb]at h;cases h
theorem oS {c:CS}(h:(aB c).bad=false):c.bad=false:=by cases hb:c.bad with
  | false=>rfl
  | true=>rw[lG hb]at h;cases h
theorem ql:∀{n:Nat} {c d:CS},Rel c d→Rel (eM n c) (jz n d)
 | 0,_,_,h=>h
 | n+1,_,_,h=>ql (n:=n) (gl h fun _=>rfl)
theorem zw {c d:CS}{a a':Int}(h:Rel c d)(hi:bf a=bf a')(ha:bf a=true→a=a'):Rel (je c a) (BR d a'):=by
 obtain⟨h1,h2⟩:=h
 unfold je BR cAt
 rw[←hi]
 cases hb:c.bad with
 | true=>exact .of_bad (by simp) (pS (by simp[←h1,hb]))
 | false=>
  obtain⟨h3,h4,h5⟩:=h2 hb
  cases hn:bf a with
  | false=>exact .of_bad (by simp) (pS (by simp))
  | true=>
   have e:=ha hn
   subst e
   rw[if_neg (by simp)]
   refine gl ⟨?_,fun _=>⟨h3,h4,h5⟩⟩ fun _=>?_
   ·simp[←h1,hb]
   ·rw[rA,if_pos hn,h3]
theorem vY {c d:CS}{a a':Int}(h:Rel c d)(hi:bf a=bf a')(ha:bf a=true→a=a'):Rel (fu c a) (xf d a'):=by
 have hp:=eI h
 have ht:=ga h
 unfold fu xf Da
 rw[←hi]
 cases hb:(aB c).bad with
 | true=>
  rw[if_pos (by simp)]
  refine .of_bad rfl ?_
  split
  ·rw[←hp.1];exact hb
  ·rfl
 | false=>
  obtain⟨h3,h4,h5⟩:=hp.2 hb
  cases hn:bf a with
  | false=>rw[if_pos (by simp),if_neg (by simp)];exact .bad
  | true=>
   have e:=ha hn
   subst e
   rw[if_neg (by simp),if_pos rfl,ht hb,←h3]
   exact⟨by rw[←hp.1,hb],fun _=>⟨rfl,h4,h5⟩⟩
theorem Bm {f n:Int}(hf:inI f)(hn:-65536≤n∧n≤65536):bf (wr (f+n))=bf (lJ f n)∧(bf (wr (f+n))=true→wr (f+n)=lJ f n):=by
 unfold lJ
 by_cases hw:ah f (-100000) 100000=true
 ·rw[if_pos hw];exact⟨rfl,fun _=>rfl⟩
 ·rw[if_neg hw]
  have h0:¬(-100000≤f∧f≤100000):=fun h=>hw (within_iff.2 h)
  have:bf (wr (f+n))=false:=by
   cases hi:bf (wr (f+n))with
   | false=>rfl
   | true=>
    exfalso
    have h1:=inStk_iff.1 hi
    unfold inI at hf
    have e:wr (f+n)=if(f+n) % 18446744073709551616≥9223372036854775808 then(f+n) % 18446744073709551616 - 18446744073709551616 else(f+n) % 18446744073709551616:=by simp[wr,IntKind.wrap,IntKind.bits,IntKind.signed]
    rw[e]at h1
    split at h1 <;> omega
  rw[this]
  exact⟨by decide,fun h=>by cases h⟩
theorem xX (es:List Int)(m:TMachine)(x:TOp)(hsp:0≤m.fae∧m.fae≤1200)(hfp:inI m.fan)(hc:0≤x.fab∧x.fab≤17)(h1:12≤x.fab→x.fab≤16→0≤x.faf∧x.faf≤65536)(h2:1≤x.fab→x.fab≤11→-65536≤x.faf∧x.faf≤65536):
  Rel (ce es ⟨m,false⟩ x) (dJ es ⟨m,false⟩ x):=by
 have h0:Rel ⟨m,false⟩ ⟨m,false⟩:=⟨rfl,fun _=>⟨rfl,hsp⟩⟩
 obtain⟨k,a⟩:=x
 dsimp only at hc h1 h2
 generalize hd:(⟨m,false⟩:CS)=d at *
 have hdf:d.m.fan=m.fan:=by rw[←hd]
 unfold ce dJ
 dsimp only
 by_cases e0:k=0
 ·rw[if_pos e0,if_pos e0];exact gl h0 fun _=>rfl
 rw[if_neg e0,if_neg e0]
 by_cases e1:k=1
 ·rw[if_pos e1,if_pos e1]
  have:=Bm (n:=a) hfp (h2 (by omega) (by omega))
  rw[hdf]
  exact zw h0 this.1 this.2
 rw[if_neg e1,if_neg e1]
 by_cases e3:k=3
 ·rw[if_pos e3,if_pos e3];exact zw h0 rfl fun _=>rfl
 rw[if_neg e3,if_neg e3]
 by_cases e2:k=2
 ·rw[if_pos e2,if_pos e2]
  have:=Bm (n:=a) hfp (h2 (by omega) (by omega))
  rw[hdf]
  exact vY h0 this.1 this.2
 rw[if_neg e2,if_neg e2]
 by_cases e4:k=4
 ·rw[if_pos e4,if_pos e4];exact vY h0 rfl fun _=>rfl
 rw[if_neg e4,if_neg e4]
 by_cases e59:5≤k∧k≤9
 ·rw[if_pos e59,if_neg (by omega),if_neg (by omega),if_neg (by omega),if_neg (by omega),if_neg (by omega),if_neg (by omega),if_neg (by omega),if_neg (by omega)]
  unfold wQ Ea
  refine gl (eI (eI h0)) fun hb=>?_
  rw[ga h0 (oS hb),ga (eI h0) hb]
 rw[if_neg e59]
 by_cases e10:k=10
 ·rw[if_pos e10,if_pos e10]
  unfold mB
  exact⟨rfl,fun hb=>⟨rfl,(h0.2 hb).2⟩⟩
 rw[if_neg e10,if_neg e10]
 by_cases e11:k=11
 ·rw[if_pos e11,if_pos e11]
  unfold qS zG
  have hp:=eI h0
  cases hb:(aB d).bad with
  | true=>refine .of_bad ?_ ?_ <;> split <;> simp[mB,hb]
  | false=>
   rw[ga h0 hb]
   split
   ·unfold mB;exact⟨rfl,fun hb=>⟨rfl,(hp.2 hb).2⟩⟩
   ·exact hp
 rw[if_neg e11,if_neg e11]
 by_cases e12:k=12
 ·rw[if_pos e12,if_pos e12]
  have hp:=gl (v:=d.m.fap) (v':=d.m.fap) h0 fun _=>rfl
  unfold qq yj
  cases he:es[a.toNat]? with
  | some e=>exact⟨hp.1,fun hb=>by obtain⟨g1,g2,g3⟩:=hp.2 hb;exact⟨by dsimp only;rw[g1],g2,g3⟩⟩
  | none=>exact .bad
 rw[if_neg e12,if_neg e12]
 by_cases e13:k=13
 ·rw[if_pos e13,if_pos e13]
  have hp:=gl (v:=d.m.fan) (v':=d.m.fan) h0 fun _=>rfl
  unfold xl El
  refine ql ⟨hp.1,fun hb=>?_⟩
  obtain⟨g1,g2,g3⟩:=hp.2 hb
  exact⟨by dsimp only;rw[g1],g2,g3⟩
 rw[if_neg e13,if_neg e13]
 by_cases e15:k=15
 ·rw[if_pos e15,if_pos e15];exact ql h0
 rw[if_neg e15,if_neg e15]
 by_cases e14:k=14
 ·rw[if_pos e14,if_pos e14]
  unfold xc ur
  have hp:=eI h0
  by_cases hw:ah (aB d).m.fan 0 1200=true
  ·rw[if_pos hw]
   have hw':=within_iff.1 hw
   have hcut:Rel (eD (aB d)) (eD (aB d)):=⟨rfl,fun _=>⟨rfl,hw'.1,hw'.2⟩⟩
   have p2:=eI hcut
   have r3:Rel (cFp (eD (aB d))) (qFp (eD (aB d))):=⟨p2.1,fun hb=>by
    unfold cFp qFp
    rw[ga hcut hb]
    exact⟨rfl,(p2.2 hb).2⟩⟩
   have p3:=eI r3
   have r4:Rel (cPc (cFp (eD (aB d)))) (qPc (qFp (eD (aB d)))):=⟨p3.1,fun hb=>by
    obtain⟨g1,g2,g3⟩:=p3.2 hb
    unfold cPc qPc
    rw[ga r3 hb]
    exact⟨by dsimp only;rw[g1],g2,g3⟩⟩
   refine gl (pd r4) fun hb=>ga h0 ?_
   have b0:(cPc (cFp (eD (aB d)))).bad=false:=qd hb
   have b1:(aB (cFp (eD (aB d)))).bad=false:=b0
   have b1':(cFp (eD (aB d))).bad=false:=oS b1
   have b2:(aB (eD (aB d))).bad=false:=b1'
   have b2':(eD (aB d)).bad=false:=oS b2
   exact b2'
  ·rw[if_neg hw]
   refine .of_bad ?_ rfl
   refine we (qf ?_)
   show(aB (cFp (eD (aB d)))).bad=true
   refine lG ?_
   show(aB (eD (aB d))).bad=true
   have hn:bf (aB d).m.fan=false:=by
    cases hi:bf (aB d).m.fan with
    | false=>rfl
    | true=>exact absurd (within_iff.2 (by have:=inStk_iff.1 hi;omega)) hw
   exact EA (c:=eD (aB d)) hn
 rw[if_neg e14,if_neg e14]
 by_cases e16:k=16
 ·rw[if_pos e16,if_pos e16]
  unfold rO AY
  have hp:=eI h0
  have r2:=pd (n:=a.toNat / 16) hp
  have p3:=eI r2
  have r4:Rel (cPc (bn (a.toNat / 16) (aB d))) (qPc (bn (a.toNat / 16) (aB d))):=⟨p3.1,fun hb=>by
   obtain⟨g1,g2,g3⟩:=p3.2 hb
   unfold cPc qPc
   rw[ga r2 hb]
   exact⟨rfl,g2,g3⟩⟩
  refine gl (pd r4) fun hb=>ga h0 ?_
  have b0:(cPc (bn (a.toNat / 16) (aB d))).bad=false:=qd hb
  have b1:(aB (bn (a.toNat / 16) (aB d))).bad=false:=b0
  have b2:(bn (a.toNat / 16) (aB d)).bad=false:=oS b1
  exact qd b2
 rw[if_neg e16,if_neg e16]
 have e17:k=17:=by omega
 rw[if_pos e17,if_pos e17]
 have hp:=eI h0
 unfold vf Ai
 refine⟨rfl,fun hb=>?_⟩
 rw[ga h0 hb]
 exact⟨rfl,(hp.2 hb).2⟩
abbrev Hw (m:TMachine)(bad:Bool)(st out:Sim.Id):AO:= .box [.t (.int .i64 m.fap),.t (.int .i64 m.fae),.t (.int .i64 m.fan),.own st,.own out,.t (.int .i64 m.fai),.t (.int .i64 m.fay),.t (.bool bad)]
abbrev lq (c:CS):List (Sim.Id×AO):=[((0,0,0),Hw c.m c.bad (0,0,1) (0,0,2)),((0,0,1),.arr false 1 (c.m.fao.map aa)),((0,0,2),.arr false 1 (c.m.fah.map aa))]
abbrev HF (c:CS):List (Sim.Id×AO):=[((0,0,0),Hw c.m c.bad (0,0,1) (1,0,0)),((0,0,1),.arr false 1 (c.m.fao.map aa)),((1,0,0),.arr false 1 (c.m.fah.map aa))]
theorem kX (a n:Int):Sim.Spec Tryz.prog 224 [tvI a,tvI n] (rI (lJ a n)):=by
 refine ao hΓ ay Tryz.func224 rfl (by decide) rfl ?_
 have hb:=aH a (-100000) 100000
 unfold lJ
 cases hin:ah a (-100000) 100000
 all_goals
  rw[hin]at hb
  repeat' ((conv=>whnf);first|refine Or.inl ?_|apply oi|(apply fi<;>intro h)|refine ci hb (ai rfl (ai rfl (ai rfl trivial))) ?_|refine⟨_,rfl,?_⟩|exact rfl)
  all_goals try exact⟨KO⟩
  all_goals try(exfalso;simp at h;done)
theorem dh (c:CS)(v:Int)(hc:c.ok):aS Tryz.prog 223 [eA,tI .i64 v] (lq c) (.tup []) (lq (da c v)):=by
 refine bb hΓ ay Tryz.func223 rfl (by decide) rfl rfl ?_
 obtain⟨m,bad⟩:=c
 unfold CS.ok at hc
 unfold da
 dsimp only at hc ⊢
 by_cases hs:m.fae < 1∨1200 < m.fae
 ·rw[if_pos hs]
  repeat' ((conv=>whnf);first|refine af ?_|apply ae|apply oi|(apply fi<;>intro h)|refine⟨_,rfl,?_⟩|exact rfl)
  all_goals try exact⟨KO⟩
  all_goals try exact K8
 ·rw[if_neg hs]
  have hw:wr (m.fae - 1)=m.fae - 1:=IntWalk.i64_in _ (by omega)
  obtain⟨j,x,hj,hx,hlt,_⟩:=iy (a:=m.fae - 1) hc (inStk_iff.2 (by omega))
  have hlen:(m.fao.map aa).length=m.fao.length:=by simp
  repeat' ((conv=>whnf);first|refine af ?_|apply ae|apply oi|(apply fi<;>intro h)|refine⟨_,rfl,?_⟩|exact rfl)
  all_goals try exact⟨KO⟩
  all_goals try exact K8
  conv=>whnf
  refine⟨j,by rw[←hj];exact hw,by rw[hlen];exact hlt,?_⟩
  repeat' ((conv=>whnf);first|refine af ?_|apply ae|apply oi|(apply fi<;>intro h)|refine⟨(aa x),ab hx,?_⟩|refine⟨_,rfl,?_⟩|exact rfl)
  all_goals try exact⟨KO⟩
  all_goals first
   | exact⟨congrArg (Tr.int _) hw⟩
   |(refine⟨?_⟩;rw[←show(m.fae - 1).toNat=j by rw[hj];rfl];exact oR)
theorem iO (c:CS)(a:Int)(hc:c.ok):aS Tryz.prog 168 [eA,tI .i64 a] (lq c) (tI .i64 (rA c a)) (lq (cAt c a)):=by
 refine bb hΓ ay Tryz.func168 rfl (by decide) rfl rfl ?_
 obtain⟨m,bad⟩:=c
 unfold CS.ok at hc
 have hb:=aH a 0 1199
 unfold cAt rA
 dsimp only at hc ⊢
 cases hi:bf a with
 | false=>
  rw[show ah a 0 1199=false from hi]at hb
  rw[if_neg (by simp)]
  repeat' ((conv=>whnf);first|refine Or.inl ?_|apply oi|(apply fi<;>intro h)|refine ci hb (ai rfl (ai rfl (ai rfl trivial))) ?_|refine⟨_,rfl,?_⟩|exact rfl)
  all_goals try exact⟨KO⟩
  all_goals try(exfalso;simp at h;done)
  all_goals try(refine⟨congrArg Tr.bool ?_⟩;simp)
 | true=>
  rw[show ah a 0 1199=true from hi]at hb
  rw[if_pos rfl]
  obtain⟨j,x,hj,hx,hlt,_⟩:=iy hc hi
  have hlen:(m.fao.map aa).length=m.fao.length:=by simp
  rw[show eO m a=x by simp[eO,hj,hx]]
  repeat' ((conv=>whnf);first|refine Or.inl ?_|apply oi|(apply fi<;>intro h)|refine ci hb (ai rfl (ai rfl (ai rfl trivial))) ?_|refine⟨_,rfl,?_⟩|exact rfl)
  all_goals try exact⟨KO⟩
  all_goals try(exfalso;simp at h;done)
  conv=>whnf
  refine⟨j,hj,by rw[hlen];exact hlt,?_⟩
  repeat' ((conv=>whnf);first|refine Or.inl ?_|apply oi|(apply fi<;>intro h)|refine⟨(aa x),ab hx,?_⟩|refine⟨_,rfl,?_⟩|exact rfl)
  all_goals try exact⟨KO⟩
  all_goals try(refine⟨congrArg Tr.bool ?_⟩;simp)
theorem cF (c:CS)(hc:c.ok):aS Tryz.prog 226 [eA] (lq c) (tI .i64 (iF c)) (lq (aB c)):=by
 refine bb hΓ ay Tryz.func226 rfl (by decide) rfl rfl ?_
 have hP:=iO c c.m.fae hc
 obtain⟨m,bad⟩:=c
 unfold iF aB cAt at *
 dsimp only at hP ⊢
 cases hB:(bad || !bf m.fae)with
 | true=>
  rw[hB]at hP
  repeat' ((conv=>whnf);first|refine cg hP ?_|refine af ?_|apply ae|apply oi|(apply fi<;>intro h)|refine⟨_,rfl,?_⟩|exact rfl)
  all_goals try exact⟨KO⟩
  all_goals try(exfalso;simp at h;done)
 | false=>
  rw[hB]at hP
  obtain⟨_,hin⟩:=jQ hB
  have:=inStk_iff.1 hin
  have hw:IntKind.i64.wrap (m.fae+1)=m.fae+1:=IntWalk.i64_in _ (by omega)
  repeat' ((conv=>whnf);first|refine cg hP ?_|refine af ?_|apply ae|apply oi|(apply fi<;>intro h)|refine⟨_,rfl,?_⟩|exact rfl)
  all_goals try exact⟨KO⟩
  all_goals try(exfalso;simp at h;done)
  all_goals exact⟨congrArg (Tr.int _) hw⟩
theorem vo (c:CS)(a v:Int)(hc:c.ok):aS Tryz.prog 225 [eA,tI .i64 a,tI .i64 v] (lq c) (.tup []) (lq (Da c a v)):=by
 refine bb hΓ ay Tryz.func225 rfl (by decide) rfl rfl ?_
 obtain⟨m,bad⟩:=c
 unfold CS.ok at hc
 have hb:=aH a 0 1199
 unfold Da
 dsimp only at hc ⊢
 cases hi:bf a with
 | false=>
  rw[show ah a 0 1199=false from hi]at hb
  rw[if_neg (by simp)]
  repeat' ((conv=>whnf);first|refine Or.inl ?_|apply oi|(apply fi<;>intro h)|refine ci hb (ai rfl (ai rfl (ai rfl trivial))) ?_|refine⟨_,rfl,?_⟩|exact rfl)
  all_goals try exact⟨KO⟩
  all_goals try(exfalso;simp at h;done)
 | true=>
  rw[show ah a 0 1199=true from hi]at hb
  rw[if_pos rfl]
  obtain⟨j,x,hj,hx,hlt,_⟩:=iy hc hi
  have hlen:(m.fao.map aa).length=m.fao.length:=by simp
  repeat' ((conv=>whnf);first|refine Or.inl ?_|apply oi|(apply fi<;>intro h)|refine ci hb (ai rfl (ai rfl (ai rfl trivial))) ?_|refine⟨_,rfl,?_⟩|exact rfl)
  all_goals try exact⟨KO⟩
  all_goals try(exfalso;simp at h;done)
  conv=>whnf
  refine⟨j,hj,by rw[hlen];exact hlt,?_⟩
  repeat' ((conv=>whnf);first|refine Or.inl ?_|apply oi|(apply fi<;>intro h)|refine⟨(aa x),ab hx,?_⟩|refine⟨_,rfl,?_⟩|exact rfl)
  all_goals try exact⟨KO⟩
  all_goals try(refine⟨?_⟩;rw[←show a.toNat=j by rw[hj];rfl];exact oR)
theorem dL {c:CS}{v:Int}(h:c.ok):(da c v).ok:=by
 unfold da CS.ok at *
 split
 ·exact h
 ·simpa [po]using h
theorem pr:∀{n:Nat} {c:CS},c.ok→(jz n c).ok
 | 0,_,h=>h
 | n+1,c,h=>pr (n:=n) (dL h)
theorem DS {c:CS}{a:Int}(h:c.ok):(cAt c a).ok:=h
theorem ni (c:CS)(n:Nat)(hc:c.ok)(hn:n≤65536):aS Tryz.prog 228 [eA,tI .i64 (n:Int)] (lq c) (.tup []) (lq (bn n c)):=by
 refine bb hΓ ay Tryz.func228 rfl (by decide) rfl rfl ?_
 obtain⟨R,hR⟩:∃R,bn n c=R:=⟨_,rfl⟩
 rw[hR]
 repeat' ((conv=>whnf);first|refine af ?_|apply ae|apply oi|(apply fi<;>intro h)|refine⟨_,rfl,?_⟩|exact rfl)
 all_goals try exact⟨KO⟩
 conv=>whnf
 refine⟨{q:Nat×CS // q.1≤n∧q.2.ok∧bn (n - q.1) q.2=R},fun q=>⟨[(0,eA),(1,tI .i64 (n:Int)),(4,tI .i64 (q.1.1:Int))],(lq q.1.2).map fun p=>(p.1,some p.2),[0]⟩,fun q=>n - q.1.1,⟨(0,c),by omega,hc,hR⟩,?_,?_⟩
 ·skip
  repeat' ((conv=>whnf);first|refine af ?_|apply ae|apply oi|(apply fi<;>intro h)|refine⟨_,rfl,?_⟩|exact rfl)
  all_goals try exact⟨KO⟩
 intro⟨⟨k,d⟩,hk,hd,hr⟩
 dsimp only at hk hd hr ⊢
 by_cases hlt:k < n
 ·obtain⟨j,hj⟩:∃j,n - k=j+1:=⟨n - k - 1,by omega⟩
  rw[hj,bn]at hr
  have hP:=cF d hd
  repeat' ((conv=>whnf);first|refine cg hP ?_|refine af ?_|apply ae|apply oi|(apply fi<;>intro h)|refine⟨_,rfl,?_⟩|exact rfl)
  all_goals try exact⟨KO⟩
  all_goals try(exfalso;have h':=of_decide_eq_false h;omega)
  conv=>whnf
  refine⟨⟨(k+1,aB d),by dsimp only;omega,aG hd,by rw[show n - (k+1)=j by omega];exact hr⟩,?_,KD⟩
  repeat' ((conv=>whnf);first|refine af ?_|apply ae|apply oi|(apply fi<;>intro h)|refine⟨_,rfl,?_⟩|exact rfl)
  all_goals try exact⟨KO⟩
  all_goals try(refine⟨congrArg (Tr.int _) ?_⟩;dsimp only;rw[IntWalk.i64_in _ (by omega)];omega)
 ·rw[show n - k=0 by omega,bn]at hr
  subst hr
  repeat' ((conv=>whnf);first|refine af ?_|apply ae|apply oi|(apply fi<;>intro h)|refine⟨_,rfl,?_⟩|exact rfl)
  all_goals try exact⟨KO⟩
  all_goals try(exfalso;have h':=of_decide_eq_true h;omega)
theorem qW (c:CS)(n:Nat)(hc:c.ok)(hn:n≤65536):aS Tryz.prog 227 [eA,tI .i64 (n:Int)] (lq c) (.tup []) (lq (jz n c)):=by
 refine bb hΓ ay Tryz.func227 rfl (by decide) rfl rfl ?_
 obtain⟨R,hR⟩:∃R,jz n c=R:=⟨_,rfl⟩
 rw[hR]
 repeat' ((conv=>whnf);first|refine af ?_|apply ae|apply oi|(apply fi<;>intro h)|refine⟨_,rfl,?_⟩|exact rfl)
 all_goals try exact⟨KO⟩
 conv=>whnf
 refine⟨{q:Nat×CS // q.1≤n∧q.2.ok∧jz (n - q.1) q.2=R},fun q=>⟨[(0,eA),(1,tI .i64 (n:Int)),(4,tI .i64 (q.1.1:Int))],(lq q.1.2).map fun p=>(p.1,some p.2),[0]⟩,fun q=>n - q.1.1,⟨(0,c),by omega,hc,hR⟩,?_,?_⟩
 ·skip
  repeat' ((conv=>whnf);first|refine af ?_|apply ae|apply oi|(apply fi<;>intro h)|refine⟨_,rfl,?_⟩|exact rfl)
  all_goals try exact⟨KO⟩
 intro⟨⟨k,d⟩,hk,hd,hr⟩
 dsimp only at hk hd hr ⊢
 by_cases hlt:k < n
 ·obtain⟨j,hj⟩:∃j,n - k=j+1:=⟨n - k - 1,by omega⟩
  rw[hj,jz]at hr
  have hP:=dh d 0 hd
  repeat' ((conv=>whnf);first|refine cg hP ?_|refine af ?_|apply ae|apply oi|(apply fi<;>intro h)|refine⟨_,rfl,?_⟩|exact rfl)
  all_goals try exact⟨KO⟩
  all_goals try(exfalso;have h':=of_decide_eq_false h;omega)
  conv=>whnf
  refine⟨⟨(k+1,da d 0),by dsimp only;omega,dL hd,by rw[show n - (k+1)=j by omega];exact hr⟩,?_,KD⟩
  repeat' ((conv=>whnf);first|refine af ?_|apply ae|apply oi|(apply fi<;>intro h)|refine⟨_,rfl,?_⟩|exact rfl)
  all_goals try exact⟨KO⟩
  all_goals try(refine⟨congrArg (Tr.int _) ?_⟩;dsimp only;rw[IntWalk.i64_in _ (by omega)];omega)
 ·rw[show n - k=0 by omega,jz]at hr
  subst hr
  repeat' ((conv=>whnf);first|refine af ?_|apply ae|apply oi|(apply fi<;>intro h)|refine⟨_,rfl,?_⟩|exact rfl)
  all_goals try exact⟨KO⟩
  all_goals try(exfalso;have h':=of_decide_eq_true h;omega)
theorem Fi {v v':Int}{R:List Sim.Id}(h:v=v'):(⟨tI .i64 v,[],none,R⟩:Eff)=⟨tI .i64 v',[],none,R⟩:=by rw[h]
def adv (c:CS)(z:Int):CS:=⟨{c.m with fap:=wr (c.m.fap+z)},c.bad⟩
theorem vi (s:TSpace)(c:CS)(x:TOp)(z:Int)(hc:c.ok)(hx:x.fab≠17)(h0:0≤x.fab∧x.fab≤17)(ha:12≤x.fab→x.fab≤16→0≤x.faf∧x.faf≤65536)(he:s.faq.length≤1048576):aS Tryz.prog 167 [.r (.agg (s.tr.map .t)),eA,opV x,tI .i64 z] (lq c) (.tup []) (lq (dJ s.faq (adv c z) x)):=by
 obtain⟨k,a⟩:=x
 dsimp only at hx ha h0
 refine bb hΓ ay Tryz.func167 rfl (by decide) rfl rfl ?_
 obtain⟨d,hd⟩:∃d,adv c z=d:=⟨_,rfl⟩
 have hdo:d.ok:=by rw[←hd];exact hc
 by_cases e0:k=0
 ·subst e0
  have hP:=dh (adv c z) a hc
  repeat' ((conv=>whnf);first|refine cg hP ?_|refine af ?_|apply ae|apply oi|(apply fi<;>intro h)|refine⟨_,rfl,?_⟩|exact rfl)
  all_goals try exact⟨KO⟩
 by_cases e1:k=1
 ·subst e1
  have hN:=kX c.m.fan a
  have hQ:=iO (adv c z) (lJ c.m.fan a) hc
  have hP:=dh (cAt (adv c z) (lJ c.m.fan a)) (rA (adv c z) (lJ c.m.fan a)) hc
  repeat' ((conv=>whnf);first|refine cg hQ ?_|refine cg hP ?_|refine af ?_|apply ae|apply oi|(apply fi<;>intro h)|refine cl hN ?_|refine⟨_,rfl,?_⟩|exact rfl)
  all_goals try exact⟨KO⟩
 by_cases e3:k=3
 ·subst e3
  have hQ:=iO (adv c z) (wr (c.m.fae+a)) hc
  have hP:=dh (cAt (adv c z) (wr (c.m.fae+a))) (rA (adv c z) (wr (c.m.fae+a))) hc
  repeat' ((conv=>whnf);first|refine cg hQ ?_|refine cg hP ?_|refine af ?_|apply ae|apply oi|(apply fi<;>intro h)|refine⟨_,rfl,?_⟩|exact rfl)
  all_goals try exact⟨KO⟩
 by_cases e2:k=2
 ·subst e2
  have hN:=kX c.m.fan a
  have hQ:=cF (adv c z) hc
  have hP:=vo (aB (adv c z)) (lJ c.m.fan a) (iF (adv c z)) (aG hc)
  have hf:(aB (adv c z)).m.fan=c.m.fan:=by unfold aB;split <;> rfl
  repeat' ((conv=>whnf);first|refine cg hQ ?_|refine cg hP ?_|refine af ?_|refine wH 5 10 ?_|apply oi|(apply fi<;>intro h)|refine cl hN ?_|refine⟨_,rfl,?_⟩|exact rfl)
  all_goals try exact⟨KR⟩
  all_goals(refine⟨?_⟩;(conv=>whnf);exact Fi hf)
 by_cases e4:k=4
 ·subst e4
  have hQ:=cF (adv c z) hc
  have hP:=vo (aB (adv c z)) (wr (c.m.fae+a)) (iF (adv c z)) (aG hc)
  repeat' ((conv=>whnf);first|refine cg hQ ?_|refine cg hP ?_|refine af ?_|apply ae|apply oi|(apply fi<;>intro h)|refine⟨_,rfl,?_⟩|exact rfl)
  all_goals try exact⟨KO⟩
 by_cases e10:k=10
 ·subst e10
  repeat' ((conv=>whnf);first|refine af ?_|apply ae|apply oi|(apply fi<;>intro h)|refine⟨_,rfl,?_⟩|exact rfl)
  all_goals try exact⟨KO⟩
 by_cases e11:k=11
 ·subst e11
  have hP:=cF (adv c z) hc
  by_cases hz:iF (adv c z)=0
  ·rw[show dJ s.faq (adv c z) ⟨11,a⟩=mB (aB (adv c z)) a by simp[dJ,zG,hz]]
   repeat' ((conv=>whnf);first|refine cg hP ?_|refine af ?_|apply ae|apply oi|(apply fi<;>intro h)|refine⟨_,rfl,?_⟩|exact rfl)
   all_goals try exact⟨KO⟩
   all_goals try(exfalso;rw[hz]at h;simp at h;done)
  ·rw[show dJ s.faq (adv c z) ⟨11,a⟩=aB (adv c z) by simp[dJ,zG,hz]]
   repeat' ((conv=>whnf);first|refine cg hP ?_|refine af ?_|apply ae|apply oi|(apply fi<;>intro h)|refine⟨_,rfl,?_⟩|exact rfl)
   all_goals try exact⟨KO⟩
   all_goals try(exfalso;exact hz (by simpa using h))
 by_cases e12:k=12
 ·subst e12
  obtain⟨a0,a1⟩:=ha (by omega) (by omega)
  obtain⟨n,rfl⟩:=Int.eq_ofNat_of_zero_le a0
  have hP:=dh (adv c z) (adv c z).m.fap hc
  have hel:(s.faq.map aa).length=s.faq.length:=by simp
  by_cases hn:n < s.faq.length
  ·obtain⟨e,hee⟩:=ag hn
   rw[show dJ s.faq (adv c z) ⟨12,(n:Int)⟩=⟨{(da (adv c z) (adv c z).m.fap).m with fap:=e},(da (adv c z) (adv c z).m.fap).bad⟩ by simp[dJ,yj,hee]]
   repeat' ((conv=>whnf);first|refine cg hP ?_|refine af ?_|apply ae|apply oi|(apply fi<;>intro h)|refine⟨n,(aa e),rfl,ab hee,?_⟩|refine⟨_,rfl,?_⟩|exact rfl)
   all_goals try exact⟨KO⟩
   all_goals try(exfalso;have h':=of_decide_eq_true h;rw[hel]at h';dsimp only at h';omega)
  ·have hnone:s.faq[n]?=none:=List.getElem?_eq_none (by omega)
   rw[show dJ s.faq (adv c z) ⟨12,(n:Int)⟩=⟨(adv c z).m,true⟩ by simp[dJ,yj,hnone]]
   repeat' ((conv=>whnf);first|refine cg hP ?_|refine af ?_|apply ae|apply oi|(apply fi<;>intro h)|refine⟨_,rfl,?_⟩|exact rfl)
   all_goals try exact⟨KO⟩
   all_goals try(exfalso;have h':=of_decide_eq_false h;rw[hel]at h';dsimp only at h';omega)
 by_cases e13:k=13
 ·subst e13
  obtain⟨a0,a1⟩:=ha (by omega) (by omega)
  obtain⟨n,rfl⟩:=Int.eq_ofNat_of_zero_le a0
  have hP:=dh (adv c z) c.m.fan hc
  have hZ:=qW ⟨{(da (adv c z) c.m.fan).m with fan:=(da (adv c z) c.m.fan).m.fae},(da (adv c z) c.m.fan).bad⟩ n (dL (c:=adv c z) hc) (by omega)
  repeat' ((conv=>whnf);first|refine cg hP ?_|refine cg hZ ?_|refine af ?_|apply ae|apply oi|(apply fi<;>intro h)|refine⟨_,rfl,?_⟩|exact rfl)
  all_goals try exact⟨KO⟩
 by_cases e15:k=15
 ·subst e15
  obtain⟨a0,a1⟩:=ha (by omega) (by omega)
  obtain⟨n,rfl⟩:=Int.eq_ofNat_of_zero_le a0
  have hZ:=qW (adv c z) n hc (by omega)
  repeat' ((conv=>whnf);first|refine cg hZ ?_|refine af ?_|apply ae|apply oi|(apply fi<;>intro h)|refine⟨_,rfl,?_⟩|exact rfl)
  all_goals try exact⟨KO⟩
 by_cases e14:k=14
 ·subst e14
  obtain⟨a0,a1⟩:=ha (by omega) (by omega)
  obtain⟨n,rfl⟩:=Int.eq_ofNat_of_zero_le a0
  have hP1:=cF (adv c z) hc
  have hb:=aH (aB (adv c z)).m.fan 0 1200
  cases hw:ah (aB (adv c z)).m.fan 0 1200 with
  | false=>
   rw[hw]at hb
   rw[show dJ s.faq (adv c z) ⟨14,(n:Int)⟩=⟨(aB (adv c z)).m,true⟩ by simp[dJ,ur,hw]]
   repeat' ((conv=>whnf);first|refine cg hP1 ?_|refine af ?_|apply ae|apply oi|(apply fi<;>intro h)|refine cl hb ?_|refine⟨_,rfl,?_⟩|exact rfl)
   all_goals try exact⟨KO⟩
   all_goals try(exfalso;simp at h;done)
  | true=>
   rw[hw]at hb
   rw[show dJ s.faq (adv c z) ⟨14,(n:Int)⟩=da (bn n (qPc (qFp (eD (aB (adv c z)))))) (iF (adv c z)) by simp[dJ,ur,hw]]
   have o1:(eD (aB (adv c z))).ok:=aG (c:=adv c z) hc
   have o2:(qFp (eD (aB (adv c z)))).ok:=aG o1
   have o3:(qPc (qFp (eD (aB (adv c z))))).ok:=aG o2
   have hP2:=cF (eD (aB (adv c z))) o1
   have hP3:=cF (qFp (eD (aB (adv c z)))) o2
   have hD:=ni (qPc (qFp (eD (aB (adv c z))))) n o3 (by omega)
   have hP4:=dh (bn n (qPc (qFp (eD (aB (adv c z)))))) (iF (adv c z)) (cX o3)
   repeat' ((conv=>whnf);first|refine af ?_|apply ae|apply oi|(apply fi<;>intro h)|refine⟨_,rfl,?_⟩|exact rfl)
   all_goals try exact⟨KO⟩
   refine cg (hP1) ?_
   repeat' ((conv=>whnf);first|refine af ?_|apply ae|apply oi|(apply fi<;>intro h)|refine cl hb ?_|refine⟨_,rfl,?_⟩|exact rfl)
   all_goals try exact⟨KO⟩
   all_goals try(exfalso;simp at h;done)
   refine cg (hP2) ?_
   repeat' ((conv=>whnf);first|refine af ?_|apply ae|apply oi|(apply fi<;>intro h)|refine⟨_,rfl,?_⟩|exact rfl)
   all_goals try exact⟨KO⟩
   refine cg (hP3) ?_
   repeat' ((conv=>whnf);first|refine cg hD ?_|refine cg hP4 ?_|refine af ?_|apply ae|apply oi|(apply fi<;>intro h)|refine⟨_,rfl,?_⟩|exact rfl)
   all_goals try exact⟨KO⟩
 by_cases e16:k=16
 ·subst e16
  obtain⟨a0,a1⟩:=ha (by omega) (by omega)
  obtain⟨n,rfl⟩:=Int.eq_ofNat_of_zero_le a0
  have o1:(aB (adv c z)).ok:=aG (c:=adv c z) hc
  have o2:(bn (n / 16) (aB (adv c z))).ok:=cX o1
  have o3:(qPc (bn (n / 16) (aB (adv c z)))).ok:=aG o2
  have w1:IntKind.i64.wrap ((n:Int).tdiv 16)=((n / 16:Nat):Int):=by
   rw[Int.tdiv_eq_ediv_of_nonneg (by omega),IntWalk.i64_in _ (by omega)];rfl
  have w2:(n:Int).tmod 16=((n % 16:Nat):Int):=by
   rw[Int.tmod_eq_emod_of_nonneg (by omega)];rfl
  have hP1:=cF (adv c z) hc
  have hD1:=ni (aB (adv c z)) (n / 16) o1 (by omega)
  have hP2:=cF (bn (n / 16) (aB (adv c z))) o2
  have hD2:=ni (qPc (bn (n / 16) (aB (adv c z)))) (n % 16) o3 (by omega)
  have hP4:=dh (bn (n % 16) (qPc (bn (n / 16) (aB (adv c z))))) (iF (adv c z)) (cX o3)
  rw[←w1]at hD1
  rw[←w2]at hD2
  repeat' ((conv=>whnf);first|refine af ?_|apply ae|apply oi|(apply fi<;>intro h)|refine⟨_,rfl,?_⟩|exact rfl)
  all_goals try exact⟨KO⟩
  refine cg (hP1) ?_
  repeat' ((conv=>whnf);first|refine af ?_|apply ae|apply oi|(apply fi<;>intro h)|refine⟨_,rfl,?_⟩|exact rfl)
  all_goals try exact⟨KO⟩
  refine cg (hD1) ?_
  repeat' ((conv=>whnf);first|refine af ?_|apply ae|apply oi|(apply fi<;>intro h)|refine⟨_,rfl,?_⟩|exact rfl)
  all_goals try exact⟨KO⟩
  refine cg (hP2) ?_
  repeat' ((conv=>whnf);first|refine af ?_|apply ae|apply oi|(apply fi<;>intro h)|refine⟨_,rfl,?_⟩|exact rfl)
  all_goals try exact⟨KO⟩
  refine cg (hD2) ?_
  repeat' ((conv=>whnf);first|refine af ?_|apply ae|apply oi|(apply fi<;>intro h)|refine⟨_,rfl,?_⟩|exact rfl)
  all_goals try exact⟨KO⟩
  refine cg (hP4) ?_
  repeat' ((conv=>whnf);first|refine af ?_|apply ae|apply oi|(apply fi<;>intro h)|refine⟨_,rfl,?_⟩|exact rfl)
  all_goals try exact⟨KO⟩
 ·have o1:(aB (adv c z)).ok:=aG (c:=adv c z) hc
  have hP1:=cF (adv c z) hc
  have hP2:=cF (aB (adv c z)) o1
  have hP3:=dh (aB (aB (adv c z))) (cK (k - 3) (iF (aB (adv c z))) (iF (adv c z))) (aG o1)
  have hA:=nP (k - 3) (iF (aB (adv c z))) (iF (adv c z))
  have e:k=5∨k=6∨k=7∨k=8∨k=9:=by omega
  rcases e with rfl|rfl|rfl|rfl|rfl
  all_goals
   repeat' ((conv=>whnf);first|refine af ?_|apply ae|apply oi|(apply fi<;>intro h)|refine⟨_,rfl,?_⟩|exact rfl)
   all_goals try exact⟨KO⟩
   refine cg (hP1) ?_
   repeat' ((conv=>whnf);first|refine af ?_|apply ae|apply oi|(apply fi<;>intro h)|refine⟨_,rfl,?_⟩|exact rfl)
   all_goals try exact⟨KO⟩
   refine cg (hP2) ?_
   repeat' ((conv=>whnf);first|refine af ?_|apply ae|apply oi|(apply fi<;>intro h)|refine cl hA ?_|refine⟨_,rfl,?_⟩|exact rfl)
   all_goals try exact⟨KO⟩
   refine cg (hP3) ?_
   repeat' ((conv=>whnf);first|refine af ?_|apply ae|apply oi|(apply fi<;>intro h)|refine⟨_,rfl,?_⟩|exact rfl)
   all_goals try exact⟨KO⟩
theorem Dg (s:TSpace)(c:CS)(a z:Int)(hc:c.ok)(ho:c.m.fah.length≤2000000):aS Tryz.prog 167 [.r (.agg (s.tr.map .t)),eA,opV ⟨17,a⟩,tI .i64 z] (lq c) (.tup []) (HF (Ai (adv c z))):=by
 refine bb hΓ ay Tryz.func167 rfl (by decide) rfl rfl ?_
 have hP:=cF (adv c z) hc
 have ho2:(aB (adv c z)).m.fah.length≤2000000:=by unfold aB;split <;> exact ho
 repeat' ((conv=>whnf);first|refine cg hP ?_|refine af ?_|refine wH 5 7 ?_|apply oi|(apply fi<;>intro h)|refine⟨_,rfl,?_⟩|exact rfl)
 all_goals try exact⟨KR⟩
 all_goals(refine⟨?_⟩;first|(refine And.intro ?_ ?_ <;> simp only[List.length_map,List.length_append,List.length_cons,List.length_nil] <;> omega)|simp[Ai,aa])
end Go.Proofs.YtjmplnfiabmalaaGreat
namespace Go.Proofs.YtjmplnfiabmalaaGreat
open Go.Sim
set_option maxRecDepth 100000
set_option maxHeartbeats 8000000
theorem aL {p:Prop}[Decidable p](Q:CS→Prop){a b:CS}(ha:Q a)(hb:Q b):Q (if p then a else b):=by split <;> assumption
theorem uQ {es:List Int}{c:CS}{x:TOp}(h:c.ok):(ce es c x).ok:=by
 unfold ce
 refine aL (CS.ok) (by
  exact dK h) ?_
 refine aL (CS.ok) (by
  exact yP h) ?_
 refine aL (CS.ok) (by
  exact yP h) ?_
 refine aL (CS.ok) (by
  exact vD h) ?_
 refine aL (CS.ok) (by
  exact vD h) ?_
 refine aL (CS.ok) (by
  exact dK (aG (aG h))) ?_
 refine aL (CS.ok) (by
  exact h) ?_
 refine aL (CS.ok) (by
  unfold qS;split
  ·exact aG h
  ·exact aG h) ?_
 refine aL (CS.ok) (by
  unfold qq;split
  ·exact dK h
  ·exact dK h) ?_
 refine aL (CS.ok) (by
  exact pZ (dK h)) ?_
 refine aL (CS.ok) (by
  exact pZ h) ?_
 refine aL (CS.ok) (by
  exact dK (cX (aG (aG (aG h))))) ?_
 refine aL (CS.ok) (by
  exact dK (cX (aG (cX (aG h))))) ?_
 refine aL (CS.ok) (by
  exact aG h) ?_
 exact h
def MW (m:TMachine):Prop:=(∀w∈m.fao,inI w)∧inI m.fap∧inI m.fan
theorem DQ (n:Int):inI (wr n):=by
 have e:wr n=if n % 18446744073709551616≥9223372036854775808 then n % 18446744073709551616 - 18446744073709551616 else n % 18446744073709551616:=by simp[wr,IntKind.wrap,IntKind.bits,IntKind.signed]
 unfold inI
 rw[e]
 split <;> omega
theorem rY:inI 0:=by unfold inI;omega
theorem vS {m:TMachine}(h:MW m)(a:Int):inI (eO m a):=by
 unfold eO
 split
 ·rename_i x hx;exact h.1 _ (List.mem_of_getElem? hx)
 ·exact rY
theorem xW {m:TMachine}(h:MW m){a v:Int}(hv:inI v):MW (po m a v):=by
 refine⟨fun w hw=>?_,h.2⟩
 rcases List.mem_or_eq_of_mem_set hw with h1|h1
 ·exact h.1 w h1
 ·rw[h1];exact hv
theorem gh {c:CS}(h:MW c.m){v:Int}(hv:inI v):MW (bS c v).m:=by
 unfold bS
 split
 ·exact h
 ·exact⟨(xW h hv).1,h.2⟩
theorem dR {c:CS}(h:MW c.m):MW (aB c).m:=by
 unfold aB
 split
 ·exact h
 ·exact h
theorem nZ {c:CS}(h:MW c.m):inI (iK c):=by
 unfold iK
 split
 ·exact rY
 ·exact vS h _
theorem oe:∀{n:Nat} {c:CS},MW c.m→MW (bn n c).m
 | 0,_,h=>h
 | n+1,_,h=>oe (n:=n) (dR h)
theorem qe:∀{n:Nat} {c:CS},MW c.m→MW (eM n c).m
 | 0,_,h=>h
 | n+1,_,h=>qe (n:=n) (gh h rY)
theorem yf {c:CS}{a:Int}(h:MW c.m):MW (je c a).m:=by
 unfold je
 split
 ·exact h
 ·exact gh (c:=⟨c.m,false⟩) h (vS h a)
theorem wq {c:CS}{a:Int}(h:MW c.m):MW (fu c a).m:=by
 have:=dR h
 unfold fu
 split
 ·exact this
 ·exact xW this (nZ h)
theorem zN (n:Int):inI (w32 n):=by have:=ik n;unfold inI;omega
theorem CY (k a b:Int):inI (cK k a b):=by
 unfold cK
 repeat' split
 ·exact zN _
 ·exact zN _
 ·exact zN _
 ·unfold inI;omega
 ·exact rY
theorem GQ {c:CS}(h:MW c.m):MW (cFp c).m:=⟨(dR h).1,(dR h).2.1,nZ h⟩
theorem DZ {c:CS}(h:MW c.m):MW (cPc c).m:=⟨(dR h).1,nZ h,(dR h).2.2⟩
theorem Fk {c:CS}(h:MW c.m):MW (eD c).m:=h
theorem yK {c:CS}(h:MW c.m)(a:Int):MW (mB c a).m:=⟨h.1,DQ _,h.2.2⟩
theorem yB {c:CS}(h:MW c.m)(hs:inI c.m.fae)(v:Int):inI (bS c v).m.fae:=by
 unfold bS
 split
 ·exact hs
 ·exact DQ _
theorem DY {es:List Int}{c:CS}{x:TOp}(h:MW c.m)(hs:inI c.m.fae)(ha:inI x.faf)(he:∀e∈es,inI e):MW (ce es c x).m:=by
 unfold ce
 refine aL (fun c=>MW c.m) (by
  exact gh h ha) ?_
 refine aL (fun c=>MW c.m) (by
  exact yf h) ?_
 refine aL (fun c=>MW c.m) (by
  exact yf h) ?_
 refine aL (fun c=>MW c.m) (by
  exact wq h) ?_
 refine aL (fun c=>MW c.m) (by
  exact wq h) ?_
 refine aL (fun c=>MW c.m) (by
  exact gh (dR (dR h)) (CY _ _ _)) ?_
 refine aL (fun c=>MW c.m) (by
  exact yK h _) ?_
 refine aL (fun c=>MW c.m) (by
  unfold qS;split
  ·exact yK (dR h) _
  ·exact dR h) ?_
 refine aL (fun c=>MW c.m) (by
  have hp:=gh h h.2.1
  unfold qq;split
  ·rename_i e hee
   exact⟨hp.1,he _ (List.mem_of_getElem? hee),hp.2.2⟩
  ·exact hp) ?_
 refine aL (fun c=>MW c.m) (by
  have hp:=gh h h.2.2
  exact qe (c:=⟨{(bS c c.m.fan).m with fan:=(bS c c.m.fan).m.fae},(bS c c.m.fan).bad⟩) ⟨hp.1,hp.2.1,yB h hs _⟩) ?_
 refine aL (fun c=>MW c.m) (by
  exact qe h) ?_
 refine aL (fun c=>MW c.m) (by
  exact gh (oe (DZ (GQ (Fk (dR h))))) (nZ h)) ?_
 refine aL (fun c=>MW c.m) (by
  exact gh (oe (DZ (oe (dR h)))) (nZ h)) ?_
 refine aL (fun c=>MW c.m) (by
  exact dR h) ?_
 exact h
theorem dS {c:CS}{v:Int}:(bS c v).m.fah=c.m.fah:=by unfold bS;split <;> rfl
theorem cPop_out' {c:CS}:(aB c).m.fah=c.m.fah:=by unfold aB;split <;> rfl
theorem cDrop_out:∀{n:Nat} {c:CS},(bn n c).m.fah=c.m.fah
 | 0,_=>rfl
 | n+1,c=>by rw[bn,cDrop_out (n:=n),cPop_out']
theorem nj:∀{n:Nat} {c:CS},(eM n c).m.fah=c.m.fah
 | 0,_=>rfl
 | n+1,c=>by rw[eM,nj (n:=n),dS]
theorem wn {c:CS}{a:Int}:(je c a).m.fah=c.m.fah:=by
 unfold je
 split
 ·rfl
 ·exact dS
theorem tN {c:CS}{a:Int}:(fu c a).m.fah=c.m.fah:=by
 unfold fu
 split
 ·exact cPop_out'
 ·exact cPop_out'
theorem CB {es:List Int}{c:CS}{x:TOp}:(ce es c x).m.fah.length≤c.m.fah.length+1:=by
 have key:∀l:List Int,l=c.m.fah→l.length≤c.m.fah.length+1:=fun l h=>by rw[h];omega
 unfold ce
 refine aL (fun d=>d.m.fah.length≤c.m.fah.length+1) (by
  exact key _ dS) ?_
 refine aL (fun d=>d.m.fah.length≤c.m.fah.length+1) (by
  exact key _ wn) ?_
 refine aL (fun d=>d.m.fah.length≤c.m.fah.length+1) (by
  exact key _ wn) ?_
 refine aL (fun d=>d.m.fah.length≤c.m.fah.length+1) (by
  exact key _ tN) ?_
 refine aL (fun d=>d.m.fah.length≤c.m.fah.length+1) (by
  exact key _ tN) ?_
 refine aL (fun d=>d.m.fah.length≤c.m.fah.length+1) (by
  exact key _ (by rw[wQ,dS,cPop_out',cPop_out'])) ?_
 refine aL (fun d=>d.m.fah.length≤c.m.fah.length+1) (by
  exact key _ rfl) ?_
 refine aL (fun d=>d.m.fah.length≤c.m.fah.length+1) (by
  refine key _ ?_;unfold qS;split
  ·exact cPop_out'
  ·exact cPop_out') ?_
 refine aL (fun d=>d.m.fah.length≤c.m.fah.length+1) (by
  refine key _ ?_;unfold qq;split
  ·exact dS
  ·exact dS) ?_
 refine aL (fun d=>d.m.fah.length≤c.m.fah.length+1) (by
  refine key _ ?_;rw[xl,nj];exact dS) ?_
 refine aL (fun d=>d.m.fah.length≤c.m.fah.length+1) (by
  exact key _ nj) ?_
 refine aL (fun d=>d.m.fah.length≤c.m.fah.length+1) (by
  refine key _ ?_
  rw[xc,dS,cDrop_out]
  exact cPop_out'.trans (cPop_out'.trans cPop_out')) ?_
 refine aL (fun d=>d.m.fah.length≤c.m.fah.length+1) (by
  refine key _ ?_
  rw[rO,dS,cDrop_out]
  exact cPop_out'.trans (cDrop_out.trans cPop_out')) ?_
 refine aL (fun d=>d.m.fah.length≤c.m.fah.length+1) (by
  show((aB c).m.fah++[iK c]).length≤_
  rw[List.length_append,cPop_out']
  simp) ?_
 omega
def dy (s:TSpace)(a:Int):Option (TOp×Nat):=if(zB s a).1 < 0 then none else match s.faA[(zB s a).1.toNat]? with
 | some im=>aU im.fab (zB s a).2
 | none=>none
def eK (c:CS):Option TMachine:=if c.bad=true then none else if c.m.fap=0 then(if bf c.m.fae=true then some {c.m with fai:=1,fay:=eO c.m c.m.fae} else none)else some c.m
def cC (s:TSpace)(m:TMachine):Option TMachine:=match dy s m.fap with
 | none=>none
 | some x=>eK (ce s.faq (adv ⟨m,false⟩ x.2) x.1)
def vB (s:TSpace)(m:TMachine):Option TMachine:=match dy s m.fap with
 | none=>none
 | some x=>eK (dJ s.faq (adv ⟨m,false⟩ x.2) x.1)
theorem nu {s:TSpace}{a:Int}{x:TOp×Nat}(h:dy s a=some x):∃(t:List UInt8) (p:Int),aU t p=some x:=by
 unfold dy at h
 split at h
 ·cases h
 ·split at h
  ·exact⟨_,_,h⟩
  ·cases h
theorem Do {c d:CS}(h:Rel c d):eK c=eK d:=by
 obtain⟨h1,h2⟩:=h
 cases hb:c.bad with
 | true=>rw[eK,eK,if_pos hb,if_pos (h1 ▸ hb)]
 | false=>
  obtain⟨h3,_⟩:=h2 hb
  obtain⟨m,b⟩:=c
  obtain⟨m',b'⟩:=d
  dsimp only at *
  subst h3;subst h1
  rfl
theorem FM {s:TSpace}{m:TMachine}(hsp:0≤m.fae∧m.fae≤1200)(hfp:inI m.fan):cC s m=vB s m:=by
 unfold cC vB
 cases h:dy s m.fap with
 | none=>rfl
 | some x=>
  obtain⟨t,p,hd⟩:=nu h
  obtain⟨x,z⟩:=x
  obtain⟨c0,c1,c2,_⟩:=dY hd
  exact Do (xX s.faq {m with fap:=wr (m.fap+z)} x hsp hfp c0 c1 c2)
def CJ (m:TMachine):TMachine:={m with fai:=2}
def mV (m:TMachine)(st out:Sim.Id):AV:= .r (.agg [.t (.int .i64 m.fap),.t (.int .i64 m.fae),.t (.int .i64 m.fan),.own st,.own out,.t (.int .i64 m.fai),.t (.int .i64 m.fay)])
theorem qk {i0 i1:TImage}{i:Nat}(hi:i < 2)(h0:i0.fab.length≤1000000)(h1:i1.fab.length≤1000000):∃im:TImage,[i0,i1][i]?=some im∧([i0.tr,i1.tr]:List (List Tr))[i]?=some im.tr∧im.fab.length≤1000000:=by
 match i,hi with
 | 0,_=>exact⟨i0,rfl,rfl,h0⟩
 | 1,_=>exact⟨i1,rfl,rfl,h1⟩
theorem sW {i0 i1:TImage}{b0 b1 a:Int}(h0:i0.fab.length≤1000000)(h1:i1.fab.length≤1000000):(eb i0 i1 b0 b1 a).2≤1000000:=by
 unfold eb
 split
 ·dsimp only;omega
 ·split <;> dsimp only <;> omega
def HE (m:TMachine):Option TMachine→AV
 | none=> .r (.agg ((CJ m).tr.map .t))
 | some m'=>mV m' (1,0,0) (1,0,1)
def HC (m:TMachine):Option TMachine→List (Sim.Id×AO)
 | none=>[]
 | some m'=>[((1,0,0),.arr false 1 (m'.fao.map aa)),((1,0,1),.arr false 1 (m'.fah.map aa))]
theorem oJ (s:TSpace)(m:TMachine)(h0:m.fai≠0):aS Tryz.prog 93 [.r (.agg (s.tr.map .t)),.r (.agg (m.tr.map .t))] [] (.r (.agg (m.tr.map .t))) []:=by
 refine bb hΓ ay Tryz.func93 rfl (by decide) rfl rfl ?_
 repeat' ((conv=>whnf);first|refine af ?_|apply ae|apply oi|(apply fi<;>intro h)|refine⟨_,rfl,?_⟩|exact rfl)
 all_goals try exact⟨KO⟩
 all_goals try(exfalso;exact h0 (by simpa using h))
theorem xx (s:TSpace)(m:TMachine)(hok:bp s=true)(hm:m.fao.length=1200)(ho:m.fah.length≤2000000)(h0:m.fai=0)(r:Option TMachine)(hr:cC s m=r):aS Tryz.prog 93 [.r (.agg (s.tr.map .t)),.r (.agg (m.tr.map .t))] [] (HE m r) (HC m r):=by
 obtain⟨i0,i1,b0,b1,hsh,⟨e1,e2⟩,⟨g0,p0,p1⟩,⟨g1,q0,q1⟩,_,_⟩:=ji hok
 have l0:=(imageOk_iff.1 g0).1
 have l1:=(imageOk_iff.1 g1).1
 have hL:=mA i0 i1 b0 b1 m.fap s.faq (by omega) (by omega) (by omega) (by omega)
 obtain⟨im,bs,es⟩:=s
 dsimp only at hsh hL e2
 injection hsh with h1 h2
 subst h1
 subst h2
 refine bb hΓ ay Tryz.func93 rfl (by decide) rfl rfl ?_
 have hloc:zB ⟨[i0,i1],[b0,b1],es⟩ m.fap=eb i0 i1 b0 b1 m.fap:=rfl
 rcases nx i0 i1 b0 b1 m.fap with hx|⟨i,off,hi,hx⟩
 ·rw[hx]at hL
  have:r=none:=by rw[←hr,cC,dy,hloc,hx];rfl
  subst this
  repeat' ((conv=>whnf);first|refine af ?_|apply ae|apply oi|(apply fi<;>intro h)|refine cl hL ?_|refine⟨_,rfl,?_⟩|exact rfl)
  all_goals try exact⟨KO⟩
  all_goals try(exfalso;simp[h0]at h;done)
 ·have hoff:=sW (b0:=b0) (b1:=b1) (a:=m.fap) l0 l1
  rw[hx]at hL hoff
  dsimp only at hoff
  obtain⟨im,hi1,hi2,hil⟩:=qk hi l0 l1
  have hD:=gD im.fab off (by omega) (by omega)
  have hf:dy ⟨[i0,i1],[b0,b1],es⟩ m.fap=aU im.fab off:=by
   rw[dy,hloc,hx]
   dsimp only
   rw[if_neg (by omega),Int.toNat_natCast,hi1]
  cases hd:aU im.fab off with
  | none=>
   rw[hd]at hD hf
   have:r=none:=by rw[←hr,cC,hf]
   subst this
   repeat' ((conv=>whnf);first|refine af ?_|apply ae|apply oi|(apply fi<;>intro h)|refine cl hL ?_|refine⟨i,im.tr,rfl,hi2,?_⟩|refine cl hD ?_|refine⟨_,rfl,?_⟩|exact rfl)
   all_goals try exact⟨KO⟩
   all_goals try(exfalso;simp[h0]at h;done)
   all_goals try(exfalso;have h':=of_decide_eq_true h;omega)
  | some xz=>
   obtain⟨x,z⟩:=xz
   rw[hd]at hD hf
   obtain⟨c0,c1,_,z5⟩:=dY hd
   have hC:=bA m (by omega) ho
   have hr2:eK (ce es (adv ⟨m,false⟩ z) x)=r:=by rw[←hr,cC,hf]
   by_cases h17:x.fab=17
   ·have hxx:x=⟨17,x.faf⟩:=by rw[←h17]
    have hP:=tF ⟨[i0,i1],[b0,b1],es⟩ (adv ⟨m,false⟩ z) x.faf hm ho
    rw[←hxx]at hP
    have hcc:ce es (adv ⟨m,false⟩ z) x=vf (adv ⟨m,false⟩ z):=by rw[hxx];simp[ce]
    rw[hcc]at hr2
    have hco:(vf (adv ⟨m,false⟩ z)).ok:=aG (c:=adv ⟨m,false⟩ z) hm
    generalize vf (adv ⟨m,false⟩ z)=c at *
    have hA:=eS ⟨{c.m with fai:=1},c.bad⟩ c.m.fae
    obtain⟨cm,cb⟩:=c
    unfold cAt at hA
    dsimp only at hA
    cases cb with
    | true=>
     have:r=none:=by rw[←hr2];rfl
     subst this
     repeat' ((conv=>whnf);first|refine cg hP ?_|refine af ?_|apply ae|apply oi|(apply fi<;>intro h)|refine cl hL ?_|refine⟨i,im.tr,rfl,hi2,?_⟩|refine cl hD ?_|refine cl hC ?_|refine⟨_,rfl,?_⟩|exact rfl)
     all_goals try exact⟨KO⟩
     all_goals try(exfalso;simp[h0]at h;done)
     all_goals try(exfalso;have h':=of_decide_eq_true h;omega)
    | false=>
     by_cases hpc:cm.fap=0
     ·cases hin:bf cm.fae with
      | false=>
       rw[hin]at hA
       have:r=none:=by rw[←hr2];simp[eK,hpc,hin]
       subst this
       repeat' ((conv=>whnf);first|refine cg hP ?_|refine cg hA ?_|refine af ?_|apply ae|apply oi|(apply fi<;>intro h)|refine cl hL ?_|refine⟨i,im.tr,rfl,hi2,?_⟩|refine cl hD ?_|refine cl hC ?_|refine⟨_,rfl,?_⟩|exact rfl)
       all_goals try exact⟨KO⟩
       all_goals try(exfalso;simp[h0]at h;done)
       all_goals try(exfalso;simp[hpc]at h;done)
       all_goals try(exfalso;have h':=of_decide_eq_true h;omega)
      | true=>
       rw[hin]at hA
       obtain⟨j,v,hj,hv,hlt,_⟩:=iy hco hin
       have hlen:(cm.fao.map aa).length=cm.fao.length:=by simp
       have hin':bf (j:Int)=true:=hj ▸ hin
       have:r=some {cm with fai:=1,fay:=v}:=by rw[←hr2];simp[eK,hpc,hin',eO,hj,hv]
       subst this
       repeat' ((conv=>whnf);first|refine cg hP ?_|refine cg hA ?_|refine af ?_|apply ae|apply oi|(apply fi<;>intro h)|refine cl hL ?_|refine⟨i,im.tr,rfl,hi2,?_⟩|refine cl hD ?_|refine cl hC ?_|refine⟨_,rfl,?_⟩|exact rfl)
       all_goals try exact⟨KO⟩
       all_goals try(exfalso;simp[h0]at h;done)
       all_goals try(exfalso;simp[hpc]at h;done)
       all_goals try(exfalso;have h':=of_decide_eq_true h;omega)
       conv=>whnf
       refine⟨j,hj,by rw[hlen];exact hlt,?_⟩
       repeat' ((conv=>whnf);first|refine af ?_|apply ae|apply oi|(apply fi<;>intro h)|refine⟨(aa v),ab hv,?_⟩|refine⟨_,rfl,?_⟩|exact rfl)
       all_goals try exact⟨KO⟩
     ·have:r=some cm:=by rw[←hr2];simp[eK,hpc]
      subst this
      repeat' ((conv=>whnf);first|refine cg hP ?_|refine af ?_|apply ae|apply oi|(apply fi<;>intro h)|refine cl hL ?_|refine⟨i,im.tr,rfl,hi2,?_⟩|refine cl hD ?_|refine cl hC ?_|refine⟨_,rfl,?_⟩|exact rfl)
      all_goals try exact⟨KO⟩
      all_goals try(exfalso;simp[h0]at h;done)
      all_goals try(exfalso;simp[hpc]at h;done)
      all_goals try(exfalso;have h':=of_decide_eq_true h;omega)
   ·have hP:=ll ⟨[i0,i1],[b0,b1],es⟩ (adv ⟨m,false⟩ z) x hm h17 c1 (by dsimp only;omega)
    have hco:(ce es (adv ⟨m,false⟩ z) x).ok:=uQ hm
    dsimp only at hP
    generalize ce es (adv ⟨m,false⟩ z) x=c at *
    have hA:=eS ⟨{c.m with fai:=1},c.bad⟩ c.m.fae
    obtain⟨cm,cb⟩:=c
    unfold cAt at hA
    dsimp only at hA
    cases cb with
    | true=>
     have:r=none:=by rw[←hr2];rfl
     subst this
     repeat' ((conv=>whnf);first|refine cg hP ?_|refine af ?_|apply ae|apply oi|(apply fi<;>intro h)|refine cl hL ?_|refine⟨i,im.tr,rfl,hi2,?_⟩|refine cl hD ?_|refine cl hC ?_|refine⟨_,rfl,?_⟩|exact rfl)
     all_goals try exact⟨KO⟩
     all_goals try(exfalso;simp[h0]at h;done)
     all_goals try(exfalso;have h':=of_decide_eq_true h;omega)
    | false=>
     by_cases hpc:cm.fap=0
     ·cases hin:bf cm.fae with
      | false=>
       rw[hin]at hA
       have:r=none:=by rw[←hr2];simp[eK,hpc,hin]
       subst this
       repeat' ((conv=>whnf);first|refine cg hP ?_|refine cg hA ?_|refine af ?_|apply ae|apply oi|(apply fi<;>intro h)|refine cl hL ?_|refine⟨i,im.tr,rfl,hi2,?_⟩|refine cl hD ?_|refine cl hC ?_|refine⟨_,rfl,?_⟩|exact rfl)
       all_goals try exact⟨KO⟩
       all_goals try(exfalso;simp[h0]at h;done)
       all_goals try(exfalso;simp[hpc]at h;done)
       all_goals try(exfalso;have h':=of_decide_eq_true h;omega)
      | true=>
       rw[hin]at hA
       obtain⟨j,v,hj,hv,hlt,_⟩:=iy hco hin
       have hlen:(cm.fao.map aa).length=cm.fao.length:=by simp
       have hin':bf (j:Int)=true:=hj ▸ hin
       have:r=some {cm with fai:=1,fay:=v}:=by rw[←hr2];simp[eK,hpc,hin',eO,hj,hv]
       subst this
       repeat' ((conv=>whnf);first|refine cg hP ?_|refine cg hA ?_|refine af ?_|apply ae|apply oi|(apply fi<;>intro h)|refine cl hL ?_|refine⟨i,im.tr,rfl,hi2,?_⟩|refine cl hD ?_|refine cl hC ?_|refine⟨_,rfl,?_⟩|exact rfl)
       all_goals try exact⟨KO⟩
       all_goals try(exfalso;simp[h0]at h;done)
       all_goals try(exfalso;simp[hpc]at h;done)
       all_goals try(exfalso;have h':=of_decide_eq_true h;omega)
       conv=>whnf
       refine⟨j,hj,by rw[hlen];exact hlt,?_⟩
       repeat' ((conv=>whnf);first|refine af ?_|apply ae|apply oi|(apply fi<;>intro h)|refine⟨(aa v),ab hv,?_⟩|refine⟨_,rfl,?_⟩|exact rfl)
       all_goals try exact⟨KO⟩
     ·have:r=some cm:=by rw[←hr2];simp[eK,hpc]
      subst this
      repeat' ((conv=>whnf);first|refine cg hP ?_|refine af ?_|apply ae|apply oi|(apply fi<;>intro h)|refine cl hL ?_|refine⟨i,im.tr,rfl,hi2,?_⟩|refine cl hD ?_|refine cl hC ?_|refine⟨_,rfl,?_⟩|exact rfl)
      all_goals try exact⟨KO⟩
      all_goals try(exfalso;simp[h0]at h;done)
      all_goals try(exfalso;simp[hpc]at h;done)
      all_goals try(exfalso;have h':=of_decide_eq_true h;omega)
theorem ru (i0 i1:TImage)(b0 b1 a:Int)(es:List Int)(hb0:0≤b0∧b0≤1000000)(hb1:0≤b1∧b1≤1000000)(l0:i0.fab.length≤1000000)(l1:i1.fab.length≤1000000):Sim.Spec Tryz.prog 128 [.agg (TSpace.mk [i0,i1] [b0,b1] es).tr,tvI a] (rOp (dy ⟨[i0,i1],[b0,b1],es⟩ a)):=by
 have hL:=jB i0 i1 b0 b1 a es hb0 hb1 (by omega) (by omega)
 refine ao hΓ ay Tryz.func128 rfl (by decide) rfl ?_
 have hloc:zB ⟨[i0,i1],[b0,b1],es⟩ a=eb i0 i1 b0 b1 a:=rfl
 rcases nx i0 i1 b0 b1 a with hx|⟨i,off,hi,hx⟩
 ·rw[hx]at hL
  have hf:dy ⟨[i0,i1],[b0,b1],es⟩ a=none:=by rw[dy,hloc,hx];rfl
  rw[hf]
  repeat' ((conv=>whnf);first|refine Or.inl ?_|apply oi|(apply fi<;>intro h)|refine ci hL (ai (ai rfl (ai rfl (ai rfl trivial))) (ai rfl trivial)) ?_|refine⟨_,rfl,?_⟩|exact rfl)
  all_goals try exact⟨KO⟩
  all_goals try(exfalso;simp at h;done)
 ·have hoff:=sW (b0:=b0) (b1:=b1) (a:=a) l0 l1
  rw[hx]at hL hoff
  dsimp only at hoff
  obtain⟨im,hi1,hi2,hil⟩:=qk hi l0 l1
  have hD:=kP im.fab off (by omega) (by omega)
  have hf:dy ⟨[i0,i1],[b0,b1],es⟩ a=aU im.fab off:=by
   rw[dy,hloc,hx]
   dsimp only
   rw[if_neg (by omega),Int.toNat_natCast,hi1]
  rw[hf]
  repeat' ((conv=>whnf);first|refine Or.inl ?_|apply oi|(apply fi<;>intro h)|refine ci hL (ai (ai rfl (ai rfl (ai rfl trivial))) (ai rfl trivial)) ?_|refine⟨i,im.tr,rfl,hi2,?_⟩|refine ci hD (ai rfl (ai rfl trivial)) ?_|refine⟨_,rfl,?_⟩|exact rfl)
  all_goals try exact⟨KO⟩
  all_goals try(exfalso;have h':=of_decide_eq_true h;omega)
def jc (m:TMachine):Option TMachine→TMachine
 | none=>CJ m
 | some m'=>m'
theorem Bb {c:CS}{a v:Int}(h:c.ok):(Da c a v).ok:=by
 unfold Da CS.ok at *
 split
 ·simpa [po]using h
 ·exact h
theorem DJ {es:List Int}{c:CS}{x:TOp}(h:c.ok):(dJ es c x).ok:=by
 unfold dJ
 refine aL (CS.ok) (dL h) ?_
 refine aL (CS.ok) (dL (DS h)) ?_
 refine aL (CS.ok) (dL (DS h)) ?_
 refine aL (CS.ok) (Bb (aG h)) ?_
 refine aL (CS.ok) (Bb (aG h)) ?_
 refine aL (CS.ok) h ?_
 refine aL (CS.ok) (by unfold zG;split <;> exact aG h) ?_
 refine aL (CS.ok) (by
              unfold yj;split;· exact dL h
              ·exact h) ?_
 refine aL (CS.ok) (pr (dL h)) ?_
 refine aL (CS.ok) (pr h) ?_
 refine aL (CS.ok) (by
              unfold ur;split;· exact dL (cX (aG (aG (aG h))))
              ·exact aG h) ?_
 refine aL (CS.ok) (dL (cX (aG (cX (aG h))))) ?_
 refine aL (CS.ok) (aG h) ?_
 exact dL (aG (aG h))
theorem sq (s:TSpace)(m:TMachine)(hok:bp s=true)(hm:m.fao.length=1200)(ho:m.fah.length≤2000000):Sim.Spec Tryz.prog 97 [.agg s.tr,.agg m.tr] (.r (.agg ((jc m (vB s m)).tr.map uo))):=by
 obtain⟨i0,i1,b0,b1,hsh,⟨e1,e2⟩,⟨g0,p0,p1⟩,⟨g1,q0,q1⟩,_,_⟩:=ji hok
 have l0:=(imageOk_iff.1 g0).1
 have l1:=(imageOk_iff.1 g1).1
 have hF:=ru i0 i1 b0 b1 m.fap s.faq (by omega) (by omega) l0 l1
 have hC:=kV m (by omega) ho
 obtain⟨im,bs,es⟩:=s
 dsimp only at hsh hF e2
 injection hsh with h1 h2
 subst h1
 subst h2
 refine ao hΓ ay Tryz.func97 rfl (by decide) rfl ?_
 obtain⟨r,hr⟩:∃r,vB ⟨[i0,i1],[b0,b1],es⟩ m=r:=⟨_,rfl⟩
 rw[hr]
 cases hf:dy ⟨[i0,i1],[b0,b1],es⟩ m.fap with
 | none=>
  rw[hf]at hF
  have:r=none:=by rw[←hr,vB,hf]
  subst this
  repeat' ((conv=>whnf);first|refine af ?_|apply ae|apply oi|(apply fi<;>intro h)|refine cl hC ?_|refine cl hF ?_|refine⟨_,rfl,?_⟩|exact rfl)
  all_goals try exact⟨KO⟩
  all_goals exact⟨⟨rfl,bc _⟩⟩
 | some xz=>
  obtain⟨x,z⟩:=xz
  rw[hf]at hF
  obtain⟨t,p,hd⟩:=nu hf
  obtain⟨c0,c1,_,z5⟩:=dY hd
  have hr2:eK (dJ es (adv ⟨m,false⟩ z) x)=r:=by rw[←hr,vB,hf]
  by_cases h17:x.fab=17
  ·have hxx:x=⟨17,x.faf⟩:=by rw[←h17]
   have hP:=Dg ⟨[i0,i1],[b0,b1],es⟩ ⟨m,false⟩ x.faf z hm ho
   rw[←hxx]at hP
   have hcc:dJ es (adv ⟨m,false⟩ z) x=Ai (adv ⟨m,false⟩ z):=by rw[hxx];simp[dJ]
   rw[hcc]at hr2
   have hco:(Ai (adv ⟨m,false⟩ z)).ok:=aG (c:=adv ⟨m,false⟩ z) hm
   generalize Ai (adv ⟨m,false⟩ z)=c at *
   have hW:=iO c c.m.fae hco
   obtain⟨cm,cb⟩:=c
   unfold cAt at hW
   dsimp only at hW
   cases cb with
   | true=>
    have:r=none:=by rw[←hr2];rfl
    subst this
    repeat' ((conv=>whnf);first|refine cg hP ?_|refine af ?_|apply ae|apply oi|(apply fi<;>intro h)|refine cl hC ?_|refine cl hF ?_|refine⟨_,rfl,?_⟩|exact rfl)
    all_goals try exact⟨KO⟩
    all_goals exact⟨⟨rfl,bc _⟩⟩
   | false=>
    by_cases hpc:cm.fap=0
    ·cases hin:bf cm.fae with
     | false=>
      rw[hin]at hW
      have:r=none:=by rw[←hr2];simp[eK,hpc,hin]
      subst this
      repeat' ((conv=>whnf);first|refine cg hP ?_|refine cg hW ?_|refine af ?_|apply ae|apply oi|(apply fi<;>intro h)|refine cl hC ?_|refine cl hF ?_|refine⟨_,rfl,?_⟩|exact rfl)
      all_goals try exact⟨KO⟩
      all_goals try(exfalso;simp[hpc]at h;done)
      all_goals exact⟨⟨rfl,bc _⟩⟩
     | true=>
      rw[hin]at hW
      have:r=some {cm with fai:=1,fay:=rA ⟨cm,false⟩ cm.fae}:=by rw[←hr2];simp[eK,hpc,hin,rA]
      subst this
      repeat' ((conv=>whnf);first|refine cg hP ?_|refine cg hW ?_|refine af ?_|apply ae|apply oi|(apply fi<;>intro h)|refine cl hC ?_|refine cl hF ?_|refine⟨_,rfl,?_⟩|exact rfl)
      all_goals try exact⟨KO⟩
      all_goals try(exfalso;simp[hpc]at h;done)
      all_goals exact⟨⟨rfl,bc _⟩⟩
    ·have:r=some cm:=by rw[←hr2];simp[eK,hpc]
     subst this
     repeat' ((conv=>whnf);first|refine cg hP ?_|refine af ?_|apply ae|apply oi|(apply fi<;>intro h)|refine cl hC ?_|refine cl hF ?_|refine⟨_,rfl,?_⟩|exact rfl)
     all_goals try exact⟨KO⟩
     all_goals try(exfalso;simp[hpc]at h;done)
     all_goals exact⟨⟨rfl,bc _⟩⟩
  ·have hP:=vi ⟨[i0,i1],[b0,b1],es⟩ ⟨m,false⟩ x z hm h17 c0 c1 (by dsimp only;omega)
   have hco:(dJ es (adv ⟨m,false⟩ z) x).ok:=DJ hm
   dsimp only at hP
   generalize dJ es (adv ⟨m,false⟩ z) x=c at *
   have hW:=iO c c.m.fae hco
   obtain⟨cm,cb⟩:=c
   unfold cAt at hW
   dsimp only at hW
   cases cb with
   | true=>
    have:r=none:=by rw[←hr2];rfl
    subst this
    repeat' ((conv=>whnf);first|refine cg hP ?_|refine af ?_|apply ae|apply oi|(apply fi<;>intro h)|refine cl hC ?_|refine cl hF ?_|refine⟨_,rfl,?_⟩|exact rfl)
    all_goals try exact⟨KO⟩
    all_goals exact⟨⟨rfl,bc _⟩⟩
   | false=>
    by_cases hpc:cm.fap=0
    ·cases hin:bf cm.fae with
     | false=>
      rw[hin]at hW
      have:r=none:=by rw[←hr2];simp[eK,hpc,hin]
      subst this
      repeat' ((conv=>whnf);first|refine cg hP ?_|refine cg hW ?_|refine af ?_|apply ae|apply oi|(apply fi<;>intro h)|refine cl hC ?_|refine cl hF ?_|refine⟨_,rfl,?_⟩|exact rfl)
      all_goals try exact⟨KO⟩
      all_goals try(exfalso;simp[hpc]at h;done)
      all_goals exact⟨⟨rfl,bc _⟩⟩
     | true=>
      rw[hin]at hW
      have:r=some {cm with fai:=1,fay:=rA ⟨cm,false⟩ cm.fae}:=by rw[←hr2];simp[eK,hpc,hin,rA]
      subst this
      repeat' ((conv=>whnf);first|refine cg hP ?_|refine cg hW ?_|refine af ?_|apply ae|apply oi|(apply fi<;>intro h)|refine cl hC ?_|refine cl hF ?_|refine⟨_,rfl,?_⟩|exact rfl)
      all_goals try exact⟨KO⟩
      all_goals try(exfalso;simp[hpc]at h;done)
      all_goals exact⟨⟨rfl,bc _⟩⟩
    ·have:r=some cm:=by rw[←hr2];simp[eK,hpc]
     subst this
     repeat' ((conv=>whnf);first|refine cg hP ?_|refine af ?_|apply ae|apply oi|(apply fi<;>intro h)|refine cl hC ?_|refine cl hF ?_|refine⟨_,rfl,?_⟩|exact rfl)
     all_goals try exact⟨KO⟩
     all_goals try(exfalso;simp[hpc]at h;done)
     all_goals exact⟨⟨rfl,bc _⟩⟩
theorem pT {c:CS}{m':TMachine}(h:eK c=some m'):m'.fao=c.m.fao∧m'.fah=c.m.fah∧m'.fae=c.m.fae∧m'.fan=c.m.fan∧m'.fap=c.m.fap∧c.bad=false:=by
 unfold eK at h
 split at h
 ·cases h
 ·rename_i hb
  have hb':c.bad=false:=by simpa using hb
  split at h
  ·split at h
   ·injection h with h;subst h;exact⟨rfl,rfl,rfl,rfl,rfl,hb'⟩
   ·cases h
  ·injection h with h;subst h;exact⟨rfl,rfl,rfl,rfl,rfl,hb'⟩
theorem kq {s:TSpace}{m m':TMachine}(h:cC s m=some m'):∃x,dy s m.fap=some x∧eK (ce s.faq (adv ⟨m,false⟩ x.2) x.1)=some m':=by
 unfold cC at h
 split at h
 ·cases h
 ·rename_i x hx;exact⟨x,hx,h⟩
theorem vy {s:TSpace}{m:TMachine}(hm:m.fao.length=1200):∀m',cC s m=some m'→m'.fao.length=1200:=by
 intro m' h
 obtain⟨x,_,h2⟩:=kq h
 rw[(pT h2).1]
 exact uQ (c:=adv ⟨m,false⟩ x.2) hm
theorem qo {s:TSpace}{m:TMachine}:∀m',cC s m=some m'→m'.fah.length≤m.fah.length+1:=by
 intro m' h
 obtain⟨x,_,h2⟩:=kq h
 rw[(pT h2).2.1]
 exact CB (c:=adv ⟨m,false⟩ x.2)
def lI (s:TSpace)(m:TMachine):TMachine:=if bp s=true∧cr m=true∧m.fai=0 then jc m (cC s m)else m
theorem machineOk_iffL {m:TMachine}:cr m=true↔m.fao.length=1200∧(0≤m.fae∧m.fae≤1200)∧0≤m.fai∧m.fai≤2:=by
 rw[cr,Bool.and_eq_true,Bool.and_eq_true,within_iff,within_iff,beq_iff_eq]
 exact⟨fun h=>⟨h.1.1,h.1.2,h.2⟩,fun h=>⟨⟨h.1,h.2.1⟩,h.2.2⟩⟩
theorem nw {m:TMachine}(h:aC 1048576 m.tr):m.fao.length≤2000000∧m.fah.length≤1048576:=by
 simp only[TMachine.tr,aC]at h
 have h1:=cj h.2.2.2.1
 have h2:=cj h.2.2.2.2.1
 omega
theorem nL (s:TSpace)(m:TMachine)(hs:aC 1048576 s.tr)(hms:aC 1048576 m.tr):Sim.Spec Tryz.prog 25 [.agg s.tr,.agg m.tr] (.r (.agg ((lI s m).tr.map uo))):=by
 have hS:=iD s hs
 have hM:=jV m
 obtain⟨k1,k2⟩:=nw hms
 have hC:=bA m k1 (by omega)
 refine ao hΓ ay Tryz.func25 rfl (by decide) rfl ?_
 unfold lI
 cases h1:bp s with
 | false=>
  rw[h1]at hS
  rw[if_neg (by simp)]
  repeat' ((conv=>whnf);first|refine Or.inl ?_|apply oi|(apply fi<;>intro h)|refine ci hS (ai (ai rfl (ai rfl (ai rfl trivial))) trivial) ?_|refine ci hM (ai (ai rfl (ai rfl (ai rfl (ai rfl (ai rfl (ai rfl (ai rfl trivial))))))) trivial) ?_|refine ci hC (ai (ai rfl (ai rfl (ai rfl (ai rfl (ai rfl (ai rfl (ai rfl trivial))))))) trivial) ?_|refine⟨_,rfl,?_⟩|exact rfl)
  all_goals try exact⟨KO⟩
  all_goals try(exfalso;simp at h;done)
 | true=>
  rw[h1]at hS
  cases h2:cr m with
  | false=>
   rw[h2]at hM
   rw[if_neg (by simp)]
   repeat' ((conv=>whnf);first|refine Or.inl ?_|apply oi|(apply fi<;>intro h)|refine ci hS (ai (ai rfl (ai rfl (ai rfl trivial))) trivial) ?_|refine ci hM (ai (ai rfl (ai rfl (ai rfl (ai rfl (ai rfl (ai rfl (ai rfl trivial))))))) trivial) ?_|refine ci hC (ai (ai rfl (ai rfl (ai rfl (ai rfl (ai rfl (ai rfl (ai rfl trivial))))))) trivial) ?_|refine⟨_,rfl,?_⟩|exact rfl)
   all_goals try exact⟨KO⟩
   all_goals try(exfalso;simp at h;done)
  | true=>
   rw[h2]at hM
   obtain⟨m1,m2,m3⟩:=machineOk_iffL.1 h2
   by_cases h0:m.fai=0
   ·have hT:=xx s m h1 m1 (by omega) h0 _ rfl
    have hlen:=vy (s:=s) (m:=m) m1
    have hout:=qo (s:=s) (m:=m)
    rw[if_pos ⟨rfl,rfl,h0⟩]
    cases hr:cC s m with
    | none=>
     rw[hr]at hT
     have hB:=bA (CJ m) k1 (by have:(CJ m).fah=m.fah:=rfl;rw[this];omega)
     repeat' ((conv=>whnf);first|refine cg hT ?_|refine af ?_|apply ae|apply oi|(apply fi<;>intro h)|refine cl hS ?_|refine cl hM ?_|refine cl hB ?_|refine⟨_,rfl,?_⟩|exact rfl)
     all_goals try exact⟨KO⟩
    | some m'=>
     rw[hr]at hT hlen hout
     have hB:=bA m' (by have:=hlen m' rfl;omega) (by have:=hout m' rfl;omega)
     repeat' ((conv=>whnf);first|refine cg hT ?_|refine af ?_|apply ae|apply oi|(apply fi<;>intro h)|refine cl hS ?_|refine cl hM ?_|refine cl hB ?_|refine⟨_,rfl,?_⟩|exact rfl)
     all_goals try exact⟨KO⟩
   ·rw[if_neg (by simp[h0])]
    have hT:=oJ s m h0
    repeat' ((conv=>whnf);first|refine cg hT ?_|refine af ?_|apply ae|apply oi|(apply fi<;>intro h)|refine cl hS ?_|refine cl hM ?_|refine cl hC ?_|refine⟨_,rfl,?_⟩|exact rfl)
    all_goals try exact⟨KO⟩
def dT (s:TSpace):Nat→TMachine→TMachine×Nat
 | 0,m=>(m,0)
 | k+1,m=>if m.fai=0 then((dT s k (jc m (cC s m))).1,(dT s k (jc m (cC s m))).2+1)else(m,0)
def bt (s:TSpace)(m:TMachine)(l:Int):TMachine×Nat:=if bp s=true∧cr m=true∧ah l 0 20000=true then dT s l.toNat m else(m,0)
structure MInv (m:TMachine) (n:Nat):Prop where
 len:m.fao.length=1200
 sp:0≤m.fae∧m.fae≤1200
 w:MW m
 out:m.fah.length≤1048576+n
theorem Co {c:Int}{m:Nat}(h:aT c=(4,true))(hm:m < 4294967296):inI (iV c m):=by
 unfold inI
 by_cases hb:2 ^ (8 * 4 - 1)≤m
 ·have e:iV c m=(m:Int) - 2 ^ (8 * 4):=nN (n:=4) (by rw[h];rfl) (by rw[h]) hb
  rw[e]
  omega
 ·have e:iV c m=(m:Int):=mx (n:=4) (by rw[h];rfl) (fun hh=>hb hh.2)
  rw[e]
  omega
theorem uV {s:List UInt8}{p:Int}{x:TOp}{z:Nat}(h:aU s p=some (x,z)):inI x.faf:=by
 obtain⟨h0,h1,h2,_⟩:=dY h
 by_cases c1:12≤x.fab∧x.fab≤16
 ·have:=h1 c1.1 c1.2;unfold inI;omega
 by_cases c2:1≤x.fab∧x.fab≤11
 ·have:=h2 c2.1 c2.2;unfold inI;omega
 have c3:x.fab=0∨x.fab=17:=by omega
 unfold aU at h
 split at h
 ·split at h
  ·cases h
  ·injection h with h
   injection h with h3 h4
   subst h3
   dsimp only at c3 ⊢
   rcases c3 with c3|c3
   ·rw[c3]
    have hl:=dU s (p.toNat+1) 4
    exact Co (by decide) (by
                    have:(256:Nat) ^ 4=4294967296:=by decide
                    show aQ s (p.toNat+1) 4 < 4294967296
                    omega)
   ·rw[c3]
    have hl:=dU s (p.toNat+1) 0
    have hl:aQ s (p.toNat+1) 0 < 1:=hl
    have e2:iV 17 (aQ s (p.toNat+1) 0)=((aQ s (p.toNat+1) 0:Nat):Int):=mx (n:=0) (by decide) (fun hh=>absurd hh.1 (by decide))
    show inI (iV 17 (aQ s (p.toNat+1) 0))
    rw[e2]
    unfold inI
    omega
 ·cases h
theorem MInv.step {s:TSpace}{m:TMachine}{n:Nat}(h:MInv m n)(he:∀e∈s.faq,inI e):MInv (jc m (cC s m)) (n+1):=by
 obtain⟨h1,h2,h3,h4⟩:=h
 cases hr:cC s m with
 | none=>exact⟨h1,h2,h3,by show m.fah.length≤_;omega⟩
 | some m'=>
  obtain⟨x,hf,hx⟩:=kq hr
  obtain⟨t,p,hd⟩:=nu hf
  obtain⟨x,z⟩:=x
  obtain⟨c0,c1,c2,_⟩:=dY hd
  have ha:=uV hd
  obtain⟨e1,e2,e3,e4,e5,e6⟩:=pT hx
  have hrel:=xX s.faq {m with fap:=wr (m.fap+z)} x h2 h3.2.2 c0 c1 c2
  have hsp:=(hrel.2 e6).2
  have hin:MW (ce s.faq (adv ⟨m,false⟩ z) x).m:=DY (c:=adv ⟨m,false⟩ z) ⟨h3.1,DQ _,h3.2.2⟩ (by show inI m.fae;unfold inI;omega) ha he
  refine⟨vy h1 m' hr,?_,?_,?_⟩
  ·show 0≤m'.fae∧m'.fae≤1200
   rw[e3];exact hsp
  ·show MW m'
   refine⟨?_,?_,?_⟩
   ·rw[e1];exact hin.1
   ·rw[e5];exact hin.2.1
   ·rw[e4];exact hin.2.2
  ·have:=qo m' hr
   show m'.fah.length≤_
   omega
def HA (m:TMachine):Option TMachine→AV
 | none=>mV (CJ m) (0,0,0) (0,0,1)
 | some m'=>mV m' (1,0,0) (1,0,1)
def Hz (m:TMachine):Option TMachine→List (Sim.Id×AO)
 | none=>[((0,0,0),.arr false 1 (m.fao.map aa)),((0,0,1),.arr false 1 (m.fah.map aa))]
 | some m'=>([((0,0,0),.arr false 1 (m.fao.map aa)),((0,0,1),.arr false 1 (m.fah.map aa))]++[((1,0,0),.arr false 1 (m'.fao.map aa)),((1,0,1),.arr false 1 (m'.fah.map aa))])
theorem xD (s:TSpace)(m:TMachine)(hok:bp s=true)(hm:m.fao.length=1200)(ho:m.fah.length≤2000000)(h0:m.fai=0)(r:Option TMachine)(hr:cC s m=r):aS Tryz.prog 93 [.r (.agg (s.tr.map .t)),mV m (0,0,0) (0,0,1)] [((0,0,0),.arr false 1 (m.fao.map aa)),((0,0,1),.arr false 1 (m.fah.map aa))] (HA m r) (Hz m r):=by
 obtain⟨i0,i1,b0,b1,hsh,⟨e1,e2⟩,⟨g0,p0,p1⟩,⟨g1,q0,q1⟩,_,_⟩:=ji hok
 have l0:=(imageOk_iff.1 g0).1
 have l1:=(imageOk_iff.1 g1).1
 have hL:=mA i0 i1 b0 b1 m.fap s.faq (by omega) (by omega) (by omega) (by omega)
 obtain⟨im,bs,es⟩:=s
 dsimp only at hsh hL e2
 injection hsh with h1 h2
 subst h1
 subst h2
 refine bb hΓ ay Tryz.func93 rfl (by decide) rfl rfl ?_
 have hloc:zB ⟨[i0,i1],[b0,b1],es⟩ m.fap=eb i0 i1 b0 b1 m.fap:=rfl
 rcases nx i0 i1 b0 b1 m.fap with hx|⟨i,off,hi,hx⟩
 ·rw[hx]at hL
  have:r=none:=by rw[←hr,cC,dy,hloc,hx];rfl
  subst this
  repeat' ((conv=>whnf);first|refine af ?_|apply ae|apply oi|(apply fi<;>intro h)|refine cl hL ?_|refine⟨_,rfl,?_⟩|exact rfl)
  all_goals try exact⟨KO⟩
  all_goals try(exfalso;simp[h0]at h;done)
 ·have hoff:=sW (b0:=b0) (b1:=b1) (a:=m.fap) l0 l1
  rw[hx]at hL hoff
  dsimp only at hoff
  obtain⟨im,hi1,hi2,hil⟩:=qk hi l0 l1
  have hD:=gD im.fab off (by omega) (by omega)
  have hf:dy ⟨[i0,i1],[b0,b1],es⟩ m.fap=aU im.fab off:=by
   rw[dy,hloc,hx]
   dsimp only
   rw[if_neg (by omega),Int.toNat_natCast,hi1]
  cases hd:aU im.fab off with
  | none=>
   rw[hd]at hD hf
   have:r=none:=by rw[←hr,cC,hf]
   subst this
   repeat' ((conv=>whnf);first|refine af ?_|apply ae|apply oi|(apply fi<;>intro h)|refine cl hL ?_|refine⟨i,im.tr,rfl,hi2,?_⟩|refine cl hD ?_|refine⟨_,rfl,?_⟩|exact rfl)
   all_goals try exact⟨KO⟩
   all_goals try(exfalso;simp[h0]at h;done)
   all_goals try(exfalso;have h':=of_decide_eq_true h;omega)
  | some xz=>
   obtain⟨x,z⟩:=xz
   rw[hd]at hD hf
   obtain⟨c0,c1,_,z5⟩:=dY hd
   have hC:=bA m (by omega) ho
   have hr2:eK (ce es (adv ⟨m,false⟩ z) x)=r:=by rw[←hr,cC,hf]
   by_cases h17:x.fab=17
   ·have hxx:x=⟨17,x.faf⟩:=by rw[←h17]
    have hP:=tF ⟨[i0,i1],[b0,b1],es⟩ (adv ⟨m,false⟩ z) x.faf hm ho
    rw[←hxx]at hP
    have hcc:ce es (adv ⟨m,false⟩ z) x=vf (adv ⟨m,false⟩ z):=by rw[hxx];simp[ce]
    rw[hcc]at hr2
    have hco:(vf (adv ⟨m,false⟩ z)).ok:=aG (c:=adv ⟨m,false⟩ z) hm
    generalize vf (adv ⟨m,false⟩ z)=c at *
    have hA:=eS ⟨{c.m with fai:=1},c.bad⟩ c.m.fae
    obtain⟨cm,cb⟩:=c
    unfold cAt at hA
    dsimp only at hA
    cases cb with
    | true=>
     have:r=none:=by rw[←hr2];rfl
     subst this
     repeat' ((conv=>whnf);first|refine cg hP ?_|refine af ?_|apply ae|apply oi|(apply fi<;>intro h)|refine cl hL ?_|refine⟨i,im.tr,rfl,hi2,?_⟩|refine cl hD ?_|refine cl hC ?_|refine⟨_,rfl,?_⟩|exact rfl)
     all_goals try exact⟨KO⟩
     all_goals try(exfalso;simp[h0]at h;done)
     all_goals try(exfalso;have h':=of_decide_eq_true h;omega)
    | false=>
     by_cases hpc:cm.fap=0
     ·cases hin:bf cm.fae with
      | false=>
       rw[hin]at hA
       have:r=none:=by rw[←hr2];simp[eK,hpc,hin]
       subst this
       repeat' ((conv=>whnf);first|refine cg hP ?_|refine cg hA ?_|refine af ?_|apply ae|apply oi|(apply fi<;>intro h)|refine cl hL ?_|refine⟨i,im.tr,rfl,hi2,?_⟩|refine cl hD ?_|refine cl hC ?_|refine⟨_,rfl,?_⟩|exact rfl)
       all_goals try exact⟨KO⟩
       all_goals try(exfalso;simp[h0]at h;done)
       all_goals try(exfalso;simp[hpc]at h;done)
       all_goals try(exfalso;have h':=of_decide_eq_true h;omega)
      | true=>
       rw[hin]at hA
       obtain⟨j,v,hj,hv,hlt,_⟩:=iy hco hin
       have hlen:(cm.fao.map aa).length=cm.fao.length:=by simp
       have hin':bf (j:Int)=true:=hj ▸ hin
       have:r=some {cm with fai:=1,fay:=v}:=by rw[←hr2];simp[eK,hpc,hin',eO,hj,hv]
       subst this
       repeat' ((conv=>whnf);first|refine cg hP ?_|refine cg hA ?_|refine af ?_|apply ae|apply oi|(apply fi<;>intro h)|refine cl hL ?_|refine⟨i,im.tr,rfl,hi2,?_⟩|refine cl hD ?_|refine cl hC ?_|refine⟨_,rfl,?_⟩|exact rfl)
       all_goals try exact⟨KO⟩
       all_goals try(exfalso;simp[h0]at h;done)
       all_goals try(exfalso;simp[hpc]at h;done)
       all_goals try(exfalso;have h':=of_decide_eq_true h;omega)
       conv=>whnf
       refine⟨j,hj,by rw[hlen];exact hlt,?_⟩
       repeat' ((conv=>whnf);first|refine af ?_|apply ae|apply oi|(apply fi<;>intro h)|refine⟨(aa v),ab hv,?_⟩|refine⟨_,rfl,?_⟩|exact rfl)
       all_goals try exact⟨KO⟩
     ·have:r=some cm:=by rw[←hr2];simp[eK,hpc]
      subst this
      repeat' ((conv=>whnf);first|refine cg hP ?_|refine af ?_|apply ae|apply oi|(apply fi<;>intro h)|refine cl hL ?_|refine⟨i,im.tr,rfl,hi2,?_⟩|refine cl hD ?_|refine cl hC ?_|refine⟨_,rfl,?_⟩|exact rfl)
      all_goals try exact⟨KO⟩
      all_goals try(exfalso;simp[h0]at h;done)
      all_goals try(exfalso;simp[hpc]at h;done)
      all_goals try(exfalso;have h':=of_decide_eq_true h;omega)
   ·have hP:=ll ⟨[i0,i1],[b0,b1],es⟩ (adv ⟨m,false⟩ z) x hm h17 c1 (by dsimp only;omega)
    have hco:(ce es (adv ⟨m,false⟩ z) x).ok:=uQ hm
    dsimp only at hP
    generalize ce es (adv ⟨m,false⟩ z) x=c at *
    have hA:=eS ⟨{c.m with fai:=1},c.bad⟩ c.m.fae
    obtain⟨cm,cb⟩:=c
    unfold cAt at hA
    dsimp only at hA
    cases cb with
    | true=>
     have:r=none:=by rw[←hr2];rfl
     subst this
     repeat' ((conv=>whnf);first|refine cg hP ?_|refine af ?_|apply ae|apply oi|(apply fi<;>intro h)|refine cl hL ?_|refine⟨i,im.tr,rfl,hi2,?_⟩|refine cl hD ?_|refine cl hC ?_|refine⟨_,rfl,?_⟩|exact rfl)
     all_goals try exact⟨KO⟩
     all_goals try(exfalso;simp[h0]at h;done)
     all_goals try(exfalso;have h':=of_decide_eq_true h;omega)
    | false=>
     by_cases hpc:cm.fap=0
     ·cases hin:bf cm.fae with
      | false=>
       rw[hin]at hA
       have:r=none:=by rw[←hr2];simp[eK,hpc,hin]
       subst this
       repeat' ((conv=>whnf);first|refine cg hP ?_|refine cg hA ?_|refine af ?_|apply ae|apply oi|(apply fi<;>intro h)|refine cl hL ?_|refine⟨i,im.tr,rfl,hi2,?_⟩|refine cl hD ?_|refine cl hC ?_|refine⟨_,rfl,?_⟩|exact rfl)
       all_goals try exact⟨KO⟩
       all_goals try(exfalso;simp[h0]at h;done)
       all_goals try(exfalso;simp[hpc]at h;done)
       all_goals try(exfalso;have h':=of_decide_eq_true h;omega)
      | true=>
       rw[hin]at hA
       obtain⟨j,v,hj,hv,hlt,_⟩:=iy hco hin
       have hlen:(cm.fao.map aa).length=cm.fao.length:=by simp
       have hin':bf (j:Int)=true:=hj ▸ hin
       have:r=some {cm with fai:=1,fay:=v}:=by rw[←hr2];simp[eK,hpc,hin',eO,hj,hv]
       subst this
       repeat' ((conv=>whnf);first|refine cg hP ?_|refine cg hA ?_|refine af ?_|apply ae|apply oi|(apply fi<;>intro h)|refine cl hL ?_|refine⟨i,im.tr,rfl,hi2,?_⟩|refine cl hD ?_|refine cl hC ?_|refine⟨_,rfl,?_⟩|exact rfl)
       all_goals try exact⟨KO⟩
       all_goals try(exfalso;simp[h0]at h;done)
       all_goals try(exfalso;simp[hpc]at h;done)
       all_goals try(exfalso;have h':=of_decide_eq_true h;omega)
       conv=>whnf
       refine⟨j,hj,by rw[hlen];exact hlt,?_⟩
       repeat' ((conv=>whnf);first|refine af ?_|apply ae|apply oi|(apply fi<;>intro h)|refine⟨(aa v),ab hv,?_⟩|refine⟨_,rfl,?_⟩|exact rfl)
       all_goals try exact⟨KO⟩
     ·have:r=some cm:=by rw[←hr2];simp[eK,hpc]
      subst this
      repeat' ((conv=>whnf);first|refine cg hP ?_|refine af ?_|apply ae|apply oi|(apply fi<;>intro h)|refine cl hL ?_|refine⟨i,im.tr,rfl,hi2,?_⟩|refine cl hD ?_|refine cl hC ?_|refine⟨_,rfl,?_⟩|exact rfl)
      all_goals try exact⟨KO⟩
      all_goals try(exfalso;simp[h0]at h;done)
      all_goals try(exfalso;simp[hpc]at h;done)
      all_goals try(exfalso;have h':=of_decide_eq_true h;omega)
theorem dW {s:TSpace}{k:Nat}{m:TMachine}(h:m.fai≠0∨k=0):dT s k m=(m,0):=by
 cases k with
 | zero=>rfl
 | succ k=>rw[dT,if_neg (by
                  rcases h with h|h;· exact h
                  ·cases h)]
theorem kF {s:TSpace}{k:Nat}{m:TMachine}(h:m.fai=0):dT s (k+1) m=((dT s k (jc m (cC s m))).1,(dT s k (jc m (cC s m))).2+1):=by rw[dT,if_pos h]
abbrev Hl:AO:= .box [.t (.int .i64 0),.t (.int .i64 0),.t (.int .i64 0),.nils 0,.nils 0,.t (.int .i64 0),.t (.int .i64 0)]
abbrev Hf (s:TSpace):AO:= .box (s.tr.map .t)
theorem fB (s:TSpace)(m:TMachine)(l:Int)(hs:aC 1048576 s.tr)(hms:aC 1048576 m.tr)(hw:MW m)(hsw:∀e∈s.faq,inI e):Sim.Spec Tryz.prog 24 [.agg s.tr,.agg m.tr,tvI l] (.tup [.agg ((bt s m l).1.tr.map uo),.c (.t (.int .i64 ((bt s m l).2:Int)))]):=by
 have hS:=iD s hs
 have hM:=jV m
 have hB:=bm l 0 20000
 obtain⟨k1,k2⟩:=nw hms
 have hC:=bA m k1 (by omega)
 refine ao hΓ ay Tryz.func24 rfl (by decide) rfl ?_
 unfold bt
 cases a1:bp s with
 | false=>
  rw[a1]at hS
  rw[if_neg (by simp)]
  repeat' ((conv=>whnf);first|refine af ?_|apply ae|apply oi|(apply fi<;>intro h)|refine cl hC ?_|refine cl hS ?_|refine cl hM ?_|refine cl hB ?_|refine⟨_,rfl,?_⟩|exact rfl)
  all_goals try exact⟨KO⟩
  all_goals try(exfalso;simp at h;done)
  all_goals exact⟨⟨rfl,bc _⟩⟩
 | true=>
  rw[a1]at hS
  cases a2:cr m with
  | false=>
   rw[a2]at hM
   rw[if_neg (by simp)]
   repeat' ((conv=>whnf);first|refine af ?_|apply ae|apply oi|(apply fi<;>intro h)|refine cl hC ?_|refine cl hS ?_|refine cl hM ?_|refine cl hB ?_|refine⟨_,rfl,?_⟩|exact rfl)
   all_goals try exact⟨KO⟩
   all_goals try(exfalso;simp at h;done)
   all_goals exact⟨⟨rfl,bc _⟩⟩
  | true=>
   rw[a2]at hM
   cases a3:ah l 0 20000 with
   | false=>
    rw[a3]at hB
    rw[if_neg (by simp)]
    repeat' ((conv=>whnf);first|refine af ?_|apply ae|apply oi|(apply fi<;>intro h)|refine cl hC ?_|refine cl hS ?_|refine cl hM ?_|refine cl hB ?_|refine⟨_,rfl,?_⟩|exact rfl)
    all_goals try exact⟨KO⟩
    all_goals try(exfalso;simp at h;done)
    all_goals exact⟨⟨rfl,bc _⟩⟩
   | true=>
    rw[a3]at hB
    rw[if_pos ⟨rfl,rfl,rfl⟩]
    have hl:=within_iff.1 a3
    obtain⟨L,rfl⟩:=Int.eq_ofNat_of_zero_le hl.1
    obtain⟨m1,m2,m3⟩:=machineOk_iffL.1 a2
    have hinv:MInv m 0:=⟨m1,m2,hw,by omega⟩
    have hen:∀e∈s.faq,inI e:=hsw
    rw[Int.toNat_natCast]
    obtain⟨R,hR⟩:∃R,dT s L m=R:=⟨_,rfl⟩
    rw[hR]
    repeat' ((conv=>whnf);first|refine af ?_|apply ae|apply oi|(apply fi<;>intro h)|refine cl hC ?_|refine cl hS ?_|refine cl hM ?_|refine cl hB ?_|refine⟨_,rfl,?_⟩|exact rfl)
    all_goals try exact⟨KO⟩
    all_goals try(exfalso;simp at h;done)
    conv=>whnf
    refine⟨{q:Nat×TMachine // q.1≤L∧MInv q.2 q.1∧(dT s (L - q.1) q.2).1=R.1∧(dT s (L - q.1) q.2).2+q.1=R.2},fun q=>⟨[(2,tI .i64 (L:Int)),(3,.r (.c (.ptr (3,0,0) 0))),(6,.r (.c (.ptr (6,0,0) 0))),(7,tI .i64 0),(8,.r (.c (.ptr (8,0,0) 0))),(9,tI .i64 (q.1.1:Int))],
     [((3,0,0),some (Hf s)),((6,0,0),some Hl),((8,0,0),some (FX q.1.2 (11,0,3) (11,0,4))),((11,0,3),some (.arr false 1 (q.1.2.fao.map aa))),((11,0,4),some (.arr false 1 (q.1.2.fah.map aa)))],[3,6,8,11]⟩,fun q=>L - q.1.1,⟨(0,m),by omega,hinv,by simp[hR],by simp[hR]⟩,?_,?_⟩
    ·skip
     repeat' ((conv=>whnf);first|refine af ?_|apply ae|apply oi|(apply fi<;>intro h)|refine⟨_,rfl,?_⟩|exact rfl)
     all_goals try exact⟨KO⟩
    intro⟨⟨n,d⟩,q1,q2,q3,q4⟩
    dsimp only at q1 q2 q3 q4 ⊢
    by_cases hgo:d.fai=0∧n < L
    ·obtain⟨g1,g2⟩:=hgo
     obtain⟨j,hj⟩:∃j,L - n=j+1:=⟨L - n - 1,by omega⟩
     rw[hj,kF g1]at q3 q4
     dsimp only at q3 q4
     have hnx:=q2.step hen
     have hT:=xD s d a1 q2.len (by have:=q2.out;omega) g1 _ rfl
     cases hr:cC s d with
     | none=>
      rw[hr]at hT hnx q3 q4
      repeat' ((conv=>whnf);first|refine cg hT ?_|refine af ?_|apply ae|apply oi|(apply fi<;>intro h)|refine⟨_,rfl,?_⟩|exact rfl)
      all_goals try exact⟨KO⟩
      all_goals try(exfalso;simp[g1]at h;done)
      all_goals try(exfalso;have h':=of_decide_eq_false h;omega)
      conv=>whnf
      refine⟨⟨(n+1,CJ d),by dsimp only;omega,hnx,by rw[show L - (n+1)=j by omega];exact q3,by rw[show L - (n+1)=j by omega];dsimp only[jc]at q4 ⊢;omega⟩,?_,KD⟩
      repeat' ((conv=>whnf);first|refine af ?_|apply ae|apply oi|(apply fi<;>intro h)|refine⟨_,rfl,?_⟩|exact rfl)
      all_goals try exact⟨KO⟩
      all_goals try(refine⟨congrArg (Tr.int _) ?_⟩;dsimp only;rw[IntWalk.i64_in _ (by omega)];omega)
     | some d'=>
      rw[hr]at hT hnx q3 q4
      repeat' ((conv=>whnf);first|refine cg hT ?_|refine af ?_|apply ae|apply oi|(apply fi<;>intro h)|refine⟨_,rfl,?_⟩|exact rfl)
      all_goals try exact⟨KO⟩
      all_goals try(exfalso;simp[g1]at h;done)
      all_goals try(exfalso;have h':=of_decide_eq_false h;omega)
      conv=>whnf
      refine⟨⟨(n+1,d'),by dsimp only;omega,hnx,by rw[show L - (n+1)=j by omega];exact q3,by rw[show L - (n+1)=j by omega];dsimp only[jc]at q4 ⊢;omega⟩,?_,KD⟩
      repeat' ((conv=>whnf);first|refine af ?_|apply ae|apply oi|(apply fi<;>intro h)|refine⟨_,rfl,?_⟩|exact rfl)
      all_goals try exact⟨KO⟩
      all_goals try(refine⟨congrArg (Tr.int _) ?_⟩;dsimp only;rw[IntWalk.i64_in _ (by omega)];omega)
    ·have hst:dT s (L - n) d=(d,0):=dW (by
                                by_cases h0:d.fai=0;· exact .inr (by have:=fun h=>hgo ⟨h0,h⟩;omega)
                                ·exact .inl h0)
     rw[hst]at q3 q4
     dsimp only at q3 q4
     have hD:=bA d (by have:=q2.len;omega) (by have:=q2.out;omega)
     obtain⟨R1,R2⟩:=R
     dsimp only at q3 q4
     subst q3;subst q4
     repeat' ((conv=>whnf);first|refine af ?_|apply ae|apply oi|(apply fi<;>intro h)|refine cl hD ?_|refine⟨_,rfl,?_⟩|exact rfl)
     all_goals try exact⟨KO⟩
     all_goals try(exfalso;apply hgo;refine⟨by simpa using ‹(d.fai==0)=true›,?_⟩;have h':=of_decide_eq_true ‹decide ((n:Int) < (L:Int))=true›;omega)
     all_goals exact⟨congrArg (Tr.int _) (by dsimp only;omega)⟩
theorem oa (s:TSpace)(m:TMachine)(l:Int)(hs:aC 1048576 s.tr)(hms:aC 1048576 m.tr)(hw:MW m)(hsw:∀e∈s.faq,inI e):Sim.Spec Tryz.prog 26 [.agg s.tr,.agg m.tr,tvI l] (.tup [.agg ((bt s m l).1.tr.map uo),.c (.t (.int .i64 ((bt s m l).2:Int)))]):=by
 have hS:=lK s hs
 have hM:=pB m
 have hB:=aH l 0 20000
 obtain⟨k1,k2⟩:=nw hms
 have hC:=kV m k1 (by omega)
 refine ao hΓ ay Tryz.func26 rfl (by decide) rfl ?_
 unfold bt
 cases a1:bp s with
 | false=>
  rw[a1]at hS
  rw[if_neg (by simp)]
  repeat' ((conv=>whnf);first|refine af ?_|apply ae|apply oi|(apply fi<;>intro h)|refine cl hC ?_|refine cl hS ?_|refine cl hM ?_|refine cl hB ?_|refine⟨_,rfl,?_⟩|exact rfl)
  all_goals try exact⟨KO⟩
  all_goals try(exfalso;simp at h;done)
  all_goals exact⟨⟨rfl,bc _⟩⟩
 | true=>
  rw[a1]at hS
  cases a2:cr m with
  | false=>
   rw[a2]at hM
   rw[if_neg (by simp)]
   repeat' ((conv=>whnf);first|refine af ?_|apply ae|apply oi|(apply fi<;>intro h)|refine cl hC ?_|refine cl hS ?_|refine cl hM ?_|refine cl hB ?_|refine⟨_,rfl,?_⟩|exact rfl)
   all_goals try exact⟨KO⟩
   all_goals try(exfalso;simp at h;done)
   all_goals exact⟨⟨rfl,bc _⟩⟩
  | true=>
   rw[a2]at hM
   cases a3:ah l 0 20000 with
   | false=>
    rw[a3]at hB
    rw[if_neg (by simp)]
    repeat' ((conv=>whnf);first|refine af ?_|apply ae|apply oi|(apply fi<;>intro h)|refine cl hC ?_|refine cl hS ?_|refine cl hM ?_|refine cl hB ?_|refine⟨_,rfl,?_⟩|exact rfl)
    all_goals try exact⟨KO⟩
    all_goals try(exfalso;simp at h;done)
    all_goals exact⟨⟨rfl,bc _⟩⟩
   | true=>
    rw[a3]at hB
    rw[if_pos ⟨rfl,rfl,rfl⟩]
    have hl:=within_iff.1 a3
    obtain⟨L,rfl⟩:=Int.eq_ofNat_of_zero_le hl.1
    obtain⟨m1,m2,m3⟩:=machineOk_iffL.1 a2
    have hinv:MInv m 0:=⟨m1,m2,hw,by omega⟩
    have hen:∀e∈s.faq,inI e:=hsw
    rw[Int.toNat_natCast]
    obtain⟨R,hR⟩:∃R,dT s L m=R:=⟨_,rfl⟩
    rw[hR]
    repeat' ((conv=>whnf);first|refine af ?_|apply ae|apply oi|(apply fi<;>intro h)|refine cl hC ?_|refine cl hS ?_|refine cl hM ?_|refine cl hB ?_|refine⟨_,rfl,?_⟩|exact rfl)
    all_goals try exact⟨KO⟩
    all_goals try(exfalso;simp at h;done)
    conv=>whnf
    refine⟨{q:Nat×TMachine // q.1≤L∧MInv q.2 q.1∧(dT s (L - q.1) q.2).1=R.1∧(dT s (L - q.1) q.2).2+q.1=R.2},fun q=>⟨[(2,tI .i64 (L:Int)),(3,.r (.c (.ptr (3,0,0) 0))),(6,.r (.c (.ptr (6,0,0) 0))),(7,tI .i64 0),(8,.r (.c (.ptr (8,0,0) 0))),(9,tI .i64 (q.1.1:Int))],
     [((3,0,0),some (Hf s)),((6,0,0),some Hl),((8,0,0),some (FX q.1.2 (11,0,3) (11,0,4))),((11,0,3),some (.arr false 1 (q.1.2.fao.map aa))),((11,0,4),some (.arr false 1 (q.1.2.fah.map aa)))],[3,6,8,11]⟩,fun q=>L - q.1.1,⟨(0,m),by omega,hinv,by simp[hR],by simp[hR]⟩,?_,?_⟩
    ·skip
     repeat' ((conv=>whnf);first|refine af ?_|apply ae|apply oi|(apply fi<;>intro h)|refine⟨_,rfl,?_⟩|exact rfl)
     all_goals try exact⟨KO⟩
    intro⟨⟨n,d⟩,q1,q2,q3,q4⟩
    dsimp only at q1 q2 q3 q4 ⊢
    by_cases hgo:d.fai=0∧n < L
    ·obtain⟨g1,g2⟩:=hgo
     obtain⟨j,hj⟩:∃j,L - n=j+1:=⟨L - n - 1,by omega⟩
     rw[hj,kF g1]at q3 q4
     dsimp only at q3 q4
     have hnx:=q2.step hen
     have hT:=sq s d a1 q2.len (by have:=q2.out;omega)
     rw[←FM q2.sp q2.w.2.2]at hT
     generalize jc d (cC s d)=d' at *
     repeat' ((conv=>whnf);first|refine af ?_|apply ae|apply oi|(apply fi<;>intro h)|refine cl hT ?_|refine⟨_,rfl,?_⟩|exact rfl)
     all_goals try exact⟨KO⟩
     all_goals try(exfalso;simp[g1]at h;done)
     all_goals try(exfalso;have h':=of_decide_eq_false h;omega)
     conv=>whnf
     refine⟨⟨(n+1,d'),by dsimp only;omega,hnx,by rw[show L - (n+1)=j by omega];exact q3,by rw[show L - (n+1)=j by omega];dsimp only at q4 ⊢;omega⟩,?_,KD⟩
     repeat' ((conv=>whnf);first|refine af ?_|apply ae|apply oi|(apply fi<;>intro h)|refine⟨_,rfl,?_⟩|exact rfl)
     all_goals try exact⟨KO⟩
     all_goals try(refine⟨congrArg (Tr.int _) ?_⟩;dsimp only;rw[IntWalk.i64_in _ (by omega)];omega)
    ·have hst:dT s (L - n) d=(d,0):=dW (by
                                by_cases h0:d.fai=0;· exact .inr (by have:=fun h=>hgo ⟨h0,h⟩;omega)
                                ·exact .inl h0)
     rw[hst]at q3 q4
     dsimp only at q3 q4
     obtain⟨R1,R2⟩:=R
     dsimp only at q3 q4
     subst q3;subst q4
     repeat' ((conv=>whnf);first|refine af ?_|apply ae|apply oi|(apply fi<;>intro h)|refine⟨_,rfl,?_⟩|exact rfl)
     all_goals try exact⟨KO⟩
     all_goals try(exfalso;apply hgo;refine⟨by simpa using ‹(d.fai==0)=true›,?_⟩;have h':=of_decide_eq_true ‹decide ((n:Int) < (L:Int))=true›;omega)
     all_goals first
      | exact⟨congrArg (Tr.int _) (by dsimp only;omega)⟩
      | exact⟨⟨rfl,bc _⟩⟩
end Go.Proofs.YtjmplnfiabmalaaGreat
