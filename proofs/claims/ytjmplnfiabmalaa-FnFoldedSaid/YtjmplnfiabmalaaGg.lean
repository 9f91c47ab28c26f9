import Derived.Test.YtjmplnfiabmalaaGf
namespace Go.Proofs.Ytjmplnfiabmalaa
open Go.Sim
set_option maxRecDepth 100000
set_option maxHeartbeats 4000000
def nm0:List (List UInt8):=[[109,97,105,110],[102],[103,103],[104]]
def ar0:List Int:=[0,1,2,1]
def arg0:List (List UInt8):=[[120],[121]]
def arN (k:Nat):Nat:=(ar0[k]?.getD 0).toNat
def nmN (k:Nat):List UInt8:=nm0[k]?.getD []
def gpV (n k:Nat)(b:Bool):GP:=⟨arg0.take (arN k)++[[105],[122]],(nm0.take n).drop (if b=true then k else k+1),(ar0.take n).drop (if b=true then k else k+1)⟩
theorem gpV_ok {n k:Nat}(b:Bool):(gpV n k b).ok:=by
 refine⟨by simp[gpV],by simp[gpV,arg0];omega,by simp[gpV,nm0];omega,by simp[gpV,nm0,ar0],fun a ha=>?_,fun s hs=>?_,fun s hs=>?_⟩
 ·have:=List.mem_of_mem_take (List.mem_of_mem_drop ha)
  simp[ar0]at this
  omega
 ·simp only[gpV,List.mem_append]at hs
  rcases hs with hs|hs
  ·have:=List.mem_of_mem_take hs
   simp[arg0]at this
   rcases this with rfl|rfl <;> simp
  ·simp at hs
   rcases hs with rfl|rfl <;> simp
 ·have:=List.mem_of_mem_take (List.mem_of_mem_drop hs)
  simp[nm0]at this
  rcases this with rfl|rfl|rfl|rfl <;> simp
noncomputable def funV (n k:Nat) (c:TCur):List TLine×TCur:=
 let o:=if 0 < k then onceV 5 c else(false,c)
 let G:=gpV n k o.1
 let t:=belV 4 o.2
 let u:=belV 2 t.2
 let B:=bodyV G (1+u.1) (1+t.1) u.2
 let e:=exV G 3 B.2
 (⟨0,nmN k,arg0.take (arN k),[]⟩::(B.1++[⟨6,[],[],e.1⟩,⟨7,[],[],[]⟩]),e.2)
noncomputable def funsV (n:Nat):Nat→Nat→TCur→List TLine×TCur
 | 0,_,c=>([],c)
 | r+1,k,c=>((funV n k c).1++(funsV n r (k+1) (funV n k c).2).1,(funsV n r (k+1) (funV n k c).2).2)
noncomputable def progV (c:TCur):List TLine×TCur:=funsV (1+(belV 4 c).1) (1+(belV 4 c).1) 0 (belV 4 c).2
def drP (x:TLine):List DC:=if x.fKind=0 then [.d (.int .i64 0),.d (.str x.fName),.d (.lst 1 (x.fArgs.map strRow)),.d (.lst 0 [])]else dr x
structure PL (x:TLine):Prop where
 name:x.fName.length≤8
 args:x.fArgs.length≤2∧∀s∈x.fArgs,s.length≤8
 len:x.fExpr.length≤125
 tok:∀t∈x.fExpr,t.fName.length≤8
 fe:x.fKind=0→x.fExpr=[]
 fa:x.fKind≠0→x.fArgs=[]
theorem fun_ok {n k:Nat}{c:TCur}(hc:c.ok):(funV n k c).1.length≤200∧(funV n k c).2.b=c.b∧(funV n k c).2.ok∧∀x∈(funV n k c).1,PL x:=by
 unfold funV
 dsimp only
 have ho:(if 0 < k then onceV 5 c else(false,c)).2.b=c.b∧(if 0 < k then onceV 5 c else(false,c)).2.ok:=by
  split
  ·have:=onceV_spec hc 5;exact⟨this.1,this.2.1⟩
  ·exact⟨rfl,hc⟩
 generalize(if 0 < k then onceV 5 c else(false,c))=o at *
 have hG:=gpV_ok (n:=n) (k:=k) o.1
 generalize gpV n k o.1=G at *
 obtain⟨k4,b4,o4,_⟩:=belV_spec ho.2 4
 obtain⟨k2,b2,o2,_⟩:=belV_spec o4 2
 have k4':=k4 (by omega)
 have k2':=k2 (by omega)
 have hB:=body_ok hG (1+(belV 2 (belV 4 o.2).2).1)
 have hl:=hB.len (1+(belV 4 o.2).1) _ o2
 have hb:=hB.b (1+(belV 4 o.2).1) _ o2
 have hk:=hB.ok (1+(belV 4 o.2).1) _ o2
 have hx:=hB.bl (1+(belV 4 o.2).1) _ o2
 have hs:sB (1+(belV 2 (belV 4 o.2).2).1)≤21:=by
  have:(belV 2 (belV 4 o.2).2).1=0∨(belV 2 (belV 4 o.2).2).1=1:=by omega
  rcases this with e|e <;> rw[e] <;> simp[sB]
 have hl2:=Nat.mul_le_mul (show 1+(belV 4 o.2).1≤4 by omega) hs
 generalize bodyV G (1+(belV 2 (belV 4 o.2).2).1) (1+(belV 4 o.2).1) (belV 2 (belV 4 o.2).2).2=B at *
 obtain⟨t3,b3,o3,_⟩:=exV_spec hG hk 3 (by omega)
 refine⟨by simp;omega,((b3.trans hb).trans b2).trans (b4.trans ho.1),o3,fun x h=>?_⟩
 have hbl:∀{x:TLine},BL x→PL x:=fun h=>⟨h.name,by rw[h.args];simp,h.len,h.tok,fun e=>by have:=h.kind;omega,fun _=>h.args⟩
 simp only[List.mem_cons,List.mem_append,List.not_mem_nil,or_false]at h
 rcases h with rfl|h|rfl|rfl
 ·refine⟨?_,⟨?_,fun s hs=>?_⟩,by simp,by simp,fun _=>rfl,fun e=>absurd rfl e⟩
  ·show(nmN k).length≤8
   unfold nmN
   cases hn:nm0[k]? with
   | none=>simp
   | some v=>
    have:=List.mem_of_getElem? hn
    simp[nm0]at this
    rcases this with rfl|rfl|rfl|rfl <;> simp
  ·simp[arg0];omega
  ·have:=List.mem_of_mem_take hs
   simp[arg0]at this
   rcases this with rfl|rfl <;> simp
 ·exact hbl (hx x h)
 ·exact hbl (bl_ex (by simp) t3)
 ·exact hbl bl_nil
theorem funs_ok (n:Nat):∀(r k:Nat) (c:TCur),c.ok→(funsV n r k c).1.length≤r * 200∧(funsV n r k c).2.b=c.b∧(funsV n r k c).2.ok∧∀x∈(funsV n r k c).1,PL x
 | 0,_,c,hc=>⟨by simp[funsV],rfl,hc,fun x hx=>by simp[funsV]at hx⟩
 | r+1,k,c,hc=>by
  obtain⟨h1,h2,h3,h4⟩:=fun_ok (n:=n) (k:=k) hc
  obtain⟨i1,i2,i3,i4⟩:=funs_ok n r (k+1) _ h3
  rw[funsV]
  refine⟨by simp only[List.length_append];omega,i2.trans h2,i3,fun x hx=>?_⟩
  rcases List.mem_append.1 hx with hx|hx
  ·exact h4 x hx
  ·exact i4 x hx
theorem prog_ok {c:TCur}(hc:c.ok):(progV c).1.length≤800∧(progV c).2.b=c.b∧(progV c).2.ok∧∀x∈(progV c).1,PL x:=by
 obtain⟨k1,b1,o1,_⟩:=belV_spec hc 4
 have k1':=k1 (by omega)
 obtain⟨h1,h2,h3,h4⟩:=funs_ok (1+(belV 4 c).1) (1+(belV 4 c).1) 0 _ o1
 have:=Nat.mul_le_mul_right 200 (show 1+(belV 4 c).1≤4 by omega)
 exact⟨by unfold progV;omega,h2.trans b1,h3,h4⟩
theorem dr_drP {l:List TLine}(h:∀x∈l,BL x):l.map dr=l.map drP:=by
 refine List.map_congr_left fun x hx=>?_
 have:=(h x hx).kind
 rw[drP,if_neg (by omega)]
theorem em_line {x:TLine}(h:PL x):((drP x).map DC.tr).length=x.tr.length∧∀(p:Nat) (c d:Tr),((drP x).map DC.tr)[p]?=some c→x.tr[p]?=some d→emE c d:=by
 obtain⟨k,n,a,e⟩:=x
 have key:∃u v,(drP ⟨k,n,a,e⟩).map DC.tr=[.int .i64 k,.str n,u,v]∧emE u (.lst 1 (a.map strRow))∧emE v (.lst 3 (e.map TTok.tr)):=by
  by_cases h0:k=0
  ·subst h0
   have he:=h.fe rfl
   dsimp only at he
   subst he
   exact⟨_,_,rfl,.inl rfl,.inr ⟨_,_,rfl,rfl⟩⟩
  ·have ha:=h.fa h0
   dsimp only at ha
   subst ha
   rw[drP,if_neg h0]
   cases e with
   | nil=>exact⟨_,_,rfl,.inr ⟨_,_,rfl,rfl⟩,.inr ⟨_,_,rfl,rfl⟩⟩
   | cons t l=>exact⟨_,_,rfl,.inr ⟨_,_,rfl,rfl⟩,.inl rfl⟩
 obtain⟨u,v,e1,e2,e3⟩:=key
 rw[e1]
 refine⟨rfl,fun p c d hc hd=>?_⟩
 match p with
 | 0=>simp[TLine.tr]at hc hd;subst hc;subst hd;exact .inl rfl
 | 1=>simp[TLine.tr]at hc hd;subst hc;subst hd;exact .inl rfl
 | 2=>simp[TLine.tr]at hc hd;subst hc;subst hd;exact e2
 | 3=>simp[TLine.tr]at hc hd;subst hc;subst hd;exact e3
 | p+4=>simp at hc
theorem em_prog:∀{l:List TLine},(∀x∈l,PL x)→emR ((l.map drP).map fun x=>x.map DC.tr) (l.map TLine.tr)
 | [],_=>trivial
 | x::l,h=>⟨em_line (h x (by simp)),em_prog fun y hy=>h y (by simp[hy])⟩
theorem g_spec_l03Program (c:TCur)(hc:c.ok):SpecG Try.prog 45 [curP] (curH c) (.r (.c (.t (.lst 4 ((progV c).1.map TLine.tr))))) (curH (progV c).2):=by
 obtain⟨k1,b1,o1,g1⟩:=belV_spec hc 4
 have k1':=k1 (by omega)
 refine specG_of_Wo hΓ hmix Try.func45 rfl (by decide) rfl rfl ?_
 unfold progV
 generalize(belV 4 c).2=c1 at *
 obtain⟨n,hn⟩:∃n,1+(belV 4 c).1=n:=⟨_,rfl⟩
 have hw:IntKind.i64.wrap (1+((belV 4 c).1:Int))=(n:Int):=by rw[IntWalk.i64_in _ (by omega)];omega
 rw[hn]
 obtain⟨R,c',hRR⟩:∃R c',funsV n n 0 c1=(R,c'):=⟨_,_,rfl⟩
 have hPL:=(funs_ok n n 0 _ o1).2.2.2
 rw[hRR]at hPL ⊢
 repeat' ((conv=>whnf);first|(with_reducible apply W1;fail_if_success (with_reducible show Wo _ _ _ _ (Code.seq (Code.region 5 _ _) _) _ _))|(with_reducible first|apply W2|apply W3|apply W4|apply W5|apply W6|apply W7|apply W8|apply W9)|apply reg_inl|apply oi|(apply fi<;>intro h)|refine⟨_,rfl,?_⟩|((with_reducible show _=_);rfl))
 all_goals try((with_reducible refine Obl.mk ?_);exact KP)
 refine cg (g1) ?_
 repeat' ((conv=>whnf);first|(with_reducible apply W1;fail_if_success (with_reducible show Wo _ _ _ _ (Code.seq (Code.region 5 _ _) _) _ _))|(with_reducible first|apply W2|apply W3|apply W4|apply W5|apply W6|apply W7|apply W8|apply W9)|apply reg_inl|apply oi|(apply fi<;>intro h)|refine⟨_,rfl,?_⟩|((with_reducible show _=_);rfl))
 all_goals try((with_reducible refine Obl.mk ?_);exact KP)
 conv=>whnf
 refine view_rule ⟨[(0,curP),(3,vN nm0),(4,.r (.c (.t (.lst 1 (ar0.map intRow))))),(5,tI .i64 (IntKind.i64.wrap (1+((belV 4 c).1:Int)))),(6,.r (.c (.own (15,0,0))))],[((0,0,0),some (.box [.t (.lst 1 (c1.b.map byteRow)),.t (.int .i64 c1.i),.t (.int .i64 c1.h)])),((15,0,0),some (.arr true 4 []))],[15,13,11,10,0]⟩ ?_ ?_ rfl ?_
 ·refine⟨.inl rfl,.inr ⟨_,_,rfl,rfl,rfl,?_⟩,.inr ⟨_,_,rfl,rfl,rfl,?_⟩,.inl rfl,.inl rfl,trivial⟩
  all_goals(intro q hq;simp only[AC.ids,List.mem_cons,List.not_mem_nil,or_false]at hq;subst hq;rfl)
 ·exact⟨.inr rfl,.inr rfl,trivial⟩
 rw[hw]
 repeat' ((conv=>whnf);first|(with_reducible first|apply Wx|apply W6)|apply oi|(apply fi<;>intro h)|refine⟨_,rfl,?_⟩|((with_reducible show _=_);rfl))
 all_goals try((with_reducible refine Obl.mk ?_);exact KP)
 conv=>whnf
 refine⟨{q:Nat×TCur×List TLine // q.1≤n∧q.2.1.ok∧q.2.2.length+(n - q.1) * 200≤800∧q.2.2++(funsV n (n - q.1) q.1 q.2.1).1=R∧(funsV n (n - q.1) q.1 q.2.1).2=c'},fun q=>⟨[(0,curP),(3,vN nm0),(4,.r (.c (.t (.lst 1 (ar0.map intRow))))),(5,tI .i64 (n:Int)),(6,.r (.c (.own (15,0,0)))),(7,tI .i64 (q.1.1:Int))],[((0,0,0),some (.box [.t (.lst 1 (q.1.2.1.b.map byteRow)),.t (.int .i64 q.1.2.1.i),.t (.int .i64 q.1.2.1.h)])),((15,0,0),some (.dar 4 (q.1.2.2.map drP) none))],[15,0]⟩,fun q=>n - q.1.1,⟨(0,c1,[]),by dsimp only;omega,o1,by simp;omega,by dsimp only;rw[Nat.sub_zero,hRR];rfl,by dsimp only;rw[Nat.sub_zero,hRR]⟩,?_,?_⟩
 ·skip
  repeat' ((conv=>whnf);first|(with_reducible first|apply Wx|apply W6)|apply oi|(apply fi<;>intro h)|refine⟨_,rfl,?_⟩|((with_reducible show _=_);rfl))
  all_goals try((with_reducible refine Obl.mk ?_);exact KP)
  all_goals try exact⟨rfl⟩
 intro⟨⟨k,ci,acc⟩,hi,hci,hal,hr1,hr2⟩
 dsimp only at hi hci hal hr1 hr2 ⊢
 by_cases hlt:k < n
 ·obtain⟨m,hm⟩:∃m,n - k=m+1:=⟨n - k - 1,by omega⟩
  rw[hm]at hr1 hr2 hal
  rw[funsV]at hr1 hr2
  dsimp only at hr1 hr2
  obtain⟨s1,_,s3,s4⟩:=fun_ok (n:=n) (k:=k) hci
  generalize hF:funV n k ci=F at *
  rw[←List.append_assoc]at hr1
  have hlen:(acc++F.1).length+(n - (k+1)) * 200≤800:=by rw[List.length_append];omega
  rw[show m=n - (k+1) by omega]at hr1 hr2
  unfold funV at hF
  dsimp only at hF
  have hk4:k < 4:=by omega
  have hnm:nm0[k]?=some (nmN k):=by
   have:k=0∨k=1∨k=2∨k=3:=by omega
   rcases this with rfl|rfl|rfl|rfl <;> rfl
  have har:ar0[k]?=some (arN k:Int):=by
   have:k=0∨k=1∨k=2∨k=3:=by omega
   rcases this with rfl|rfl|rfl|rfl <;> rfl
  have har2:arN k≤2:=by
   have:k=0∨k=1∨k=2∨k=3:=by omega
   rcases this with rfl|rfl|rfl|rfl <;> decide
  have hw1:IntKind.i64.wrap ((k:Int)+1)=((k+1:Nat):Int):=by rw[IntWalk.i64_in _ (by omega)];omega
  have hnl:(nm0.map strRow).length=4:=rfl
  have hal4:(ar0.map intRow).length=4:=rfl
  have hfl:flat ([]++List.take (arN k) (arg0.map strRow)):=by rw[List.nil_append,←List.map_take];exact flat_strs _
  rcases Nat.eq_zero_or_pos k with hk0|hk0
  ·rw[if_neg (by omega)]at hF
   (try dsimp only at hF)
   have hG:=gpV_ok (n:=n) (k:=k) false
   obtain⟨k4,b4,o4,g4⟩:=belV_spec hci 4
   generalize belV 4 ci=t at *
   obtain⟨k5,b5,o5,g5⟩:=belV_spec o4 2
   generalize belV 2 t.2=u at *
   have k4':=k4 (by omega)
   have k5':=k5 (by omega)
   have g6:=g_body hG (1+u.1) (1+t.1) u.2 (by omega) (by omega) o5
   have hB:=body_ok hG (1+u.1)
   have hl:=hB.len (1+t.1) _ o5
   have hk:=hB.ok (1+t.1) _ o5
   have hx:=dr_drP (hB.bl (1+t.1) _ o5)
   have hs:sB (1+u.1)≤21:=by
    have:u.1=0∨u.1=1:=by omega
    rcases this with e|e <;> rw[e] <;> simp[sB]
   have hl2:=Nat.mul_le_mul (show 1+t.1≤4 by omega) hs
   generalize bodyV (gpV n k false) (1+u.1) (1+t.1) u.2=B at *
   obtain⟨t3,b3,o3,g3⟩:=exV_spec hG hk 3 (by omega)
   generalize exV (gpV n k false) 3 B.2=e at *
   subst hF
   have hnames:Tr.lst 1 ((gpV n k false).names.map strRow)=Tr.lst 1 (((nm0.map strRow).take n).drop (k+1)):=by simp[gpV,List.map_drop,List.map_take]
   have hars:Tr.lst 1 ((gpV n k false).ars.map intRow)=Tr.lst 1 (((ar0.map intRow).take n).drop (k+1)):=by simp[gpV,List.map_drop,List.map_take]
   have hvars:[]++List.take (arN k) (arg0.map strRow)++([[105],[122]]:List (List UInt8)).map strRow=(gpV n k false).vars.map strRow:=by simp[gpV,List.map_take]
   have hn1:Tr.int .i64 ((1+t.1:Nat):Int)=Tr.int .i64 (IntKind.i64.wrap (1+(t.1:Int))):=by rw[IntWalk.i64_in _ (by omega)];simp
   have hn2:Tr.int .i64 ((1+u.1:Nat):Int)=Tr.int .i64 (IntKind.i64.wrap (1+(u.1:Int))):=by rw[IntWalk.i64_in _ (by omega)];simp
   repeat' ((conv=>whnf);first|(with_reducible first|apply Wx|apply W6)|apply oi|(apply fi<;>intro h)|refine⟨k,(intRow (arN k)),rfl,map_get har,?_⟩|refine⟨0,arN k,rfl,rfl,Nat.zero_le _,har2,?_⟩|refine⟨k+1,n,hw1,rfl,by omega,by(rw[hnl];omega),?_⟩|refine⟨k+1,n,hw1,rfl,by omega,by(rw[hal4];omega),?_⟩|refine⟨k,(strRow (nmN k)),rfl,map_get hnm,?_⟩|refine⟨_,rfl,?_⟩|((with_reducible show _=_);rfl))
   all_goals try((with_reducible refine Obl.mk ?_);exact KP)
   all_goals try exact KX
   all_goals try exact⟨har2⟩
   all_goals try exact⟨⟨by simp <;> omega,by simp <;> omega⟩⟩
   all_goals try exact⟨hfl⟩
   refine cg (g4) ?_
   repeat' ((conv=>whnf);first|(with_reducible first|apply Wx|apply W6)|apply oi|(apply fi<;>intro h)|refine⟨_,rfl,?_⟩|((with_reducible show _=_);rfl))
   all_goals try((with_reducible refine Obl.mk ?_);exact KP)
   refine cg (g5) ?_
   repeat' ((conv=>whnf);first|(with_reducible first|apply Wx|apply W6)|apply oi|(apply fi<;>intro h)|refine⟨_,rfl,?_⟩|((with_reducible show _=_);rfl))
   all_goals try((with_reducible refine Obl.mk ?_);exact KP)
   refine cg (g6) ?_
   repeat' ((conv=>whnf);first|(with_reducible first|apply Wx|apply W6)|apply oi|(apply fi<;>intro h)|refine⟨_,rfl,?_⟩|((with_reducible show _=_);rfl))
   all_goals try((with_reducible refine Obl.mk ?_);exact KP)
   all_goals try exact⟨hnames⟩
   all_goals try exact⟨hars⟩
   all_goals try exact⟨hn1⟩
   all_goals try exact⟨hn2⟩
   all_goals try exact⟨hvars⟩
   all_goals try exact⟨⟨by simp <;> omega,by simp <;> omega⟩⟩
   refine cg (g3) ?_
   repeat' ((conv=>whnf);first|(with_reducible first|apply Wx|apply W6)|apply oi|(apply fi<;>intro h)|refine⟨_,rfl,?_⟩|((with_reducible show _=_);rfl))
   all_goals try((with_reducible refine Obl.mk ?_);exact KP)
   all_goals try exact⟨flat_toks _⟩
   all_goals try exact⟨⟨by simp <;> omega,by simp <;> omega⟩⟩
   conv=>whnf
   refine⟨⟨(k+1,_,_),by dsimp only;omega,s3,hlen,hr1,hr2⟩,?_,by dsimp only;omega⟩
   repeat' ((conv=>whnf);first|(with_reducible first|apply Wx|apply W6)|apply oi|(apply fi<;>intro h)|refine⟨_,rfl,?_⟩|((with_reducible show _=_);rfl))
   all_goals try((with_reducible refine Obl.mk ?_);exact KP)
   all_goals try exact⟨KW⟩
   all_goals try exact⟨by simp[drP,dr_pos t3.1,dr_nil,hx,List.map_take,arg0,strRow]⟩
  ·rw[if_pos hk0]at hF
   obtain⟨b7,o7,g7⟩:=onceV_spec hci 5
   generalize onceV 5 ci=o at *
   (try dsimp only at hF)
   cases ho:o.1 with
   | true=>
    rw[ho]at hF g7
    have hG:=gpV_ok (n:=n) (k:=k) true
    obtain⟨k4,b4,o4,g4⟩:=belV_spec o7 4
    generalize belV 4 o.2=t at *
    obtain⟨k5,b5,o5,g5⟩:=belV_spec o4 2
    generalize belV 2 t.2=u at *
    have k4':=k4 (by omega)
    have k5':=k5 (by omega)
    have g6:=g_body hG (1+u.1) (1+t.1) u.2 (by omega) (by omega) o5
    have hB:=body_ok hG (1+u.1)
    have hl:=hB.len (1+t.1) _ o5
    have hk:=hB.ok (1+t.1) _ o5
    have hx:=dr_drP (hB.bl (1+t.1) _ o5)
    have hs:sB (1+u.1)≤21:=by
     have:u.1=0∨u.1=1:=by omega
     rcases this with e|e <;> rw[e] <;> simp[sB]
    have hl2:=Nat.mul_le_mul (show 1+t.1≤4 by omega) hs
    generalize bodyV (gpV n k true) (1+u.1) (1+t.1) u.2=B at *
    obtain⟨t3,b3,o3,g3⟩:=exV_spec hG hk 3 (by omega)
    generalize exV (gpV n k true) 3 B.2=e at *
    subst hF
    have hnames:Tr.lst 1 ((gpV n k true).names.map strRow)=Tr.lst 1 (((nm0.map strRow).take n).drop (k)):=by simp[gpV,List.map_drop,List.map_take]
    have hars:Tr.lst 1 ((gpV n k true).ars.map intRow)=Tr.lst 1 (((ar0.map intRow).take n).drop (k)):=by simp[gpV,List.map_drop,List.map_take]
    have hvars:[]++List.take (arN k) (arg0.map strRow)++([[105],[122]]:List (List UInt8)).map strRow=(gpV n k true).vars.map strRow:=by simp[gpV,List.map_take]
    have hn1:Tr.int .i64 ((1+t.1:Nat):Int)=Tr.int .i64 (IntKind.i64.wrap (1+(t.1:Int))):=by rw[IntWalk.i64_in _ (by omega)];simp
    have hn2:Tr.int .i64 ((1+u.1:Nat):Int)=Tr.int .i64 (IntKind.i64.wrap (1+(u.1:Int))):=by rw[IntWalk.i64_in _ (by omega)];simp
    repeat' ((conv=>whnf);first|(with_reducible first|apply Wx|apply W6)|apply oi|(apply fi<;>intro h)|refine⟨k,(intRow (arN k)),rfl,map_get har,?_⟩|refine⟨0,arN k,rfl,rfl,Nat.zero_le _,har2,?_⟩|refine⟨k+1,n,hw1,rfl,by omega,by(rw[hnl];omega),?_⟩|refine⟨k+1,n,hw1,rfl,by omega,by(rw[hal4];omega),?_⟩|refine⟨k,(strRow (nmN k)),rfl,map_get hnm,?_⟩|refine⟨_,rfl,?_⟩|((with_reducible show _=_);rfl))
    all_goals try((with_reducible refine Obl.mk ?_);exact KP)
    all_goals try exact KX
    all_goals try exact⟨har2⟩
    all_goals try exact⟨⟨by simp <;> omega,by simp <;> omega⟩⟩
    all_goals try exact⟨hfl⟩
    refine cg (g7) ?_
    repeat' ((conv=>whnf);first|(with_reducible first|apply Wx|apply W6)|apply oi|(apply fi<;>intro h)|refine⟨k,(strRow (nmN k)),rfl,map_get hnm,?_⟩|refine⟨k,n,rfl,rfl,by omega,by(rw[hnl];omega),?_⟩|refine⟨k,n,rfl,rfl,by omega,by(rw[hal4];omega),?_⟩|refine⟨_,rfl,?_⟩|((with_reducible show _=_);rfl))
    all_goals try((with_reducible refine Obl.mk ?_);exact KP)
    all_goals try exact KX
    all_goals try exact⟨har2⟩
    all_goals try exact⟨⟨by simp <;> omega,by simp <;> omega⟩⟩
    all_goals try exact⟨hfl⟩
    refine cg (g4) ?_
    repeat' ((conv=>whnf);first|(with_reducible first|apply Wx|apply W6)|apply oi|(apply fi<;>intro h)|refine⟨_,rfl,?_⟩|((with_reducible show _=_);rfl))
    all_goals try((with_reducible refine Obl.mk ?_);exact KP)
    refine cg (g5) ?_
    repeat' ((conv=>whnf);first|(with_reducible first|apply Wx|apply W6)|apply oi|(apply fi<;>intro h)|refine⟨_,rfl,?_⟩|((with_reducible show _=_);rfl))
    all_goals try((with_reducible refine Obl.mk ?_);exact KP)
    refine cg (g6) ?_
    repeat' ((conv=>whnf);first|(with_reducible first|apply Wx|apply W6)|apply oi|(apply fi<;>intro h)|refine⟨_,rfl,?_⟩|((with_reducible show _=_);rfl))
    all_goals try((with_reducible refine Obl.mk ?_);exact KP)
    all_goals try exact⟨hnames⟩
    all_goals try exact⟨hars⟩
    all_goals try exact⟨hn1⟩
    all_goals try exact⟨hn2⟩
    all_goals try exact⟨hvars⟩
    all_goals try exact⟨⟨by simp <;> omega,by simp <;> omega⟩⟩
    refine cg (g3) ?_
    repeat' ((conv=>whnf);first|(with_reducible first|apply Wx|apply W6)|apply oi|(apply fi<;>intro h)|refine⟨_,rfl,?_⟩|((with_reducible show _=_);rfl))
    all_goals try((with_reducible refine Obl.mk ?_);exact KP)
    all_goals try exact⟨flat_toks _⟩
    all_goals try exact⟨⟨by simp <;> omega,by simp <;> omega⟩⟩
    conv=>whnf
    refine⟨⟨(k+1,_,_),by dsimp only;omega,s3,hlen,hr1,hr2⟩,?_,by dsimp only;omega⟩
    repeat' ((conv=>whnf);first|(with_reducible first|apply Wx|apply W6)|apply oi|(apply fi<;>intro h)|refine⟨_,rfl,?_⟩|((with_reducible show _=_);rfl))
    all_goals try((with_reducible refine Obl.mk ?_);exact KP)
    all_goals try exact⟨KW⟩
    all_goals try exact⟨by simp[drP,dr_pos t3.1,dr_nil,hx,List.map_take,arg0,strRow]⟩
   | false=>
    rw[ho]at hF g7
    have hG:=gpV_ok (n:=n) (k:=k) false
    obtain⟨k4,b4,o4,g4⟩:=belV_spec o7 4
    generalize belV 4 o.2=t at *
    obtain⟨k5,b5,o5,g5⟩:=belV_spec o4 2
    generalize belV 2 t.2=u at *
    have k4':=k4 (by omega)
    have k5':=k5 (by omega)
    have g6:=g_body hG (1+u.1) (1+t.1) u.2 (by omega) (by omega) o5
    have hB:=body_ok hG (1+u.1)
    have hl:=hB.len (1+t.1) _ o5
    have hk:=hB.ok (1+t.1) _ o5
    have hx:=dr_drP (hB.bl (1+t.1) _ o5)
    have hs:sB (1+u.1)≤21:=by
     have:u.1=0∨u.1=1:=by omega
     rcases this with e|e <;> rw[e] <;> simp[sB]
    have hl2:=Nat.mul_le_mul (show 1+t.1≤4 by omega) hs
    generalize bodyV (gpV n k false) (1+u.1) (1+t.1) u.2=B at *
    obtain⟨t3,b3,o3,g3⟩:=exV_spec hG hk 3 (by omega)
    generalize exV (gpV n k false) 3 B.2=e at *
    subst hF
    have hnames:Tr.lst 1 ((gpV n k false).names.map strRow)=Tr.lst 1 (((nm0.map strRow).take n).drop (k+1)):=by simp[gpV,List.map_drop,List.map_take]
    have hars:Tr.lst 1 ((gpV n k false).ars.map intRow)=Tr.lst 1 (((ar0.map intRow).take n).drop (k+1)):=by simp[gpV,List.map_drop,List.map_take]
    have hvars:[]++List.take (arN k) (arg0.map strRow)++([[105],[122]]:List (List UInt8)).map strRow=(gpV n k false).vars.map strRow:=by simp[gpV,List.map_take]
    have hn1:Tr.int .i64 ((1+t.1:Nat):Int)=Tr.int .i64 (IntKind.i64.wrap (1+(t.1:Int))):=by rw[IntWalk.i64_in _ (by omega)];simp
    have hn2:Tr.int .i64 ((1+u.1:Nat):Int)=Tr.int .i64 (IntKind.i64.wrap (1+(u.1:Int))):=by rw[IntWalk.i64_in _ (by omega)];simp
    repeat' ((conv=>whnf);first|(with_reducible first|apply Wx|apply W6)|apply oi|(apply fi<;>intro h)|refine⟨k,(intRow (arN k)),rfl,map_get har,?_⟩|refine⟨0,arN k,rfl,rfl,Nat.zero_le _,har2,?_⟩|refine⟨k+1,n,hw1,rfl,by omega,by(rw[hnl];omega),?_⟩|refine⟨k+1,n,hw1,rfl,by omega,by(rw[hal4];omega),?_⟩|refine⟨k,(strRow (nmN k)),rfl,map_get hnm,?_⟩|refine⟨_,rfl,?_⟩|((with_reducible show _=_);rfl))
    all_goals try((with_reducible refine Obl.mk ?_);exact KP)
    all_goals try exact KX
    all_goals try exact⟨har2⟩
    all_goals try exact⟨⟨by simp <;> omega,by simp <;> omega⟩⟩
    all_goals try exact⟨hfl⟩
    refine cg (g7) ?_
    repeat' ((conv=>whnf);first|(with_reducible first|apply Wx|apply W6)|apply oi|(apply fi<;>intro h)|refine⟨k,(strRow (nmN k)),rfl,map_get hnm,?_⟩|refine⟨_,rfl,?_⟩|((with_reducible show _=_);rfl))
    all_goals try((with_reducible refine Obl.mk ?_);exact KP)
    all_goals try exact KX
    all_goals try exact⟨har2⟩
    all_goals try exact⟨⟨by simp <;> omega,by simp <;> omega⟩⟩
    all_goals try exact⟨hfl⟩
    refine cg (g4) ?_
    repeat' ((conv=>whnf);first|(with_reducible first|apply Wx|apply W6)|apply oi|(apply fi<;>intro h)|refine⟨_,rfl,?_⟩|((with_reducible show _=_);rfl))
    all_goals try((with_reducible refine Obl.mk ?_);exact KP)
    refine cg (g5) ?_
    repeat' ((conv=>whnf);first|(with_reducible first|apply Wx|apply W6)|apply oi|(apply fi<;>intro h)|refine⟨_,rfl,?_⟩|((with_reducible show _=_);rfl))
    all_goals try((with_reducible refine Obl.mk ?_);exact KP)
    refine cg (g6) ?_
    repeat' ((conv=>whnf);first|(with_reducible first|apply Wx|apply W6)|apply oi|(apply fi<;>intro h)|refine⟨_,rfl,?_⟩|((with_reducible show _=_);rfl))
    all_goals try((with_reducible refine Obl.mk ?_);exact KP)
    all_goals try exact⟨hnames⟩
    all_goals try exact⟨hars⟩
    all_goals try exact⟨hn1⟩
    all_goals try exact⟨hn2⟩
    all_goals try exact⟨hvars⟩
    all_goals try exact⟨⟨by simp <;> omega,by simp <;> omega⟩⟩
    refine cg (g3) ?_
    repeat' ((conv=>whnf);first|(with_reducible first|apply Wx|apply W6)|apply oi|(apply fi<;>intro h)|refine⟨_,rfl,?_⟩|((with_reducible show _=_);rfl))
    all_goals try((with_reducible refine Obl.mk ?_);exact KP)
    all_goals try exact⟨flat_toks _⟩
    all_goals try exact⟨⟨by simp <;> omega,by simp <;> omega⟩⟩
    conv=>whnf
    refine⟨⟨(k+1,_,_),by dsimp only;omega,s3,hlen,hr1,hr2⟩,?_,by dsimp only;omega⟩
    repeat' ((conv=>whnf);first|(with_reducible first|apply Wx|apply W6)|apply oi|(apply fi<;>intro h)|refine⟨_,rfl,?_⟩|((with_reducible show _=_);rfl))
    all_goals try((with_reducible refine Obl.mk ?_);exact KP)
    all_goals try exact⟨KW⟩
    all_goals try exact⟨by simp[drP,dr_pos t3.1,dr_nil,hx,List.map_take,arg0,strRow]⟩
 ·have hkn:k=n:=by omega
  subst hkn
  rw[Nat.sub_self]at hr1 hr2
  simp only[funsV,List.append_nil]at hr1 hr2
  subst hr1;subst hr2
  dsimp only at hPL
  refine view_rule ⟨[(0,curP),(5,tI .i64 (k:Int)),(6,.r (.c (.t (.lst 4 ((acc.map drP).map fun x=>x.map DC.tr))))),(7,tI .i64 (k:Int))],[((0,0,0),some (.box [.t (.lst 1 (ci.b.map byteRow)),.t (.int .i64 ci.i),.t (.int .i64 ci.h)]))],[15,0]⟩ ?_ ?_ rfl ?_
  ·refine⟨.inl rfl,.inl rfl,.inr ⟨_,_,rfl,rfl,rfl,?_⟩,.inl rfl,trivial⟩
   intro q hq;simp only[AC.ids,List.mem_cons,List.not_mem_nil,or_false]at hq;subst hq;rfl
  ·exact⟨.inr rfl,trivial⟩
  refine retree_rule 6 rfl (em_prog hPL) ?_
  repeat' ((conv=>whnf);first|(with_reducible first|apply Wx|apply W6)|apply oi|(apply fi<;>intro h)|refine⟨_,rfl,?_⟩|((with_reducible show _=_);rfl))
  all_goals try((with_reducible refine Obl.mk ?_);exact KP)
  all_goals try exact KX
end Go.Proofs.Ytjmplnfiabmalaa
namespace Go.Proofs.Ytjmplnfiabmalaa
open Go.Sim
set_option maxRecDepth 100000
set_option maxHeartbeats 4000000
theorem smallRs_of {α:Type}{g:α→List Tr}{L:Int}:∀{l:List α},(∀x∈l,smallR L (g x))→smallRs L (l.map g)
 | [],_=>by rw[List.map_nil,smallRs];trivial
 | x::l,h=>by
  rw[List.map_cons,smallRs]
  exact⟨h x (by simp),smallRs_of fun y hy=>h y (by simp[hy])⟩
theorem small_map {α:Type}{g:α→List Tr}{l:List α}{sz:Nat}(hl:l.length≤1048576)(h:∀x∈l,smallR 1048576 (g x)):smallT 1048576 (.lst sz (l.map g)):=by
 rw[smallT]
 exact⟨by simp;omega,smallRs_of h⟩
end Go.Proofs.Ytjmplnfiabmalaa
namespace Go.Proofs.Ytjmplnfiabmalaa
open Go.Sim
set_option maxRecDepth 100000
set_option maxHeartbeats 4000000
theorem prog_small {l:List TLine}(h:∀x∈l,PL x)(hl:l.length≤800):smallT 1048576 (.lst 4 (l.map TLine.tr)):=by
 refine small_map (by omega) fun x hx=>?_
 have hp:=h x hx
 have h1:smallT 1048576 (.lst 1 (x.fArgs.map strRow)):=small_map (by have:=hp.args.1;omega) fun s hs=>by
  have:=hp.args.2 s hs
  simp only[strRow,smallR,smallT]
  exact⟨by omega,trivial⟩
 have h2:smallT 1048576 (.lst 3 (x.fExpr.map TTok.tr)):=small_map (by have:=hp.len;omega) fun t ht=>by
  have:=hp.tok t ht
  simp only[TTok.tr,smallR,smallT]
  exact⟨trivial,trivial,by omega,trivial⟩
 have h3:=hp.name
 exact⟨trivial,by simp only[smallT];omega,h1,h2,trivial⟩
end Go.Proofs.Ytjmplnfiabmalaa
namespace Go.Proofs.Ytjmplnfiabmalaa
open Go.Sim
set_option maxRecDepth 100000
set_option maxHeartbeats 4000000
abbrev vCode (code:List UInt8):AV:= .r (.c (.t (.lst 1 (code.map byteRow))))
theorem cur0_ok {code:List UInt8}(hl:code.length≤1048576):(⟨code,0,hashC code⟩:TCur).ok:=⟨by simp,hl⟩
theorem g_spec_DrawProgram (code:List UInt8)(hl:code.length≤1048576):∃(p:List TLine),(∀x∈p,PL x)∧p.length≤800∧smallT 1048576 (.lst 4 (p.map TLine.tr))∧
  SpecG Try.prog 17 [vCode code] [] (.r (.c (.t (.lst 4 (p.map TLine.tr))))) []:=by
 have g0:=g_spec_l01New code hl
 have g1:=g_spec_l03Program _ (cur0_ok hl)
 obtain⟨h2,h3,h4,h5⟩:=prog_ok (cur0_ok hl)
 generalize progV ⟨code,0,hashC code⟩=R at *
 refine⟨R.1,h5,h2,prog_small h5 h2,?_⟩
 refine specG_of_Wo hΓ hmix Try.func17 rfl (by decide) rfl rfl ?_
 repeat' ((conv=>whnf);first|(with_reducible first|apply Wx|apply W6)|apply oi|(apply fi<;>intro h)|refine⟨_,rfl,?_⟩|((with_reducible show _=_);rfl))
 all_goals try((with_reducible refine Obl.mk ?_);exact KP)
 refine cg (g0) ?_
 repeat' ((conv=>whnf);first|(with_reducible first|apply Wx|apply W6)|apply oi|(apply fi<;>intro h)|refine⟨_,rfl,?_⟩|((with_reducible show _=_);rfl))
 all_goals try((with_reducible refine Obl.mk ?_);exact KP)
 refine cg (g1) ?_
 repeat' ((conv=>whnf);first|(with_reducible first|apply Wx|apply W6)|apply oi|(apply fi<;>intro h)|refine⟨_,rfl,?_⟩|((with_reducible show _=_);rfl))
 all_goals try((with_reducible refine Obl.mk ?_);exact KP)
theorem byte_rows {rows:List (List Tr)}(h:∀r∈rows,∃n,r=[.int .u8 n]∧(Lit.int .u8 n).wf=true):∃bs:List UInt8,rows=bs.map byteRow:=by
 obtain⟨bs,hb,_⟩:=rows_map (g:=byteRow) (Q:=fun _=>True) (rows:=rows) fun r hr=>by
  obtain⟨n,rfl,hw⟩:=h r hr
  have h1:IntKind.u8.min≤n∧n≤IntKind.u8.max:=by simpa [Lit.wf]using hw
  have h2:0≤n∧n≤255:=h1
  refine⟨UInt8.ofNat n.toNat,?_,trivial⟩
  rw[byteRow,show(UInt8.ofNat n.toNat).toNat=n.toNat by simp;omega,Int.toNat_of_nonneg h2.1]
 exact⟨bs,hb⟩
end Go.Proofs.Ytjmplnfiabmalaa
namespace Go.Proofs.Ytjmplnfiabmalaa
noncomputable section
open Go.Sim
set_option maxRecDepth 100000
set_option maxHeartbeats 4000000
structure Cx where
 p:List TLine
 b:TBuild
 framed:Bool
 words:Int
 args:Int
structure Sc where
 f:Nat
 chain:List Int
 locals:List (List UInt8)
 first:Int
 outer:Bool
structure Gs where
 items:List TItem
 most:Int
 start:Bool
def mkItem (C:Cx)(s:Gs)(depth code arg line:Int)(chain:List Int):TItem:=⟨⟨code,arg⟩,line,s.start,chain,if C.framed=true∧0 < s.items.length then 0 else depth,C.framed && decide (0 < s.items.length)⟩
def emitG (C:Cx)(s:Gs)(depth code arg line:Int)(chain:List Int):Gs:=⟨s.items++[mkItem C s depth code arg line chain],s.most,false⟩
def isArg (C:Cx)(x:Sc)(i:Int):Bool:=x.outer && decide (i < C.args)
def aboveK (C:Cx)(x:Sc)(i:Int):Int:=if x.outer=true then i - C.args else x.first+i
def placeC (C:Cx)(store:Bool):Int:=(if C.framed=true then 1 else 3)+(if store=true then 1 else 0)
def placeA (C:Cx)(x:Sc)(depth i:Int):Int:=
 if C.framed=true then(if isArg C x i=true then 1+(C.args - i)else -1 - aboveK C x i)
 else(if isArg C x i=true then depth+(C.args - i)else depth - 1 - aboveK C x i)
def loadG (C:Cx)(x:Sc)(s:Gs)(depth i line:Int):Gs:=emitG C s depth (placeC C false) (placeA C x depth i) line x.chain
def storeG (C:Cx)(x:Sc)(s:Gs)(depth i line:Int)(chain:List Int):Gs:=emitG C s depth (placeC C true) (placeA C x depth i) line chain
def storesG (C:Cx)(y:Sc)(chain:List Int)(line:Int):Nat→Int→Gs→Gs
 | 0,_,s=>s
 | n+1,d,s=>storesG C y chain line n (d - 1) (storeG C y s d n line chain)
def zerosG (C:Cx)(y:Sc)(chain:List Int)(line d:Int):Nat→Nat→Gs→Gs
 | 0,_,s=>s
 | n+1,i,s=>zerosG C y chain line d n (i+1) (storeG C y (emitG C s d 0 0 line chain) (d+1) i line chain)
def setArg (l:List TItem)(j:Int)(v:Int):List TItem:=if 0≤j then(match l[j.toNat]? with
 | some x=>l.set j.toNat ⟨⟨x.fOp.fCode,v⟩,x.fLine,x.fStart,x.fChain,x.fDepth,x.fEntered⟩
 | none=>l)else l
def patchL (l:List TItem)(v:Int):List Int→List TItem
 | []=>l
 | j::js=>patchL (setArg l j v) v js
def numOf (p:List TLine)(g:Nat):Nat:=((p.take g).filter fun x=>x.fKind==0).length
def replB (C:Cx)(inside:List Nat)(g:Nat)(n:Nat):Bool:=decide ((inside.length:Int)≤C.b.fInline) && (decide (endOf C.p (g:Int) - g≤9) && (decide (n < 200) && !inside.contains g))
def finG (C:Cx)(rep:Sc→List Nat→Nat→Nat→Int→Gs→Gs)(x:Sc)(inside:List Nat)(line:Nat)(t:TTok)(d:Int)(s:Gs):Gs:=
 if t.fKind=0 then emitG C s d 0 t.fNum line x.chain
 else if t.fKind=1 then loadG C x s d (idxOf x.locals t.fName) line
 else if t.fKind=7 then(match findN C.p 0 t.fName with
  | some g=>if replB C inside g s.items.length=true then rep x inside line g d s else emitG C s d 12 (numOf C.p g) line x.chain
  | none=>s)
 else emitG C s d (5+t.fKind - 2) 0 line x.chain
mutual
def genE (C:Cx)(rep:Sc→List Nat→Nat→Nat→Int→Gs→Gs)(x:Sc)(inside:List Nat)(line:Nat):Ex→Int→Gs→Gs
 | .node t es,d,s=>finG C rep x inside line t (d+es.length) (genEs C rep x inside line es d s)
def genEs (C:Cx)(rep:Sc→List Nat→Nat→Nat→Int→Gs→Gs)(x:Sc)(inside:List Nat)(line:Nat):List Ex→Int→Gs→Gs
 | [],_,s=>s
 | a::es,d,s=>genEs C rep x inside line es (d+1) (genE C rep x inside line a d s)
end
def topOf (C:Cx)(x:Sc):Int:=if x.outer=true then(x.locals.length:Int) - C.args else x.first+x.locals.length
def argsN (p:List TLine)(g:Nat):Nat:=match p[g]? with|some l=>l.fArgs.length|none=>0
def inSc (C:Cx)(x:Sc)(line g:Nat):Sc:=⟨g,x.chain++[(line:Int)],localsOf C.p (g:Int),topOf C x,false⟩
def preG (C:Cx)(x:Sc)(line g:Nat)(d:Int)(s:Gs):Gs:=
 zerosG C (inSc C x line g) x.chain line (d - argsN C.p g) ((localsOf C.p (g:Int)).length - argsN C.p g) (argsN C.p g)
  (storesG C (inSc C x line g) x.chain line (argsN C.p g) d ⟨s.items,max s.most (topOf C x+(localsOf C.p (g:Int)).length),s.start⟩)
def spaceG (C:Cx)(x:Sc)(line:Nat)(d:Int)(s:Gs):Gs:=if s.start=true then emitG C s d 15 0 line x.chain else s
def replG (C:Cx)(lines:Sc→List Nat→Int→Gs→Gs×List Int)(x:Sc)(inside:List Nat)(line g:Nat)(d:Int)(s:Gs):Gs:=
 let r:=lines (inSc C x line g) (inside++[g]) (d - argsN C.p g) (spaceG C x line (d - argsN C.p g) (preG C x line g d s))
 ⟨patchL r.1.items r.1.items.length r.2,r.1.most,r.1.start⟩
def ownN (p:List TLine)(k:Nat):Nat→Option Nat
 | 0=>none
 | n+1=>if endAt p n=some k∨elseAt p n=some k then some n else ownN p k n
def ownOf (p:List TLine)(k:Nat):Nat:=(ownN p k p.length).getD 0
def kindAt (p:List TLine)(k:Nat):Int:=match p[k]? with|some x=>x.fKind|none=> -1
structure Ls where
 g:Gs
 heads:List Int
 pos:List Int
 lv:List Int
def exL (l:List TTok):Ex:=if h:exprOk l=true then Classical.choose (exprOk_parse h)else .node ⟨0,0,[]⟩ []
theorem exL_ok {l:List TTok}(h:exprOk l=true):(exL l).ok∧l=(exL l).toks:=by
 rw[exL,dif_pos h]
 exact Classical.choose_spec (exprOk_parse h)
def atL (l:List Int)(k:Nat):Int:=l[k]?.getD 0
def leaveG (C:Cx)(x:Sc)(k:Nat)(last:Bool)(d:Int)(L:Ls):Ls:=
 if x.outer=true then(if C.framed=true then{L with g:=emitG C L.g d 14 C.args k x.chain} else{L with g:=emitG C L.g d 16 (C.args+16 * C.words) k x.chain})
 else if last=true then L
 else{L with g:=emitG C L.g d 10 0 k x.chain,lv:=L.lv++[(L.g.items.length:Int)]}
def stepA (C:Cx)(rep:Sc→List Nat→Nat→Nat→Int→Gs→Gs)(x:Sc)(inside:List Nat)(base:Int)(k:Nat)(ln:TLine)(L:Ls):Ls:=
 if ln.fKind=4 then
  let g:=emitG C L.g base 10 0 k x.chain
  {L with g:=⟨setArg g.items (atL L.pos (ownOf C.p k)) g.items.length,g.most,g.start⟩,pos:=L.pos.set k L.g.items.length}
 else if ln.fKind=7 then
  if ownOf C.p k=x.f then leaveG C x k true (base+1) {L with g:=emitG C L.g base 0 0 k x.chain}
  else if kindAt C.p (ownOf C.p k)=5 then{L with g:=emitG C L.g base 10 (atL L.heads (ownOf C.p k)) k x.chain}
  else L
 else
  let L1:Ls:={L with g:=genE C rep x inside k (exL ln.fExpr) base ⟨L.g.items,L.g.most,true⟩,heads:=L.heads.set k L.g.items.length}
  if ln.fKind=1 then{L1 with g:=storeG C x L1.g (base+1) (idxOf x.locals ln.fName) k x.chain}
  else if ln.fKind=2 then{L1 with g:=emitG C L1.g (base+1) 17 0 k x.chain}
  else if ln.fKind=6 then leaveG C x k false (base+1) L1
  else{L1 with g:=emitG C L1.g (base+1) 11 0 k x.chain,pos:=L1.pos.set k L1.g.items.length}
def exitAt (p:List TLine)(k:Nat):Nat:=match elseAt p (ownOf p k)with|some j=>j|none=>ownOf p k
def stepB (C:Cx)(x:Sc)(k:Nat)(ln:TLine)(L:Ls):Ls:=
 if ln.fKind=7∧ownOf C.p k≠x.f then{L with g:=⟨setArg L.g.items (atL L.pos (exitAt C.p k)) L.g.items.length,L.g.most,L.g.start⟩} else L
def runL (C:Cx)(rep:Sc→List Nat→Nat→Nat→Int→Gs→Gs)(x:Sc)(inside:List Nat)(base:Int):Nat→Nat→Ls→Ls
 | 0,_,L=>L
 | n+1,k,L=>match C.p[k]? with
  | some ln=>runL C rep x inside base n (k+1) (stepB C x k ln (stepA C rep x inside base k ln L))
  | none=>L
def startL (C:Cx)(s:Gs):Ls:=⟨s,List.replicate C.p.length 0,List.replicate C.p.length 0,[]⟩
def endL' (p:List TLine)(f:Nat):Nat:=(endAt p f).getD 0
def linesG (C:Cx)(rep:Sc→List Nat→Nat→Nat→Int→Gs→Gs)(x:Sc)(inside:List Nat)(base:Int)(s:Gs):Gs×List Int:=
 let L:=runL C rep x inside base (endL' C.p x.f - x.f) (x.f+1) (startL C s)
 (L.g,L.lv)
def repN (C:Cx):Nat→Sc→List Nat→Nat→Nat→Int→Gs→Gs
 | 0=>fun _ _ _ _ _ s=>s
 | n+1=>replG C (linesG C (repN C n))
def outerSc (C:Cx)(f:Nat):Sc:=⟨f,[],localsOf C.p (f:Int),0,true⟩
end
end Go.Proofs.Ytjmplnfiabmalaa
namespace Go.Proofs.Ytjmplnfiabmalaa
open Go.Sim
set_option maxRecDepth 100000
set_option maxHeartbeats 4000000
theorem lt_of_get {α:Type}{l:List α}{k:Nat}{x:α}(h:l[k]?=some x):k < l.length:=by
 rcases Nat.lt_or_ge k l.length with h'|h'
 ·exact h'
 ·rw[List.getElem?_eq_none h']at h;cases h
theorem endAt_inj {l:List TLine}{i j e:Nat}(hi:endAt l i=some e)(hj:endAt l j=some e):i=j:=by
 have key:∀{i j:Nat},endAt l i=some e→endAt l j=some e→i < j→False:=by
  intro i j hi hj hlt
  obtain⟨x,hx,ho,_,h1,_⟩:=endAt_some hj
  obtain⟨m,hm,_,h2⟩:=endAt_in hi hlt h1 hx ho
  rw[hj]at hm
  injection hm with hm
  omega
 rcases Nat.lt_trichotomy i j with h|h|h
 ·exact(key hi hj h).elim
 ·exact h
 ·exact(key hj hi h).elim
theorem elseN_out {l:List TLine}{e:Nat}:∀{n i j:Nat},elseN l e n i=some j→∀k x m,i≤k→k < j→l[k]?=some x→(x.fKind=3∨x.fKind=5)→endAt l k=some m→m < j
 | 0,_,_,h=>by rw[elseN]at h;cases h
 | n+1,i,j,h=>by
  intro k x m h1 h2 hx h3 hm
  rw[elseN]at h
  split at h
  ·split at h
   ·rename_i y hy
    split at h
    ·injection h with h;omega
    ·split at h
     ·split at h
      ·rename_i m' hm'
       have hin:=elseN_in h
       obtain⟨_,_,_,_,g1,_⟩:=endAt_some hm'
       by_cases hk:k=i
       ·subst hk
        rw[hm']at hm
        injection hm with hm
        omega
       ·by_cases hk2:k≤m'
        ·by_cases hk3:k=m'
         ·subst hk3
          obtain⟨z,hz,h7⟩:=endAt_kind hm'
          rw[hx]at hz
          injection hz with hz
          subst hz
          omega
         ·obtain⟨m2,hm2,_,g2⟩:=endAt_in hm' (by omega) (by omega) hx (by rw[opensK_iff];omega)
          rw[hm]at hm2
          injection hm2 with hm2
          omega
        ·exact elseN_out h k x m (by omega) h2 hx h3 hm
      ·rename_i hno
       by_cases hk:k=i
       ·subst hk
        rw[hno]at hm
        cases hm
       ·exact elseN_out h k x m (by omega) h2 hx h3 hm
     ·by_cases hk:k=i
      ·subst hk
       rw[hx]at hy
       injection hy with hy
       subst hy
       rename_i hne
       exact absurd h3 hne
      ·exact elseN_out h k x m (by omega) h2 hx h3 hm
   ·cases h
  ·cases h
theorem elseAt_inj {l:List TLine}{i j k:Nat}(hi:elseAt l i=some k)(hj:elseAt l j=some k):i=j:=by
 have key:∀{i j:Nat},elseAt l i=some k→elseAt l j=some k→i < j→False:=by
  intro i j hi hj hlt
  obtain⟨y,ej,hy,h3,hej,h4,h5,_⟩:=elseAt_some hj
  unfold elseAt at hi
  split at hi
  ·split at hi
   ·have:=elseN_out hi j y ej (by omega) h4 hy (.inl h3) hej
    omega
   ·cases hi
  ·cases hi
 rcases Nat.lt_trichotomy i j with h|h|h
 ·exact(key hi hj h).elim
 ·exact h
 ·exact(key hj hi h).elim
theorem ownN_some {p:List TLine}{k i:Nat}:∀{n:Nat},ownN p k n=some i→i < n∧(endAt p i=some k∨elseAt p i=some k)
 | 0,h=>by rw[ownN]at h;cases h
 | n+1,h=>by
  rw[ownN]at h
  split at h
  ·injection h with h;subst h;exact⟨by omega,by assumption⟩
  ·have:=ownN_some h;exact⟨by omega,this.2⟩
theorem ownN_has {p:List TLine}{k i:Nat}(hi:endAt p i=some k∨elseAt p i=some k):∀{n:Nat},i < n→∃j,ownN p k n=some j
 | 0,h=>by omega
 | n+1,h=>by
  rw[ownN]
  split
  ·exact⟨_,rfl⟩
  ·by_cases he:i=n
   ·subst he;exact absurd hi (by assumption)
   ·exact ownN_has hi (by omega)
theorem own_end {p:List TLine}{k i:Nat}(h:endAt p i=some k):ownOf p k=i:=by
 obtain⟨x,hx,_,_,_,_⟩:=endAt_some h
 obtain⟨j,hj⟩:=ownN_has (.inl h) (lt_of_get hx)
 rw[ownOf,hj]
 obtain⟨_,h1|h1⟩:=ownN_some hj
 ·exact endAt_inj h1 h
 ·obtain⟨_,_,_,_,_,_,_,y,hy,h4⟩:=elseAt_some h1
  obtain⟨z,hz,h7⟩:=endAt_kind h
  rw[hy]at hz
  injection hz with hz
  subst hz
  omega
theorem own_else {p:List TLine}{k i:Nat}(h:elseAt p i=some k):ownOf p k=i:=by
 obtain⟨x,e,hx,_,_,_,_,y,hy,h4⟩:=elseAt_some h
 obtain⟨j,hj⟩:=ownN_has (.inr h) (lt_of_get hx)
 rw[ownOf,hj]
 obtain⟨_,h1|h1⟩:=ownN_some hj
 ·obtain⟨z,hz,h7⟩:=endAt_kind h1
  rw[hy]at hz
  injection hz with hz
  subst hz
  omega
 ·exact elseAt_inj h1 h
theorem end_closes {l:List TLine}{i:Nat}{x:TLine}(hx:l[i]?=some x)(h7:x.fKind=7):∀(n s o e:Nat),i - s≤n→s≤i→1≤o→endN (l.drop s) s o=some e→i≤e→(∃k,s≤k∧k < i∧endAt l k=some i)∨∃j,1≤j∧j≤o∧endN (l.drop s) s j=some i
 | n,s,o,e,hn,hs,ho,h,hi=>by
  have hno:¬opensK x.fKind=true:=by rw[opensK_iff];omega
  by_cases he:s=i
  ·subst he
   exact .inr ⟨1,Nat.le_refl _,ho,by rw[endN_at hx,if_neg hno,if_pos h7,if_pos rfl]⟩
  obtain⟨m,rfl⟩:∃m,n=m+1:=⟨n - 1,by omega⟩
  have hl:=endN_lt h
  obtain⟨y,hy⟩:=get_of_lt (l:=l) (k:=s) (by omega)
  rw[endN_at hy]at h
  by_cases hop:opensK y.fKind=true
  ·rw[if_pos hop]at h
   rcases end_closes hx h7 m (s+1) (o+1) e (by omega) (by omega) (by omega) h hi with⟨k,h1,h2,h3⟩|⟨j,h1,h2,h3⟩
   ·exact .inl ⟨k,by omega,h2,h3⟩
   ·by_cases hj:j=1
    ·subst hj
     exact .inl ⟨s,Nat.le_refl _,by omega,by rw[endAt_of hy hop];exact h3⟩
    ·exact .inr ⟨j - 1,by omega,by omega,by rw[endN_at hy,if_pos hop,show j - 1+1=j by omega];exact h3⟩
  ·rw[if_neg hop]at h
   by_cases h7y:y.fKind=7
   ·rw[if_pos h7y]at h
    by_cases h1o:o=1
    ·rw[if_pos h1o]at h
     injection h with h
     omega
    ·rw[if_neg h1o]at h
     rcases end_closes hx h7 m (s+1) (o - 1) e (by omega) (by omega) (by omega) h hi with⟨k,h1,h2,h3⟩|⟨j,h1,h2,h3⟩
     ·exact .inl ⟨k,by omega,h2,h3⟩
     ·exact .inr ⟨j+1,by omega,by omega,by rw[endN_at hy,if_neg hop,if_pos h7y,if_neg (by omega),show j+1 - 1=j by omega];exact h3⟩
   ·rw[if_neg h7y]at h
    rcases end_closes hx h7 m (s+1) o e (by omega) (by omega) ho h hi with⟨k,h1,h2,h3⟩|⟨j,h1,h2,h3⟩
    ·exact .inl ⟨k,by omega,h2,h3⟩
    ·exact .inr ⟨j,h1,h2,by rw[endN_at hy,if_neg hop,if_neg h7y];exact h3⟩
structure CxOk (C:Cx):Prop where
 len:C.p.length≤60
 small:smallT 1048576 (.lst 4 (C.p.map TLine.tr))
 line:∀(k:Nat) (ln:TLine),C.p[k]?=some ln→0≤ln.fKind∧ln.fKind≤7∧ln.fArgs.length≤4∧ln.fExpr.length≤20∧((ln.fKind=1∨ln.fKind=2∨ln.fKind=3∨ln.fKind=5∨ln.fKind=6)→exprOk ln.fExpr=true)
 fn:∀(g:Nat) (ln:TLine),C.p[g]?=some ln→ln.fKind=0→∃e,endAt C.p g=some e∧(localsOf C.p (g:Int)).length≤8∧ln.fArgs.length≤(localsOf C.p (g:Int)).length∧∀(k:Nat) (y:TLine),g < k→k < e→C.p[k]?=some y→y.fKind≠0∧(∀t∈y.fExpr,t.fKind=7→∃f,findN C.p 0 t.fName=some f∧(argsN C.p f:Int)=t.fNum)∧(y.fKind=4→∃i,g≤i∧i < k∧elseAt C.p i=some k)
 args:0≤C.args∧C.args≤4
 words:0≤C.words∧C.words≤1000
 inl:0≤C.b.fInline∧C.b.fInline≤3
structure ScOk (C:Cx) (x:Sc) (ins:List Nat):Prop where
 fn:∃ln,C.p[x.f]?=some ln∧ln.fKind=0
 loc:x.locals=localsOf C.p (x.f:Int)
 first:0≤x.first∧x.first≤8 * ins.length
 chain:x.chain.length+1=ins.length
 out:x.outer=true↔x.chain=[]
 args:x.outer=true→C.args=argsN C.p x.f
 mem:ins.getLast?=some x.f
section
variable {C:Cx} {x:Sc} {ins:List Nat}
theorem CxOk.argsN (h:CxOk C)(g:Nat):argsN C.p g≤4:=by
 unfold Go.Proofs.Ytjmplnfiabmalaa.argsN
 split
 ·rename_i l hl
  have:=h.line _ _ hl
  omega
 ·omega
theorem ScOk.endE (hC:CxOk C)(hx:ScOk C x ins):∃e,endAt C.p x.f=some e∧x.f < e∧e < C.p.length∧endL' C.p x.f=e∧x.locals.length≤8:=by
 obtain⟨ln,h1,h2⟩:=hx.fn
 obtain⟨e,h3,h4,h5,_⟩:=hC.fn _ _ h1 h2
 obtain⟨_,_,_,_,h6,h7⟩:=endAt_some h3
 exact⟨e,h3,h6,h7,by rw[endL',h3];rfl,by rw[hx.loc];exact h4⟩
theorem ScOk.argLe (hC:CxOk C)(hx:ScOk C x ins):argsN C.p x.f≤x.locals.length:=by
 obtain⟨ln,h1,h2⟩:=hx.fn
 obtain⟨e,h3,h4,h5,_⟩:=hC.fn _ _ h1 h2
 rw[hx.loc,Go.Proofs.Ytjmplnfiabmalaa.argsN,h1]
 exact h5
theorem ScOk.own7 (hC:CxOk C)(hx:ScOk C x ins){e k:Nat}{ln:TLine}(he:endAt C.p x.f=some e)(h1:x.f < k)(h2:k≤e)(hk:C.p[k]?=some ln)(h7:ln.fKind=7):
  endAt C.p (ownOf C.p k)=some k∧((k=e∧ownOf C.p k=x.f)∨(k < e∧x.f < ownOf C.p k∧ownOf C.p k < k∧∃y,C.p[ownOf C.p k]?=some y∧(y.fKind=3∨y.fKind=5))):=by
 obtain⟨l0,g1,g2⟩:=hx.fn
 obtain⟨e',g3,_,_,g4⟩:=hC.fn _ _ g1 g2
 rw[he]at g3
 injection g3 with g3
 subst g3
 by_cases hke:k=e
 ·subst hke
  rw[own_end he]
  exact⟨he,.inl ⟨rfl,rfl⟩⟩
 ·obtain⟨z,hz,hzo,hzn,_,_⟩:=endAt_some he
  rcases end_closes hk h7 _ (x.f+1) 1 e (Nat.le_refl _) (by omega) (Nat.le_refl _) hzn h2 with⟨i,k1,k2,k3⟩|⟨j,k1,k2,k3⟩
  ·rw[own_end k3]
   obtain⟨y,hy,hyo,_⟩:=endAt_some k3
   have:=(g4 i y (by omega) (by omega) hy).1
   rw[opensK_iff]at hyo
   exact⟨k3,.inr ⟨by omega,by omega,k2,y,hy,by omega⟩⟩
  ·have:j=1:=by omega
   subst this
   rw[hzn]at k3
   injection k3 with k3
   omega
theorem ScOk.own4 (hC:CxOk C)(hx:ScOk C x ins){e k:Nat}{ln:TLine}(he:endAt C.p x.f=some e)(h1:x.f < k)(h2:k≤e)(hk:C.p[k]?=some ln)(h4:ln.fKind=4):
  elseAt C.p (ownOf C.p k)=some k∧x.f < ownOf C.p k∧ownOf C.p k < k∧k < e:=by
 obtain⟨l0,g1,g2⟩:=hx.fn
 obtain⟨e',g3,_,_,g4⟩:=hC.fn _ _ g1 g2
 rw[he]at g3
 injection g3 with g3
 subst g3
 have hke:k≠e:=fun h=>by
  subst h
  obtain⟨y,hy,h7⟩:=endAt_kind he
  rw[hk]at hy
  injection hy with hy
  subst hy
  omega
 obtain⟨i,k1,k2,k3⟩:=(g4 k ln h1 (by omega) hk).2.2 h4
 rw[own_else k3]
 obtain⟨y,_,hy,h3,_⟩:=elseAt_some k3
 have:i≠x.f:=fun h=>by
  subst h
  rw[g1]at hy
  injection hy with hy
  subst hy
  omega
 exact⟨k3,by omega,k2,by omega⟩
end
end Go.Proofs.Ytjmplnfiabmalaa
namespace Go.Proofs.Ytjmplnfiabmalaa
open Go.Sim
set_option maxRecDepth 100000
set_option maxHeartbeats 4000000
structure Grow (n:Nat) (s s':Gs):Prop where
 ge:s.items.length≤s'.items.length
 le:s'.items.length≤s.items.length+n
 most:s.most≤s'.most
 cap:s.most≤1000→s'.most≤1000
theorem Grow.refl (s:Gs):Grow 0 s s:=⟨Nat.le_refl _,Nat.le_refl _,Int.le_refl _,id⟩
theorem Grow.trans {n m:Nat}{a b c:Gs}(h:Grow n a b)(h':Grow m b c):Grow (n+m) a c:=⟨Nat.le_trans h.ge h'.ge,by have:=h.le;have:=h'.le;omega,Int.le_trans h.most h'.most,fun x=>h'.cap (h.cap x)⟩
theorem Grow.mono {n m:Nat}{a b:Gs}(h:Grow n a b)(hn:n≤m):Grow m a b:=⟨h.ge,by have:=h.le;omega,h.most,h.cap⟩
theorem emitG_grow (C:Cx)(s:Gs)(d code arg line:Int)(chain:List Int):Grow 1 s (emitG C s d code arg line chain):=⟨by simp[emitG],by simp[emitG],Int.le_refl _,id⟩
theorem setArg_len' (l:List TItem)(j v:Int):(setArg l j v).length=l.length:=by
 unfold setArg
 split
 ·split
  ·rw[List.length_set]
  ·rfl
 ·rfl
theorem patchL_len (v:Int):∀(js:List Int) (l:List TItem),(patchL l v js).length=l.length
 | [],_=>rfl
 | j::js,l=>by rw[patchL,patchL_len v js,setArg_len']
def tokC:Nat→Nat
 | 0=>1
 | n+1=>30+9 * (20 * tokC n+3)
theorem tokC_pos:∀n,1≤tokC n
 | 0=>Nat.le_refl _
 | n+1=>by rw[tokC];omega
def isFun (C:Cx)(g:Nat):Prop:=∃ln,C.p[g]?=some ln∧ln.fKind=0
section
variable {C:Cx} {x:Sc} {ins:List Nat} {rep:Sc→List Nat→Nat→Nat→Int→Gs→Gs} {line:Nat} {lev:Nat}
theorem storesG_grow (y:Sc)(chain:List Int)(line:Int):∀(n:Nat) (d:Int) (s:Gs),Grow n s (storesG C y chain line n d s)
 | 0,d,s=>Grow.refl s
 | n+1,d,s=>by
  rw[storesG]
  exact((emitG_grow C s d _ _ _ _).trans (storesG_grow y chain line n (d - 1) _)).mono (by omega)
theorem zerosG_grow (y:Sc)(chain:List Int)(line d:Int):∀(n i:Nat) (s:Gs),Grow (2 * n) s (zerosG C y chain line d n i s)
 | 0,i,s=>Grow.refl s
 | n+1,i,s=>by
  rw[zerosG]
  exact(((emitG_grow C s d _ _ _ _).trans (emitG_grow C _ (d+1) _ _ _ _)).trans (zerosG_grow y chain line d n (i+1) _)).mono (by omega)
theorem finG_grow (hrep:∀g d s,isFun C g→replB C ins g s.items.length=true→Grow (tokC lev) s (rep x ins line g d s))(t:TTok)(d:Int)(s:Gs):Grow (tokC lev) s (finG C rep x ins line t d s):=by
 have hp:=tokC_pos lev
 unfold finG
 split
 ·exact(emitG_grow ..).mono hp
 ·split
  ·exact(emitG_grow ..).mono hp
  ·split
   ·split
    ·rename_i g hg
     split
     ·rename_i hr
      obtain⟨_,ln,h1,h2,_⟩:=find_some hg
      exact hrep g d s ⟨ln,h1,h2⟩ hr
     ·exact(emitG_grow ..).mono hp
    ·exact(Grow.refl s).mono (by omega)
   ·exact(emitG_grow ..).mono hp
mutual
theorem genE_grow (hrep:∀g d s,isFun C g→replB C ins g s.items.length=true→Grow (tokC lev) s (rep x ins line g d s)):∀(e:Ex) (d:Int) (s:Gs),Grow (e.toks.length * tokC lev) s (genE C rep x ins line e d s)
 | .node t es,d,s=>by
  rw[genE,Ex.toks,List.length_cons]
  exact((genEs_grow hrep es d s).trans (finG_grow hrep t _ _)).mono (by rw[Nat.add_mul];omega)
theorem genEs_grow (hrep:∀g d s,isFun C g→replB C ins g s.items.length=true→Grow (tokC lev) s (rep x ins line g d s)):∀(es:List Ex) (d:Int) (s:Gs),Grow ((exToks es).length * tokC lev) s (genEs C rep x ins line es d s)
 | [],d,s=>by rw[genEs,exToks];exact(Grow.refl s).mono (by omega)
 | a::es,d,s=>by
  rw[genEs,exToks,List.length_append,Nat.add_mul]
  exact(genE_grow hrep a d s).trans (genEs_grow hrep es (d+1) _)
end
theorem exToks_take_get:∀{es:List Ex} {j:Nat} {a:Ex},es[j]?=some a→(exToks (es.take (j+1))).length=(exToks (es.take j)).length+a.toks.length
 | [],_,_,h=>by simp at h
 | b::es,0,a,h=>by
  rw[List.getElem?_cons_zero]at h
  injection h with h
  subst h
  simp[exToks]
 | b::es,j+1,a,h=>by
  rw[List.getElem?_cons_succ]at h
  rw[List.take_succ_cons,exToks,List.length_append,exToks_take_get h,List.take_succ_cons,exToks,List.length_append]
  omega
theorem inSc_ok (hC:CxOk C)(hx:ScOk C x ins)(line:Nat){g:Nat}(hg:isFun C g):ScOk C (inSc C x line g) (ins++[g]):=by
 obtain⟨e,_,_,_,_,h8⟩:=hx.endE hC
 have hle:=hx.argLe hC
 refine⟨hg,rfl,?_,?_,?_,?_,by simp[inSc]⟩
 ·simp only[inSc,topOf,List.length_append,List.length_cons,List.length_nil]
  have:=hx.first
  split
  ·rename_i ho
   rw[hx.args ho]
   omega
  ·omega
 ·simp only[inSc,List.length_append,List.length_cons,List.length_nil]
  have:=hx.chain
  omega
 ·simp[inSc]
 ·simp[inSc]
theorem topOf_le (hC:CxOk C)(hx:ScOk C x ins):0≤topOf C x∧topOf C x≤8 * ins.length+8:=by
 obtain⟨e,_,_,_,_,h8⟩:=hx.endE hC
 have hle:=hx.argLe hC
 have:=hx.first
 unfold topOf
 split
 ·rename_i ho
  rw[hx.args ho]
  omega
 ·omega
theorem isFun_locals (hC:CxOk C){g:Nat}(hg:isFun C g):(localsOf C.p (g:Int)).length≤8∧argsN C.p g≤(localsOf C.p (g:Int)).length:=by
 obtain⟨ln,h1,h2⟩:=hg
 obtain⟨e,h3,h4,h5,_⟩:=hC.fn _ _ h1 h2
 rw[argsN,h1]
 exact⟨h4,h5⟩
theorem preG_grow (hC:CxOk C)(hx:ScOk C x ins)(hi:ins.length≤10)(line:Nat){g:Nat}(hg:isFun C g)(d:Int)(s:Gs):Grow 16 s (preG C x line g d s):=by
 obtain⟨h1,h2⟩:=isFun_locals hC hg
 have ht:=topOf_le hC hx
 have h0:Grow 0 s ⟨s.items,max s.most (topOf C x+(localsOf C.p (g:Int)).length),s.start⟩:=⟨Nat.le_refl _,Nat.le_refl _,by dsimp only;omega,fun h=>by dsimp only;omega⟩
 unfold preG
 exact((h0.trans (storesG_grow _ _ _ _ _ _)).trans (zerosG_grow _ _ _ _ _ _ _)).mono (by omega)
theorem spaceG_grow (x:Sc)(line:Nat)(d:Int)(s:Gs):Grow 1 s (spaceG C x line d s):=by
 unfold spaceG
 split
 ·exact emitG_grow ..
 ·exact(Grow.refl s).mono (by omega)
theorem leaveG_grow (x:Sc)(k:Nat)(last:Bool)(d:Int)(L:Ls):Grow 1 L.g (leaveG C x k last d L).g:=by
 unfold leaveG
 split
 ·split
  ·exact emitG_grow ..
  ·exact emitG_grow ..
 ·split
  ·exact(Grow.refl _).mono (by omega)
  ·exact emitG_grow ..
theorem Grow.set {n:Nat}{a b:Gs}{l:List TItem}(h:Grow n a b)(hl:l.length=b.items.length):Grow n a ⟨l,b.most,b.start⟩:=⟨by have:=h.ge;simp only[hl];omega,by have:=h.le;simp only[hl];omega,h.most,h.cap⟩
theorem genE_grow' (hrep:∀g d s,isFun C g→replB C ins g s.items.length=true→Grow (tokC lev) s (rep x ins line g d s))(hC:CxOk C){k:Nat}{ln:TLine}(hk:C.p[k]?=some ln)(he:exprOk ln.fExpr=true)(d:Int)(s:Gs):Grow (20 * tokC lev) s (genE C rep x ins line (exL ln.fExpr) d s):=by
 have h1:=(exL_ok he).2
 have h2:=(hC.line _ _ hk).2.2.2.1
 rw[h1]at h2
 exact(genE_grow hrep _ d s).mono (Nat.mul_le_mul_right _ h2)
theorem stepA_grow (hrep:∀line g d s,isFun C g→replB C ins g s.items.length=true→Grow (tokC lev) s (rep x ins line g d s))(hC:CxOk C){k:Nat}{ln:TLine}(hk:C.p[k]?=some ln)(h0:ln.fKind≠0)(base:Int)(L:Ls):Grow (20 * tokC lev+2) L.g (stepA C rep x ins base k ln L).g:=by
 unfold stepA
 split
 ·exact((emitG_grow ..).set (setArg_len' _ _ _)).mono (by omega)
 ·split
  ·split
   ·refine Grow.mono (n:=1+1) ?_ (by omega)
    exact(emitG_grow ..).trans (leaveG_grow x k true (base+1) {L with g:=emitG C L.g base 0 0 k x.chain})
   ·split
    ·exact(emitG_grow ..).mono (by omega)
    ·exact(Grow.refl _).mono (by omega)
  ·rename_i h4 h7
   have hl:=hC.line _ _ hk
   have h20:Grow (20 * tokC lev) L.g (genE C rep x ins k (exL ln.fExpr) base ⟨L.g.items,L.g.most,true⟩):=by
    have:=genE_grow' (fun g d s=>hrep k g d s) hC hk (hl.2.2.2.2 (by omega)) base ⟨L.g.items,L.g.most,true⟩
    exact⟨this.ge,this.le,this.most,this.cap⟩
   split
   ·exact(h20.trans (emitG_grow ..)).mono (by omega)
   ·split
    ·exact(h20.trans (emitG_grow ..)).mono (by omega)
    ·split
     ·refine Grow.mono (n:=20 * tokC lev+1) ?_ (by omega)
      exact h20.trans (leaveG_grow x k false (base+1) {L with g:=genE C rep x ins k (exL ln.fExpr) base ⟨L.g.items,L.g.most,true⟩,heads:=L.heads.set k L.g.items.length})
     ·exact(h20.trans (emitG_grow ..)).mono (by omega)
theorem stepB_grow (k:Nat)(ln:TLine)(L:Ls):Grow 0 L.g (stepB C x k ln L).g:=by
 unfold stepB
 split
 ·exact(Grow.refl _).set (setArg_len' _ _ _)
 ·exact Grow.refl _
theorem runL_grow (hrep:∀line g d s,isFun C g→replB C ins g s.items.length=true→Grow (tokC lev) s (rep x ins line g d s))(hC:CxOk C)(base:Int):∀(n k:Nat) (L:Ls),(∀i y,k≤i→i < k+n→C.p[i]?=some y→y.fKind≠0)→Grow (n * (20 * tokC lev+3)) L.g (runL C rep x ins base n k L).g
 | 0,k,L,_=>(Grow.refl _).mono (by omega)
 | n+1,k,L,h=>by
  rw[runL]
  split
  ·rename_i ln hk
   exact(((stepA_grow hrep hC hk (h k ln (Nat.le_refl _) (by omega) hk) base L).trans (stepB_grow k ln _)).trans (runL_grow hrep hC base n (k+1) _ fun i y h1 h2 hy=>h i y (by omega) (by omega) hy)).mono (by rw[Nat.add_mul];omega)
  ·exact(Grow.refl _).mono (by omega)
theorem linesG_grow (hrep:∀line g d s,isFun C g→replB C ins g s.items.length=true→Grow (tokC lev) s (rep x ins line g d s))(hC:CxOk C)(hx:ScOk C x ins)(base:Int)(s:Gs):Grow ((endL' C.p x.f - x.f) * (20 * tokC lev+3)) s (linesG C rep x ins base s).1:=by
 unfold linesG
 obtain⟨ln,h1,h2⟩:=hx.fn
 obtain⟨e,h3,_,_,h4⟩:=hC.fn _ _ h1 h2
 obtain⟨e',g3,_,_,g5,_⟩:=hx.endE hC
 rw[h3]at g3
 injection g3 with g3
 subst g3
 rw[g5]
 refine runL_grow hrep hC base (e - x.f) (x.f+1) (startL C s) fun i y k1 k2 hy=>?_
 by_cases hie:i=e
 ·subst hie
  obtain⟨z,hz,h7⟩:=endAt_kind h3
  rw[hy]at hz
  injection hz with hz
  subst hz
  omega
 ·exact(h4 i y (by omega) (by omega) hy).1
end
theorem replB_spec {C:Cx}{ins:List Nat}{g n:Nat}(h:replB C ins g n=true):(ins.length:Int)≤C.b.fInline∧endOf C.p (g:Int) - g≤9∧n < 200∧g∉ins:=by
 unfold replB at h
 simp only[Bool.and_eq_true,decide_eq_true_eq,Bool.not_eq_true',List.contains_eq_mem,decide_eq_false_iff_not]at h
 exact⟨h.1,h.2.1,h.2.2.1,h.2.2.2⟩
theorem repN_grow {C:Cx}(hC:CxOk C):∀(lev:Nat) {x:Sc} {ins:List Nat} (line g:Nat) (d:Int) (s:Gs),ScOk C x ins→isFun C g→replB C ins g s.items.length=true→Grow (tokC lev) s (repN C lev x ins line g d s)
 | 0,x,ins,line,g,d,s,hx,hg,hr=>(Grow.refl s).mono (by omega)
 | lev+1,x,ins,line,g,d,s,hx,hg,hr=>by
  obtain⟨r1,r2,_,_⟩:=replB_spec hr
  have hin:=hC.inl
  have hy:=inSc_ok hC hx line hg
  have h1:=preG_grow hC hx (by omega) line hg d s
  have h2:=spaceG_grow (C:=C) x line (d - argsN C.p g) (preG C x line g d s)
  have h3:=linesG_grow (lev:=lev) (rep:=repN C lev) (fun line g d s hg hr=>repN_grow hC lev line g d s hy hg hr) hC hy (d - argsN C.p g) (spaceG C x line (d - argsN C.p g) (preG C x line g d s))
  obtain⟨e,e1,e2,e3,e4,_⟩:=hy.endE hC
  have e5:endOf C.p (g:Int)=(e:Int):=by rw[endOf_at];exact endI_some e1
  have e6:endL' C.p (inSc C x line g).f - (inSc C x line g).f≤9:=by rw[e4];show e - g≤9;omega
  have h4:=((h1.trans h2).trans h3).mono (m:=tokC (lev+1)) (by
   rw[tokC]
   have:=Nat.mul_le_mul_right (20 * tokC lev+3) e6
   omega)
  show Grow _ s (replG C (linesG C (repN C lev)) x ins line g d s)
  unfold replG
  exact h4.set (patchL_len _ _ _)
def lvOk (L:Ls):Prop:=L.lv.length≤L.g.items.length∧∀j∈L.lv,0≤j∧j < L.g.items.length
section
variable {C:Cx} {x:Sc} {ins:List Nat} {rep:Sc→List Nat→Nat→Nat→Int→Gs→Gs} {lev:Nat}
theorem lvOk.grow {n:Nat}{L L':Ls}(h:lvOk L)(hl:L'.lv=L.lv)(hg:Grow n L.g L'.g):lvOk L':=⟨by rw[hl];exact Nat.le_trans h.1 hg.ge,fun j hj=>by
 rw[hl]at hj
 have:=h.2 j hj
 have:=hg.ge
 omega⟩
theorem leaveG_lv {L:Ls}(h:lvOk L)(k:Nat)(last:Bool)(d:Int):lvOk (leaveG C x k last d L):=by
 have hg:=leaveG_grow (C:=C) x k last d L
 unfold leaveG at hg ⊢
 split
 ·rename_i ho
  rw[if_pos ho]at hg
  split
  ·rename_i hf;rw[if_pos hf]at hg;exact h.grow rfl hg
  ·rename_i hf;rw[if_neg hf]at hg;exact h.grow rfl hg
 ·split
  ·exact h
  ·refine⟨by have:=h.1;simp only[emitG,List.length_append,List.length_cons,List.length_nil];omega,?_⟩
   intro j hj
   simp only[List.mem_append,List.mem_cons,List.not_mem_nil,or_false]at hj
   simp only[emitG,List.length_append,List.length_cons,List.length_nil]
   rcases hj with hj|rfl
   ·have:=h.2 j hj;omega
   ·omega
theorem stepA_lv (hrep:∀line g d s,isFun C g→replB C ins g s.items.length=true→Grow (tokC lev) s (rep x ins line g d s))(hC:CxOk C){k:Nat}{ln:TLine}(hk:C.p[k]?=some ln)(h0:ln.fKind≠0)(base:Int){L:Ls}(h:lvOk L):lvOk (stepA C rep x ins base k ln L):=by
 have hg:=stepA_grow (x:=x) (ins:=ins) (rep:=rep) (lev:=lev) hrep hC hk h0 base L
 unfold stepA at hg ⊢
 split
 ·rename_i h4;rw[if_pos h4]at hg;exact h.grow rfl hg
 ·rename_i h4
  rw[if_neg h4]at hg
  split
  ·rename_i h7
   rw[if_pos h7]at hg
   split
   ·exact leaveG_lv (h.grow (L':={L with g:=emitG C L.g base 0 0 k x.chain}) rfl (emitG_grow ..)) _ _ _
   ·rename_i ho
    rw[if_neg ho]at hg
    split
    ·rename_i h5;rw[if_pos h5]at hg;exact h.grow rfl hg
    ·exact h
  ·rename_i h7
   have hl:=hC.line _ _ hk
   have h20:=genE_grow' (x:=x) (ins:=ins) (rep:=rep) (line:=k) (lev:=lev) (fun g d s=>hrep k g d s) hC hk (hl.2.2.2.2 (by omega)) base ⟨L.g.items,L.g.most,true⟩
   have hL1:lvOk {L with g:=genE C rep x ins k (exL ln.fExpr) base ⟨L.g.items,L.g.most,true⟩,heads:=L.heads.set k L.g.items.length}:=h.grow rfl ⟨h20.ge,h20.le,h20.most,h20.cap⟩
   split
   ·exact hL1.grow rfl (emitG_grow ..)
   ·split
    ·exact hL1.grow rfl (emitG_grow ..)
    ·split
     ·exact leaveG_lv hL1 _ _ _
     ·exact hL1.grow rfl (emitG_grow ..)
theorem stepB_lv (k:Nat)(ln:TLine){L:Ls}(h:lvOk L):lvOk (stepB C x k ln L):=by
 have hg:=stepB_grow (C:=C) (x:=x) k ln L
 unfold stepB at hg ⊢
 split
 ·rename_i h1;rw[if_pos h1]at hg;exact h.grow rfl hg
 ·exact h
theorem lines_kinds (hC:CxOk C)(hx:ScOk C x ins){e:Nat}(he:endAt C.p x.f=some e){i:Nat}{y:TLine}(h1:x.f+1≤i)(h2:i≤e)(hy:C.p[i]?=some y):y.fKind≠0:=by
 obtain⟨ln,g1,g2⟩:=hx.fn
 obtain⟨e',h3,_,_,h4⟩:=hC.fn _ _ g1 g2
 rw[he]at h3
 injection h3 with h3
 subst h3
 by_cases hie:i=e
 ·subst hie
  obtain⟨z,hz,h7⟩:=endAt_kind he
  rw[hy]at hz
  injection hz with hz
  subst hz
  omega
 ·exact(h4 i y (by omega) (by omega) hy).1
end
end Go.Proofs.Ytjmplnfiabmalaa
namespace Go.Proofs.Ytjmplnfiabmalaa
open Go.Sim
set_option maxRecDepth 100000
set_option maxHeartbeats 4000000
def jumps (p:List TLine)(i:Nat):Prop:=kindAt p i=3∨kindAt p i=4∨kindAt p i=5
instance (p:List TLine) (i:Nat):Decidable (jumps p i):=by unfold jumps;infer_instance
theorem atL_set {l:List Int}{k i:Nat}{v:Int}(h:i≠k):atL (l.set k v) i=atL l i:=by
 unfold atL
 rw[List.getElem?_set_ne (fun e=>h e.symm)]
theorem atL_self {l:List Int}{k:Nat}{v:Int}(h:k < l.length):atL (l.set k v) k=v:=by
 unfold atL
 rw[List.getElem?_set_self h]
 rfl
theorem kindAt_of {p:List TLine}{k:Nat}{ln:TLine}(h:p[k]?=some ln):kindAt p k=ln.fKind:=by rw[kindAt,h]
theorem elseOf_at {p:List TLine}{i:Nat}:elseOf p (i:Int)=endI (elseAt p i):=by rw[elseOf,if_pos (by omega),Int.toNat_natCast]
theorem elseAt_not {p:List TLine}{i:Nat}(h:kindAt p i≠3):elseAt p i=none:=by
 cases he:elseAt p i with
 | none=>rfl
 | some j=>
  obtain⟨y,_,hy,h3,_⟩:=elseAt_some he
  exact absurd (by rw[kindAt_of hy];exact h3) h
section
variable {C:Cx} {x:Sc} {ins:List Nat}
structure LInv (C:Cx) (lev:Nat) (x:Sc) (ins:List Nat) (d:Int) (e:Nat) (R:Ls) (k:Nat) (L:Ls):Prop where
 lo:x.f+1≤k
 hi:k≤e+1
 heads:L.heads.length=C.p.length
 pos:L.pos.length=C.p.length
 at_:∀i,x.f < i→i < k→jumps C.p i→0≤atL L.pos i∧atL L.pos i < L.g.items.length
 lv:lvOk L
 room:L.g.items.length+(e+1 - k) * (20 * tokC lev+3)≤68719476736
 fin:runL C (repN C lev) x ins d (e+1 - k) k L=R
theorem stepA_lens (rep:Sc→List Nat→Nat→Nat→Int→Gs→Gs)(base:Int)(k:Nat)(ln:TLine)(L:Ls):(stepA C rep x ins base k ln L).heads.length=L.heads.length∧(stepA C rep x ins base k ln L).pos.length=L.pos.length:=by
 unfold stepA leaveG
 repeat' split
 all_goals simp
theorem stepB_lens (k:Nat)(ln:TLine)(L:Ls):(stepB C x k ln L).heads=L.heads∧(stepB C x k ln L).pos=L.pos∧(stepB C x k ln L).lv=L.lv∧(stepB C x k ln L).g.items.length=L.g.items.length∧(stepB C x k ln L).g.most=L.g.most∧(stepB C x k ln L).g.start=L.g.start:=by
 unfold stepB
 split
 ·exact⟨rfl,rfl,rfl,setArg_len' _ _ _,rfl,rfl⟩
 ·exact⟨rfl,rfl,rfl,rfl,rfl,rfl⟩
theorem stepA_at (rep:Sc→List Nat→Nat→Nat→Int→Gs→Gs)(base:Int)(k:Nat)(ln:TLine)(L:Ls)(hp:k < L.pos.length)(i:Nat):
  (i≠k→atL (stepA C rep x ins base k ln L).pos i=atL L.pos i)∧((ln.fKind=3∨ln.fKind=4∨ln.fKind=5)→0≤atL (stepA C rep x ins base k ln L).pos k∧atL (stepA C rep x ins base k ln L).pos k < (stepA C rep x ins base k ln L).g.items.length):=by
 unfold stepA
 by_cases h4:ln.fKind=4
 ·rw[if_pos h4]
  refine⟨fun hi=>atL_set hi,fun _=>?_⟩
  simp only[atL_self hp,setArg_len',emitG,List.length_append,List.length_cons,List.length_nil]
  omega
 ·rw[if_neg h4]
  by_cases h7:ln.fKind=7
  ·rw[if_pos h7]
   refine⟨fun _=>?_,fun h=>by omega⟩
   unfold leaveG
   repeat' split
   all_goals rfl
  ·rw[if_neg h7]
   by_cases h1:ln.fKind=1
   ·rw[if_pos h1]
    exact⟨fun _=>rfl,fun h=>by omega⟩
   ·rw[if_neg h1]
    by_cases h2:ln.fKind=2
    ·rw[if_pos h2]
     exact⟨fun _=>rfl,fun h=>by omega⟩
    ·rw[if_neg h2]
     by_cases h6:ln.fKind=6
     ·rw[if_pos h6]
      refine⟨fun _=>?_,fun h=>by omega⟩
      unfold leaveG
      repeat' split
      all_goals rfl
     ·rw[if_neg h6]
      refine⟨fun hi=>atL_set hi,fun _=>?_⟩
      simp only[atL_self hp,emitG,List.length_append,List.length_cons,List.length_nil]
      omega
theorem LInv.next (hC:CxOk C)(hx:ScOk C x ins){lev e k:Nat}{d:Int}{R L:Ls}{ln:TLine}(he:endAt C.p x.f=some e)(h:LInv C lev x ins d e R k L)(hk:k≤e)(hl:C.p[k]?=some ln):LInv C lev x ins d e R (k+1) (stepB C x k ln (stepA C (repN C lev) x ins d k ln L)):=by
 have h0:=lines_kinds hC hx he h.lo hk hl
 have hrep:∀line g d s,isFun C g→replB C ins g s.items.length=true→Grow (tokC lev) s (repN C lev x ins line g d s):=fun line g d s hg hr=>repN_grow hC lev line g d s hx hg hr
 have hA:=stepA_grow (lev:=lev) (rep:=repN C lev) hrep hC hl h0 d L
 obtain⟨b1,b2,b3,b4,b5,b6⟩:=stepB_lens (C:=C) (x:=x) k ln (stepA C (repN C lev) x ins d k ln L)
 obtain⟨a1,a2⟩:=stepA_lens (C:=C) (x:=x) (ins:=ins) (repN C lev) d k ln L
 have hge:=hA.ge
 have hle:=hA.le
 have hr:=h.room
 refine⟨by have:=h.lo;omega,by omega,by rw[b1,a1];exact h.heads,by rw[b2,a2];exact h.pos,fun i h1 h2 hj=>?_,stepB_lv k ln (stepA_lv (lev:=lev) hrep hC hl h0 d h.lv),?_,?_⟩
 ·rw[b2,b4]
  obtain⟨p1,p2⟩:=stepA_at (C:=C) (x:=x) (ins:=ins) (repN C lev) d k ln L (by rw[h.pos];exact lt_of_get hl) i
  by_cases hik:i=k
  ·subst hik
   refine p2 ?_
   unfold jumps at hj
   rw[kindAt_of hl]at hj
   exact hj
  ·rw[p1 hik]
   have:=h.at_ i h1 (by omega) hj
   omega
 ·rw[b4]
  obtain⟨n,hn⟩:∃n,e+1 - k=n+1:=⟨e - k,by omega⟩
  rw[hn,Nat.add_mul]at hr
  rw[show e+1 - (k+1)=n by omega]
  omega
 ·have hf:=h.fin
  obtain⟨n,hn⟩:∃n,e+1 - k=n+1:=⟨e - k,by omega⟩
  rw[hn,runL,hl]at hf
  rw[show e+1 - (k+1)=n by omega]
  exact hf
end
end Go.Proofs.Ytjmplnfiabmalaa
namespace Go.Proofs.Ytjmplnfiabmalaa
open Go.Sim
set_option maxRecDepth 100000
set_option maxHeartbeats 4000000
structure PgOk (p:List TLine):Prop where
 len:p.length≤60
 small:smallT 1048576 (.lst 4 (p.map TLine.tr))
 line:∀(k:Nat) (ln:TLine),p[k]?=some ln→0≤ln.fKind∧ln.fKind≤7∧ln.fArgs.length≤4∧ln.fExpr.length≤20∧((ln.fKind=1∨ln.fKind=2∨ln.fKind=3∨ln.fKind=5∨ln.fKind=6)→exprOk ln.fExpr=true)
 fn:∀(g:Nat) (ln:TLine),p[g]?=some ln→ln.fKind=0→∃e,endAt p g=some e∧(localsOf p (g:Int)).length≤8∧ln.fArgs.length≤(localsOf p (g:Int)).length∧∀(k:Nat) (y:TLine),g < k→k < e→p[k]?=some y→y.fKind≠0∧(∀t∈y.fExpr,t.fKind=7→∃f,findN p 0 t.fName=some f∧(argsN p f:Int)=t.fNum)∧(y.fKind=4→∃i,g≤i∧i < k∧elseAt p i=some k)
theorem PgOk.cx {p:List TLine}(h:PgOk p){b:TBuild}{framed:Bool}{words args:Int}(ha:0≤args∧args≤4)(hw:0≤words∧words≤1000)(hi:0≤b.fInline∧b.fInline≤3):CxOk ⟨p,b,framed,words,args⟩:=
 ⟨h.len,h.small,h.line,h.fn,ha,hw,hi⟩
theorem chain_funs {F:Nat→Nat→Bool}{l:List TLine}(hF:∀k e,endAt l k=some e→F k e=true→∀i x,k < i→i < e→l[i]?=some x→x.fKind≠0):∀(n k:Nat),chainN F l n k=true→∀g x,k≤g→l[g]?=some x→x.fKind=0→∃e,endAt l g=some e∧F g e=true
 | 0,k,h,g,x,hk,hg,_=>by
  rw[chainN,decide_eq_true_eq]at h
  have:=lt_of_get hg
  omega
 | n+1,k,h,g,x,hk,hg,h0=>by
  rw[chainN,if_pos (by have:=lt_of_get hg;omega)]at h
  split at h
  ·rename_i y e hy he
   split at h
   ·rename_i hc
    by_cases hgk:g=k
    ·subst hgk;exact⟨e,he,hc.2⟩
    ·by_cases hge:g≤e
     ·by_cases hge2:g=e
      ·subst hge2
       obtain⟨z,hz,h7⟩:=endAt_kind he
       rw[hg]at hz
       injection hz with hz
       subst hz
       omega
      ·exact absurd h0 (hF k e he hc.2 g x (by omega) (by omega) hg)
     ·exact chain_funs hF n (e+1) h g x (by omega) hg h0
   ·cases h
  ·cases h
theorem body_known {l:List TLine}{locals:List (List UInt8)}{e:Nat}:∀(n i d:Nat),e - i≤n→e≤l.length→bodyN l locals e n i d=true→∀j x,i≤j→j < e→l[j]?=some x→exprKnown l locals x.fExpr=true
 | 0,i,d,hn,_,_,j,x,h1,h2,_=>by omega
 | n+1,i,d,hn,he,hb,j,x,h1,h2,hx=>by
  rw[bodyN,if_pos (by omega)]at hb
  obtain⟨y,hy⟩:=get_of_lt (l:=l) (k:=i) (by omega)
  rw[hy]at hb
  dsimp only at hb
  split at hb
  ·cases hb
  ·split at hb
   ·rename_i hk
    by_cases hj:j=i
    ·subst hj
     rw[hy]at hx
     injection hx with hx
     subst hx
     exact hk.2
    ·exact body_known n (i+1) _ (by omega) he hb j x (by omega) h2 hx
   ·cases hb
theorem addName_ge (acc:List (List UInt8))(s:List UInt8):acc.length≤(addName acc s).length:=by
 unfold addName
 split <;> simp
theorem locN_ge {l:List TLine}{e:Nat}:∀(n i:Nat) (acc:List (List UInt8)),acc.length≤(locN l e n i acc).length
 | 0,_,_=>by simp[locN]
 | n+1,i,acc=>by
  rw[locN]
  split
  ·split
   ·refine Nat.le_trans ?_ (locN_ge n _ _)
    split
    ·exact addName_ge _ _
    ·exact Nat.le_refl _
   ·exact Nat.le_refl _
  ·exact Nat.le_refl _
theorem hasExpr_iff {k:Int}:hasExpr k=true↔(k=1∨k=2∨k=3∨k=5∨k=6):=by
 unfold hasExpr
 simp
theorem lineOk_facts {x:TLine}(h:lineOk x=true):0≤x.fKind∧x.fKind≤7∧x.fArgs.length≤4∧x.fExpr.length≤20∧((x.fKind=1∨x.fKind=2∨x.fKind=3∨x.fKind=5∨x.fKind=6)→exprOk x.fExpr=true):=by
 have h4:x.fArgs.length≤4:=by
  rcases Nat.lt_or_ge 4 x.fArgs.length with h'|h'
  ·rw[lineOk_args h']at h;cases h
  ·exact h'
 unfold lineOk at h
 simp only[Bool.and_eq_true,within_iff]at h
 obtain⟨⟨h1,h2⟩,_,_,h3⟩:=h
 refine⟨h1,h2,h4,?_,fun hk=>by rw[if_pos (hasExpr_iff.2 hk)]at h3;exact h3⟩
 split at h3
 ·unfold exprOk at h3
  simp only[Bool.and_eq_true,decide_eq_true_eq]at h3
  exact h3.1
 ·have:=eq_of_beq h3
  omega
theorem PgOk_of {p:List TLine}(hs:smallT 1048576 (.lst 4 (p.map TLine.tr)))(h:programOk p=true):PgOk p:=by
 unfold programOk at h
 simp only[Bool.and_eq_true,decide_eq_true_eq]at h
 obtain⟨h1,_,h2,_,_,h3,h4⟩:=h
 have hS:=chainS_all p
 rw[h3,h4]at hS
 have hlines:∀(k:Nat) (ln:TLine),p[k]?=some ln→0≤ln.fKind∧ln.fKind≤7∧ln.fArgs.length≤4∧ln.fExpr.length≤20∧((ln.fKind=1∨ln.fKind=2∨ln.fKind=3∨ln.fKind=5∨ln.fKind=6)→exprOk ln.fExpr=true):=fun k ln hk=>lineOk_facts (List.all_eq_true.1 h2 ln (List.mem_of_getElem? hk))
 have hlt:∀k e,endAt p k=some e→e≤p.length:=fun k e he=>by obtain⟨_,_,_,_,_,h⟩:=endAt_some he;omega
 have hF:∀k e,endAt p k=some e→fnOkS p k e=true→∀i x,k < i→i < e→p[i]?=some x→x.fKind≠0:=fun k e he hf=>by
  rw[fnOkS_eq,Bool.and_eq_true]at hf
  exact fnOk_nofun hf.1 (hlt k e he)
 refine⟨h1,hs,hlines,fun g ln hg h0=>?_⟩
 obtain⟨e,he,hf⟩:=chain_funs hF p.length 0 hS g ln (Nat.zero_le _) hg h0
 have hf':=hf
 rw[fnOkS_eq,Bool.and_eq_true]at hf'
 obtain⟨hf1,hf2⟩:=hf'
 have hf1':=hf1
 rw[fnOk,Bool.and_eq_true,decide_eq_true_eq]at hf1'
 obtain⟨hl8,hbody⟩:=hf1'
 refine⟨e,he,hl8,?_,fun k y hk1 hk2 hy=>⟨hF g e he hf k y hk1 hk2 hy,fun t ht h7=>?_,fun h4'=>?_⟩⟩
 ·unfold localsOf
  rw[if_pos (by omega),Int.toNat_natCast,hg,he]
  dsimp only
  rw[if_pos h0]
  exact locN_ge _ _ _
 ·have hkn:=body_known (e - (g+1)) (g+1) 0 (Nat.le_refl _) (hlt g e he) hbody k y (by omega) hk2 hy
  unfold exprKnown at hkn
  have:=List.all_eq_true.1 hkn t ht
  unfold tokKnown at this
  rw[if_neg (by omega),if_pos h7]at this
  split at this
  ·rename_i f hfi
   refine⟨f,hfi,?_⟩
   unfold argsN
   split at this
   ·rename_i x hx
    (try rw[hx])
    exact eq_of_beq this
   ·cases this
  ·cases this
 ·have:=(elsesIn_iff (Nat.le_refl _)).1 hf2 k y (by omega) hk2 hy h4'
  rw[anyE_iff]at this
  obtain⟨i,i1,i2,i3⟩:=this
  exact⟨i,i1,by omega,i3⟩
def alike (p q:List TLine):Prop:=p.map (fun x=>(x.fKind,x.fName,x.fArgs))=q.map (fun x=>(x.fKind,x.fName,x.fArgs))
theorem alike.len {p q:List TLine}(h:alike p q):p.length=q.length:=by simpa using congrArg List.length h
theorem alike.get {p q:List TLine}(h:alike p q){k:Nat}{x:TLine}(hx:p[k]?=some x):∃y,q[k]?=some y∧x.fKind=y.fKind∧x.fName=y.fName∧x.fArgs=y.fArgs:=by
 have:=congrArg (·[k]?) h
 simp only[List.getElem?_map,hx,Option.map_some]at this
 cases hy:q[k]? with
 | none=>rw[hy]at this;cases this
 | some y=>
  rw[hy]at this
  simp only[Option.map_some,Option.some.injEq,Prod.mk.injEq]at this
  exact⟨y,rfl,this.1,this.2.1,this.2.2⟩
theorem alike.none {p q:List TLine}(h:alike p q){k:Nat}(hx:p[k]?=none):q[k]?=none:=by
 rw[List.getElem?_eq_none_iff]at hx ⊢
 have:=h.len
 omega
theorem alike.symm {p q:List TLine}(h:alike p q):alike q p:=Eq.symm h
theorem alike.drop {p q:List TLine}(h:alike p q)(n:Nat):alike (p.drop n) (q.drop n):=by
 unfold alike at *
 rw[List.map_drop,List.map_drop,h]
theorem alike.endN:∀{p q:List TLine},alike p q→∀(i o:Nat),endN p i o=endN q i o
 | [],[],_,_,_=>rfl
 | x::p,y::q,h,i,o=>by
  simp only[alike,List.map_cons,List.cons.injEq,Prod.mk.injEq]at h
  have ih:=alike.endN (p:=p) (q:=q) h.2
  rw[Go.Proofs.Ytjmplnfiabmalaa.endN,Go.Proofs.Ytjmplnfiabmalaa.endN,h.1.1,ih,ih,ih]
 | [],_::_,h,_,_=>by simp[alike]at h
 | _::_,[],h,_,_=>by simp[alike]at h
theorem alike.endAt {p q:List TLine}(h:alike p q)(k:Nat):endAt p k=endAt q k:=by
 unfold Go.Proofs.Ytjmplnfiabmalaa.endAt
 cases hx:p[k]? with
 | none=>rw[h.none hx]
 | some x=>
  obtain⟨y,hy,e1,_⟩:=h.get hx
  rw[hy]
  dsimp only
  rw[e1,(h.drop (k+1)).endN]
theorem alike.elseN {p q:List TLine}(h:alike p q){e:Nat}:∀(n i:Nat),elseN p e n i=elseN q e n i
 | 0,_=>rfl
 | n+1,i=>by
  rw[Go.Proofs.Ytjmplnfiabmalaa.elseN,Go.Proofs.Ytjmplnfiabmalaa.elseN]
  cases hx:p[i]? with
  | none=>rw[h.none hx]
  | some x=>
   obtain⟨y,hy,e1,_⟩:=h.get hx
   rw[hy]
   dsimp only
   rw[e1,h.endAt i]
   cases Go.Proofs.Ytjmplnfiabmalaa.endAt q i with
   | none=>dsimp only;rw[alike.elseN h n]
   | some m=>dsimp only;rw[alike.elseN h n,alike.elseN h n]
theorem alike.elseAt {p q:List TLine}(h:alike p q)(k:Nat):elseAt p k=elseAt q k:=by
 unfold Go.Proofs.Ytjmplnfiabmalaa.elseAt
 rw[h.endAt k]
 cases hx:p[k]? with
 | none=>rw[h.none hx]
 | some x=>
  obtain⟨y,hy,e1,_⟩:=h.get hx
  rw[hy]
  cases Go.Proofs.Ytjmplnfiabmalaa.endAt q k with
  | none=>rfl
  | some e=>dsimp only;rw[e1,h.elseN]
theorem alike.findN:∀{p q:List TLine},alike p q→∀(i:Nat) (s:List UInt8),findN p i s=findN q i s
 | [],[],_,_,_=>rfl
 | x::p,y::q,h,i,s=>by
  simp only[alike,List.map_cons,List.cons.injEq,Prod.mk.injEq]at h
  have ih:=alike.findN (p:=p) (q:=q) h.2
  rw[Go.Proofs.Ytjmplnfiabmalaa.findN,Go.Proofs.Ytjmplnfiabmalaa.findN,h.1.1,h.1.2.1,ih]
 | [],_::_,h,_,_=>by simp[alike]at h
 | _::_,[],h,_,_=>by simp[alike]at h
theorem alike.locN {p q:List TLine}(h:alike p q){e:Nat}:∀(n i:Nat) (acc:List (List UInt8)),locN p e n i acc=locN q e n i acc
 | 0,_,_=>rfl
 | n+1,i,acc=>by
  rw[Go.Proofs.Ytjmplnfiabmalaa.locN,Go.Proofs.Ytjmplnfiabmalaa.locN]
  cases hx:p[i]? with
  | none=>rw[h.none hx]
  | some x=>
   obtain⟨y,hy,e1,e2,_⟩:=h.get hx
   rw[hy]
   dsimp only
   rw[e1,e2,alike.locN h n]
theorem alike.localsOf {p q:List TLine}(h:alike p q)(k:Int):localsOf p k=localsOf q k:=by
 unfold Go.Proofs.Ytjmplnfiabmalaa.localsOf
 rw[h.endAt]
 cases hx:p[k.toNat]? with
 | none=>rw[h.none hx]
 | some x=>
  obtain⟨y,hy,e1,_,e3⟩:=h.get hx
  rw[hy]
  cases Go.Proofs.Ytjmplnfiabmalaa.endAt q k.toNat with
  | none=>rfl
  | some e=>dsimp only;rw[e1,e3,h.locN]
theorem alike.argsN {p q:List TLine}(h:alike p q)(g:Nat):argsN p g=argsN q g:=by
 unfold Go.Proofs.Ytjmplnfiabmalaa.argsN
 cases hx:p[g]? with
 | none=>rw[h.none hx]
 | some x=>
  obtain⟨y,hy,_,_,e3⟩:=h.get hx
  rw[hy]
  dsimp only
  rw[e3]
theorem foldLine_alike (p:List TLine):alike (p.map foldLine) p:=by
 unfold alike
 rw[List.map_map]
 refine List.map_congr_left fun x _=>?_
 simp only[Function.comp,foldLine]
 split <;> rfl
theorem ar_num (v:Int):ar ⟨0,v,[]⟩=0:=by
 unfold ar arity
 split <;> simp
theorem numE_ok {v:Int}(h:within v 0 999=true):(numE v).ok:=⟨by simp[tokOk,h],by rw[ar_num];rfl,trivial⟩
theorem finF_ok {t:TTok}{fs:List Ex}(h1:tokOk t=true)(h2:fs.length=ar t)(h3:exsOk fs):(finF t fs).ok:=by
 unfold finF
 split
 ·split
  ·rename_i hc
   exact numE_ok hc.2.2.2
  ·exact⟨h1,h2,h3⟩
 ·exact⟨h1,h2,h3⟩
mutual
theorem Ex.fold_ok:∀e:Ex,e.ok→e.fold.ok
 | .node t es,h=>by rw[Ex.fold];exact finF_ok h.1 (by rw[exFold_len];exact h.2.1) (exFold_ok es h.2.2)
theorem exFold_ok:∀es:List Ex,exsOk es→exsOk (exFold es)
 | [],_=>by rw[exFold];trivial
 | a::es,h=>by rw[exFold];exact⟨a.fold_ok h.1,exFold_ok es h.2⟩
end
theorem finF_mem {t:TTok}{fs:List Ex}{z:TTok}(h:z∈(finF t fs).toks):z=t∨z∈exToks fs∨∃n,z=⟨0,n,[]⟩:=by
 unfold finF at h
 split at h
 ·split at h
  ·simp only[numE,Ex.toks,exToks,List.mem_cons,List.not_mem_nil,or_false]at h
   exact .inr (.inr ⟨_,h⟩)
  ·rw[Ex.toks,List.mem_cons]at h
   exact h.imp id .inl
 ·rw[Ex.toks,List.mem_cons]at h
  exact h.imp id .inl
mutual
theorem Ex.fold_mem:∀(e:Ex) {z:TTok},z∈e.fold.toks→z∈e.toks∨∃n,z=⟨0,n,[]⟩
 | .node t es,z,h=>by
  rw[Ex.fold]at h
  rw[Ex.toks,List.mem_cons]
  rcases finF_mem h with h|h|h
  ·exact .inl (.inl h)
  ·rcases exFold_mem es h with h|h
   ·exact .inl (.inr h)
   ·exact .inr h
  ·exact .inr h
theorem exFold_mem:∀(es:List Ex) {z:TTok},z∈exToks (exFold es)→z∈exToks es∨∃n,z=⟨0,n,[]⟩
 | [],z,h=>by rw[exFold]at h;exact .inl h
 | a::es,z,h=>by
  rw[exFold,exToks,List.mem_append]at h
  rw[exToks,List.mem_append]
  rcases h with h|h
  ·exact(a.fold_mem h).imp .inl id
  ·exact(exFold_mem es h).imp .inr id
end
theorem exprOk_of {e:Ex}(ho:e.ok)(hl:e.toks.length≤20):exprOk e.toks=true:=by
 have h:=stands_end (l:=e.toks) (p:=0) ⟨[],by rw[List.drop_zero,List.append_nil]⟩ ho
 have hp:=e.toks_pos
 unfold exprOk
 rw[decide_eq_true hl,decide_eq_true hp,show exprEnd e.toks 0=_ from h]
 simp
theorem foldL_facts {l:List TTok}(h:exprOk l=true):exprOk (foldL l)=true∧∀z∈foldL l,z∈l∨∃n,z=⟨0,n,[]⟩:=by
 obtain⟨e,h1,h2,h3⟩:=foldL_ok h
 have hl:=foldL_len l
 have h20:l.length≤20:=by
  unfold exprOk at h
  simp only[Bool.and_eq_true,decide_eq_true_eq]at h
  exact h.1
 rw[h3]at hl ⊢
 refine⟨exprOk_of (e.fold_ok h1) (by omega),fun z hz=>?_⟩
 rw[h2]
 exact e.fold_mem hz
theorem smallRs_ofI {L:Int}:∀{rows:List (List Tr)},(∀r∈rows,smallR L r)→smallRs L rows
 | [],_=>by rw[smallRs];trivial
 | r::rs,h=>by rw[smallRs];exact⟨h r (by simp),smallRs_ofI fun x hx=>h x (by simp[hx])⟩
theorem foldLine_facts {x:TLine}(hs:smallR 1048576 x.tr)(he:(x.fKind=1∨x.fKind=2∨x.fKind=3∨x.fKind=5∨x.fKind=6)→exprOk x.fExpr=true)(h20:x.fExpr.length≤20):
  (foldLine x).fKind=x.fKind∧(foldLine x).fArgs=x.fArgs∧(foldLine x).fExpr.length≤20∧((x.fKind=1∨x.fKind=2∨x.fKind=3∨x.fKind=5∨x.fKind=6)→exprOk (foldLine x).fExpr=true)∧(∀z∈(foldLine x).fExpr,z∈x.fExpr∨∃n,z=⟨0,n,[]⟩)∧smallR 1048576 (foldLine x).tr:=by
 unfold foldLine
 split
 ·rename_i hpos
  have hl:=foldL_len x.fExpr
  have hz:∀z∈foldL x.fExpr,z∈x.fExpr∨∃n,z=⟨0,n,[]⟩:=by
   cases hx:exprOk x.fExpr with
   | true=>exact(foldL_facts hx).2
   | false=>rw[foldL_no hx];intro z hz;cases hz
  refine⟨rfl,rfl,by dsimp only;omega,fun hk=>(foldL_facts (he hk)).1,hz,?_⟩
  simp only[TLine.tr,smallR]at hs ⊢
  obtain⟨q0,q1,q2,q3,q4⟩:=hs
  refine⟨q0,q1,q2,?_,q4⟩
  have hsl:=small_len q3
  rw[smallT]
  refine⟨by rw[List.length_map];omega,smallRs_ofI fun r hr=>?_⟩
  obtain⟨z,hz1,rfl⟩:=List.mem_map.1 hr
  rcases hz z hz1 with h|⟨n,rfl⟩
  ·exact smallRs_map q3 h
  ·simp[TTok.tr,smallR,smallT]
 ·exact⟨rfl,rfl,h20,he,fun z hz=> .inl hz,hs⟩
theorem PgOk.fold {p:List TLine}(h:PgOk p):PgOk (p.map foldLine):=by
 have ha:=foldLine_alike p
 have hget:∀{k:Nat} {y:TLine},(p.map foldLine)[k]?=some y→∃x,p[k]?=some x∧y=foldLine x:=fun{k y} hy=>by
  rw[List.getElem?_map]at hy
  cases hx:p[k]? with
  | none=>rw[hx]at hy;cases hy
  | some x=>rw[hx]at hy;injection hy with hy;exact⟨x,rfl,hy.symm⟩
 have hf:∀{k:Nat} {x:TLine},p[k]?=some x→_:=fun{k x} hx=>foldLine_facts (smallRs_map h.small (List.mem_of_getElem? hx)) (h.line k x hx).2.2.2.2 (h.line k x hx).2.2.2.1
 refine⟨by rw[List.length_map];exact h.len,?_,fun k y hy=>?_,fun g y hy h0=>?_⟩
 ·rw[smallT]
  refine⟨by have:=h.len;simp;omega,smallRs_ofI fun r hr=>?_⟩
  obtain⟨y,hy,rfl⟩:=List.mem_map.1 hr
  obtain⟨x,hx,rfl⟩:=List.mem_map.1 hy
  obtain⟨k,hk,hkx⟩:=List.mem_iff_getElem.1 hx
  exact(hf (k:=k) (x:=x) (by rw[List.getElem?_eq_getElem hk,hkx])).2.2.2.2.2
 ·obtain⟨x,hx,rfl⟩:=hget hy
  obtain⟨f1,f2,f3,f4,_⟩:=hf hx
  obtain⟨l1,l2,l3,_⟩:=h.line k x hx
  rw[f1,f2]
  exact⟨l1,l2,l3,f3,f4⟩
 ·obtain⟨x,hx,rfl⟩:=hget hy
  obtain⟨f1,f2,_⟩:=hf hx
  rw[f1]at h0
  obtain⟨e,he,q1,q2,q3⟩:=h.fn g x hx h0
  refine⟨e,by rw[ha.endAt];exact he,by rw[ha.localsOf];exact q1,by rw[ha.localsOf,f2];exact q2,fun k y hk1 hk2 hy=>?_⟩
  obtain⟨z,hz,rfl⟩:=hget hy
  obtain⟨g1,_,_,_,g5,_⟩:=hf hz
  obtain⟨r1,r2,r3⟩:=q3 k z hk1 hk2 hz
  refine⟨by rw[g1];exact r1,fun t ht h7=>?_,fun h4=>?_⟩
  ·rcases g5 t ht with h'|⟨n,rfl⟩
   ·obtain⟨f,hf1,hf2⟩:=r2 t h' h7
    exact⟨f,by rw[ha.findN];exact hf1,by rw[ha.argsN];exact hf2⟩
   ·exact absurd h7 (show ¬(0:Int)=7 by decide)
  ·rw[g1]at h4
   obtain⟨i,i1,i2,i3⟩:=r3 h4
   exact⟨i,i1,i2,by rw[ha.elseAt];exact i3⟩
end Go.Proofs.Ytjmplnfiabmalaa
namespace Go.Proofs.Ytjmplnfiabmalaa
open Go.Sim
set_option maxRecDepth 100000
set_option maxHeartbeats 4000000
theorem alike.funsF:∀{p q:List TLine},alike p q→∀i:Nat,funsF p i=funsF q i
 | [],[],_,_=>rfl
 | x::p,y::q,h,i=>by
  simp only[alike,List.map_cons,List.cons.injEq,Prod.mk.injEq]at h
  have ih:=alike.funsF (p:=p) (q:=q) h.2
  rw[Go.Proofs.Ytjmplnfiabmalaa.funsF,Go.Proofs.Ytjmplnfiabmalaa.funsF,h.1.1,ih]
 | [],_::_,h,_=>by simp[alike]at h
 | _::_,[],h,_=>by simp[alike]at h
end Go.Proofs.Ytjmplnfiabmalaa
namespace Go.Proofs.Ytjmplnfiabmalaa
open Go.Sim
set_option maxRecDepth 100000
set_option maxHeartbeats 4000000
abbrev toksRow (a:Ex):List Tr:=[.lst 3 (a.toks.map TTok.tr)]
theorem s_impl_foldAt:∀(n:Nat) (e:Ex),e.toks.length≤n→∀(l:List TTok) (p:Nat),l.length≤1048576→toksShort l→e.ok→stands l p e→Sim.Spec Try.prog 86 [tvL 3 (l.map TTok.tr),tvI p] (rL 3 (e.fold.toks.map TTok.tr))
 | 0,e,hn,_,_,_,_,_,_=>by have:=e.toks_pos;omega
 | n+1,.node t es,hn,l,p,hl,hsh,ho,hs=>by
  refine spec_of_Wo hΓ hmix Try.func86 rfl (by decide) rfl ?_
  have hlen:(l.map TTok.tr).length=l.length:=by simp
  have hle:=stands_le hs
  obtain⟨ht,hsa⟩:=stands_tok hs
  have hO:=s_impl_Operands l p t es hl hsh ho hs
  have hpl:((posL (p+1) es).map nR).length=es.length:=by rw[List.length_map,posL_len]
  rw[Ex.toks,List.length_cons]at hn hle
  rw[Ex.fold]
  have hfe:=exFold_le es
  obtain⟨e1,e2⟩:=ar_eq ho.1
  have hel:es.length=ar t:=ho.2.1
  repeat' ((conv=>whnf);first|(with_reducible first|apply Wx|apply W6)|apply oi|(apply fi<;>intro h)|refine cl hO ?_|refine⟨p,t.tr,rfl,map_get ht,?_⟩|refine⟨_,rfl,?_⟩|((with_reducible show _=_);rfl))
  all_goals try((with_reducible refine Obl.mk ?_);exact KP)
  conv=>whnf
  refine⟨{j:Nat // j≤es.length},fun q=>⟨[(0,.r (.c (.t (.lst 3 (l.map TTok.tr))))),(1,tI .i64 (p:Int)),(5,.r (.c (.ptr (5,0,0) 0))),(6,.r (.c (.own (21,0,1)))),(7,.r (.c (.own (21,0,2)))),(21,.r (.c (.own (21,0,0)))),(22,tI .i64 (((posL (p+1) es).map nR).length:Int)),(23,tI .i64 (q.1:Int))],
   [((5,0,0),some (.box (t.tr.map .t))),((21,0,1),some (.arr false 3 ((t::exToks (exFold (es.take q.1))).map TTok.tr))),((21,0,2),some (.arr false 1 ((exFold (es.take q.1)).map toksRow))),((21,0,0),some (.arr true 1 ((posL (p+1) es).map nR)))],[21,5]⟩,fun q=>es.length - q.1,⟨0,by omega⟩,?_,?_⟩
  ·skip
   repeat' ((conv=>whnf);first|(with_reducible first|apply Wx|apply W6)|apply oi|(apply fi<;>intro h)|refine⟨_,rfl,?_⟩|((with_reducible show _=_);rfl))
   all_goals try((with_reducible refine Obl.mk ?_);exact KP)
   all_goals first|exact⟨by simp[exFold,exToks];rfl⟩|exact⟨by simp[exFold]⟩
  intro⟨j,hj⟩
  dsimp only at hj ⊢
  by_cases hlt:j < es.length
  ·obtain⟨a,ha⟩:=get_of_lt hlt
   obtain⟨q,hq,hqs⟩:=posL_at hsa ha
   have hal:=exToks_mem ha
   have hR:=s_impl_foldAt n a (by omega) l q hl hsh (exsOk_get ho.2.2 ha) hqs
   have hjl:j < ((posL (p+1) es).map nR).length:=by rw[hpl];exact hlt
   have hfa:=a.fold_le
   have hft:=exToks_take_le (exFold es) j
   rw[exFold_take]at hft
   have hfl1:((t::exToks (exFold (es.take j))).map TTok.tr).length=1+(exToks (exFold (es.take j))).length:=by simp;omega
   have hfl2:(a.fold.toks.map TTok.tr).length=a.fold.toks.length:=by simp
   repeat' ((conv=>whnf);first|(with_reducible apply W1;fail_if_success (with_reducible show Wo _ _ _ _ (Code.region 8 _ _) _ _))|(with_reducible first|apply W2|apply W3|apply W4|apply W5|apply W6|apply W7|apply W8|apply W9)|apply reg_inl|apply oi|(apply fi<;>intro h)|refine cl hR ?_|refine⟨j,rfl,hjl,?_⟩|refine⟨(nR q),(map_get hq),?_⟩|refine⟨_,rfl,?_⟩|((with_reducible show _=_);rfl))
   all_goals try((with_reducible refine Obl.mk ?_);exact KP)
   all_goals try exact KX
   conv=>whnf
   refine view2_rule ⟨[(0,.r (.c (.t (.lst 3 (l.map TTok.tr))))),(1,tI .i64 (p:Int)),(5,.r (.c (.ptr (5,0,0) 0))),(6,.r (.c (.own (21,0,1)))),(7,.r (.c (.own (21,0,2)))),(10,.r (.c (.t (.lst 3 (a.fold.toks.map TTok.tr))))),(21,.r (.c (.own (21,0,0)))),(22,tI .i64 (((posL (p+1) es).map nR).length:Int)),(23,tI .i64 (j:Int))],
    [((5,0,0),some (.box (t.tr.map .t))),((21,0,1),some (.arr false 3 ((t::exToks (exFold (es.take j))).map TTok.tr))),((21,0,2),some (.arr false 1 ((exFold (es.take j)).map toksRow))),((21,0,0),some (.arr true 1 ((posL (p+1) es).map nR)))],_⟩ ?_ ?_ rfl ?_
   ·refine⟨.inl rfl,.inl rfl,.inl rfl,.inl rfl,.inl rfl,.inr (.inl ⟨_,_,rfl,rfl,.inr (.inr ⟨_,rfl,rfl,?_⟩)⟩),.inl rfl,.inl rfl,.inl rfl,trivial⟩
    intro q hq;simp only[AC.ids,List.mem_cons,List.not_mem_nil,or_false]at hq;subst hq;rfl
   ·exact⟨.inr (.inl rfl),.inr (.inl rfl),.inr (.inl rfl),.inr (.inl rfl),trivial⟩
   have hfl4:((exFold (es.take j)).map toksRow).length=j:=by rw[List.length_map,exFold_len,List.length_take];omega
   repeat' ((conv=>whnf);first|(with_reducible first|apply Wx|apply W6)|apply oi|(apply fi<;>intro h)|refine⟨_,rfl,?_⟩|((with_reducible show _=_);rfl))
   all_goals try((with_reducible refine Obl.mk ?_);exact KP)
   all_goals try exact⟨⟨by rw[hfl4];simp <;> omega,by rw[hfl4];simp <;> omega⟩⟩
   all_goals try exact⟨⟨by rw[hfl1,hfl2];(try dsimp only);omega,by rw[hfl1,hfl2];(try dsimp only);omega⟩⟩
   conv=>whnf
   refine⟨⟨j+1,by omega⟩,?_,by dsimp only;omega⟩
   repeat' ((conv=>whnf);first|(with_reducible first|apply Wx|apply W6)|apply oi|(apply fi<;>intro h)|refine⟨_,rfl,?_⟩|((with_reducible show _=_);rfl))
   all_goals try((with_reducible refine Obl.mk ?_);exact KP)
   all_goals try exact⟨KW⟩
   all_goals first|exact⟨by rw[exFold_get ha,exToks_append,exToks_one];simp⟩|exact⟨by rw[exFold_get ha];simp⟩
  ·have hje:j=es.length:=by omega
   subst hje
   rw[List.take_length]
   have hB:=s_impl_between t.fKind 2 6
   have hFl:=exFold_len es
   have hout:((t::exToks (exFold es)).map TTok.tr).length=1+(exToks (exFold es)).length:=by simp;omega
   generalize exFold es=F at *
   cases hk:within t.fKind 2 6 with
   | false=>
    rw[hk]at hB
    rw[finF_plain (.inr hk),Ex.toks]
    repeat' ((conv=>whnf);first|(with_reducible first|apply Wx|apply W6)|apply oi|(apply fi<;>intro h)|refine cl hB ?_|refine⟨_,rfl,?_⟩|((with_reducible show _=_);rfl))
    all_goals try((with_reducible refine Obl.mk ?_);exact KP)
    all_goals try exact KX
    all_goals exact⟨⟨rfl,flat_toks _⟩⟩
   | true=>
    rw[hk]at hB
    by_cases h2:(exToks F).length=2
    ·obtain⟨f1,f2,rfl⟩:=two_of (hFl.trans (hel.trans (ar_two ho.1 hk)))
     rw[exToks,exToks_one,List.length_append]at h2
     have p1:=f1.toks_pos
     have p2:=f2.toks_pos
     obtain⟨a,rfl⟩:=one_tok (f:=f1) (by omega)
     obtain⟨b,rfl⟩:=one_tok (f:=f2) (by omega)
     have e3:t::exToks [Ex.node a [],Ex.node b []]=[t,a,b]:=by simp[exToks,Ex.toks]
     have e4:(Ex.node t [Ex.node a [],Ex.node b []]).toks=[t,a,b]:=by rw[Ex.toks];exact e3
     have e6:([Ex.node a [],Ex.node b []].map toksRow)=[[.lst 3 [a.tr]],[.lst 3 [b.tr]]]:=by simp[Ex.toks,exToks]
     rw[e3,e6]
     have h1l:1 < ([t,a,b].map TTok.tr).length:=by simp
     have h2l:2 < ([t,a,b].map TTok.tr).length:=by simp
     have h0l:0 < [[Tr.lst 3 [a.tr]],[Tr.lst 3 [b.tr]]].length:=by simp
     have hAp:=s_impl_Apply t.fKind a.fNum b.fNum
     have hB2:=s_impl_between (applyP t.fKind a.fNum b.fNum) 0 999
     rw[finF_two]
     by_cases hc:finC t a b
     ·rw[if_pos hc]
      obtain⟨_,c1,c2,c3⟩:=hc
      rw[c3]at hB2
      have e5:(numE (applyP t.fKind a.fNum b.fNum)).toks=[⟨0,applyP t.fKind a.fNum b.fNum,[]⟩]:=by simp[numE,Ex.toks,exToks]
      rw[e5]
      generalize applyP t.fKind a.fNum b.fNum=ap at *
      repeat' ((conv=>whnf);first|(with_reducible first|apply Wx|apply W6)|apply oi|(apply fi<;>intro h)|refine cl hB ?_|refine⟨0,rfl,h0l,?_⟩|refine⟨[Tr.lst 3 [a.tr]],rfl,?_⟩|refine⟨1,rfl,h1l,?_⟩|refine⟨2,rfl,h2l,?_⟩|refine⟨a.tr,rfl,?_⟩|refine⟨b.tr,rfl,?_⟩|refine cl hAp ?_|refine cl hB2 ?_|refine⟨_,rfl,?_⟩|((with_reducible show _=_);rfl))
      all_goals try((with_reducible refine Obl.mk ?_);exact KP)
      all_goals try exact KX
      all_goals try(exfalso;simp_all;done)
     ·rw[if_neg hc,e4]
      have hc2:∀w,within (applyP t.fKind a.fNum b.fNum) 0 999=w→a.fKind=0→b.fKind=0→w=true→False:=fun w h1 h2 h3 h4=>hc ⟨hk,h2,h3,h1.trans h4⟩
      cases hw:within (applyP t.fKind a.fNum b.fNum) 0 999 with
      | true=>
       rw[hw]at hB2
       have hc3:=hc2 true hw
       generalize applyP t.fKind a.fNum b.fNum=ap at *
       repeat' ((conv=>whnf);first|(with_reducible first|apply Wx|apply W6)|apply oi|(apply fi<;>intro h)|refine cl hB ?_|refine⟨0,rfl,h0l,?_⟩|refine⟨[Tr.lst 3 [a.tr]],rfl,?_⟩|refine⟨1,rfl,h1l,?_⟩|refine⟨2,rfl,h2l,?_⟩|refine⟨a.tr,rfl,?_⟩|refine⟨b.tr,rfl,?_⟩|refine cl hAp ?_|refine cl hB2 ?_|refine⟨_,rfl,?_⟩|((with_reducible show _=_);rfl))
       all_goals try((with_reducible refine Obl.mk ?_);exact KP)
       all_goals try exact KX
       all_goals try exact⟨⟨rfl,flat_toks _⟩⟩
       all_goals try(exfalso;simp_all;done)
      | false=>
       rw[hw]at hB2
       generalize applyP t.fKind a.fNum b.fNum=ap at *
       repeat' ((conv=>whnf);first|(with_reducible first|apply Wx|apply W6)|apply oi|(apply fi<;>intro h)|refine cl hB ?_|refine⟨0,rfl,h0l,?_⟩|refine⟨[Tr.lst 3 [a.tr]],rfl,?_⟩|refine⟨1,rfl,h1l,?_⟩|refine⟨2,rfl,h2l,?_⟩|refine⟨a.tr,rfl,?_⟩|refine⟨b.tr,rfl,?_⟩|refine cl hAp ?_|refine cl hB2 ?_|refine⟨_,rfl,?_⟩|((with_reducible show _=_);rfl))
       all_goals try((with_reducible refine Obl.mk ?_);exact KP)
       all_goals try exact KX
       all_goals try exact⟨⟨rfl,flat_toks _⟩⟩
       all_goals try(exfalso;simp_all;done)
    ·rw[finF_plain (.inl h2),Ex.toks]
     repeat' ((conv=>whnf);first|(with_reducible first|apply Wx|apply W6)|apply oi|(apply fi<;>intro h)|refine cl hB ?_|refine⟨_,rfl,?_⟩|((with_reducible show _=_);rfl))
     all_goals try((with_reducible refine Obl.mk ?_);exact KP)
     all_goals try exact KX
     all_goals try exact⟨⟨rfl,flat_toks _⟩⟩
     all_goals try(exfalso;rw[hout]at *;simp at *;omega)
theorem s_impl_FoldExpr (l:List TTok)(hl:l.length≤1048576)(hn:toksShort l):Sim.Spec Try.prog 53 [tvL 3 (l.map TTok.tr)] (rL 3 ((foldL l).map TTok.tr)):=by
 refine spec_of_Wo hΓ hmix Try.func53 rfl (by decide) rfl ?_
 have hE:=s_impl_ExprOk l hl hn
 cases h:exprOk l with
 | false=>
  rw[h]at hE
  rw[foldL_no h]
  repeat' ((conv=>whnf);first|(with_reducible first|apply Wx|apply W6)|apply oi|(apply fi<;>intro h)|refine cl hE ?_|refine⟨_,rfl,?_⟩|((with_reducible show _=_);rfl))
  all_goals try((with_reducible refine Obl.mk ?_);exact KP)
  all_goals try exact KX
 | true=>
  rw[h]at hE
  obtain⟨e,h1,h2,h3⟩:=foldL_ok h
  have hF:=s_impl_foldAt e.toks.length e (Nat.le_refl _) l 0 hl hn h1 ⟨[],by rw[List.drop_zero,List.append_nil];exact h2⟩
  rw[h3]
  generalize e.fold.toks=r at *
  repeat' ((conv=>whnf);first|(with_reducible first|apply Wx|apply W6)|apply oi|(apply fi<;>intro h)|refine cl hE ?_|refine cl hF ?_|refine⟨_,rfl,?_⟩|((with_reducible show _=_);rfl))
  all_goals try((with_reducible refine Obl.mk ?_);exact KP)
  all_goals try exact KX
theorem s_impl_copyLine (x:TLine)(hs:smallR 1048576 x.tr):Sim.Spec Try.prog 52 [.agg x.tr] (.r (.agg (x.tr.map resC))):=by
 refine spec_of_Wo hΓ hmix Try.func52 rfl (by decide) rfl ?_
 obtain⟨h1,h2,h3,h4,h5⟩:=line_small hs
 repeat' ((conv=>whnf);first|(with_reducible first|apply Wx|apply W6)|apply oi|(apply fi<;>intro h)|refine⟨_,rfl,?_⟩|((with_reducible show _=_);rfl))
 all_goals try((with_reducible refine Obl.mk ?_);exact KP)
 all_goals try exact⟨⟨by simp <;> omega,by simp <;> omega⟩⟩
 all_goals try exact⟨⟨rfl,flat_strs _⟩⟩
 all_goals try exact⟨⟨rfl,flat_toks _⟩⟩
theorem s_impl_FoldProgram (l:List TLine)(hs:smallT 1048576 (.lst 4 (l.map TLine.tr))):Sim.Spec Try.prog 19 [tvP l] (rL 4 ((foldProg l).map TLine.tr)):=by
 refine spec_of_Wo hΓ hmix Try.func19 rfl (by decide) rfl ?_
 have hl:=small_nat hs
 have hP:=s_impl_ProgramOk l hs
 have hlen:(l.map TLine.tr).length=l.length:=by simp
 cases hpo:programOk l with
 | false=>
  rw[hpo]at hP
  have:foldProg l=[]:=by rw[foldProg,if_neg (by simp[hpo])]
  rw[this]
  repeat' ((conv=>whnf);first|(with_reducible first|apply Wx|apply W6)|apply oi|(apply fi<;>intro h)|refine cl hP ?_|refine⟨_,rfl,?_⟩|((with_reducible show _=_);rfl))
  all_goals try((with_reducible refine Obl.mk ?_);exact KP)
  all_goals try exact KX
 | true=>
  rw[hpo]at hP
  have:foldProg l=l.map foldLine:=by rw[foldProg,if_pos hpo]
  rw[this]
  repeat' ((conv=>whnf);first|(with_reducible first|apply Wx|apply W6)|apply oi|(apply fi<;>intro h)|refine cl hP ?_|refine⟨_,rfl,?_⟩|((with_reducible show _=_);rfl))
  all_goals try((with_reducible refine Obl.mk ?_);exact KP)
  all_goals try exact KX
  conv=>whnf
  refine⟨{k:Nat // k≤l.length},fun q=>⟨[(0,vP l),(3,.r (.c (.own (10,0,0)))),(11,vP l),(12,tI .i64 ((l.map TLine.tr).length:Int)),(13,tI .i64 (q.1:Int))],[((10,0,0),some (.dar 4 (deepRows (((l.take q.1).map foldLine).map TLine.tr)) none))],[10]⟩,fun q=>l.length - q.1,⟨0,by omega⟩,?_,?_⟩
  ·skip
   repeat' ((conv=>whnf);first|(with_reducible first|apply Wx|apply W6)|apply oi|(apply fi<;>intro h)|refine⟨_,rfl,?_⟩|((with_reducible show _=_);rfl))
   all_goals try((with_reducible refine Obl.mk ?_);exact KP)
  intro⟨k,hk⟩
  dsimp only at hk ⊢
  have hdl:(deepRows (((l.take k).map foldLine).map TLine.tr)).length=k:=by rw[deepRows_length,List.length_map,List.length_map,List.length_take];omega
  by_cases hlt:k < l.length
  ·obtain⟨x,hx⟩:=get_of_lt hlt
   have hsx:=smallRs_map hs (List.mem_of_getElem? hx)
   obtain⟨h1,h2,h3,h4,h5⟩:=line_small hsx
   have hF:=s_impl_FoldExpr x.fExpr h4 (fun y hy=>by have:=h5 y hy;omega)
   have hC:=s_impl_copyLine x hsx
   have hel3:(x.fExpr.map TTok.tr).length=x.fExpr.length:=by simp
   have htk:=take_map foldLine l k x hx
   by_cases hpos:0 < x.fExpr.length
   ·have hfl:foldLine x=⟨x.fKind,x.fName,x.fArgs,foldL x.fExpr⟩:=by rw[foldLine,if_pos hpos]
    repeat' ((conv=>whnf);first|(with_reducible first|apply Wx|apply W6)|apply oi|(apply fi<;>intro h)|refine⟨k,x.tr,rfl,map_get hx,?_⟩|refine cl hC ?_|refine cl hF ?_|refine⟨_,rfl,?_⟩|((with_reducible show _=_);rfl))
    all_goals try((with_reducible refine Obl.mk ?_);exact KP)
    all_goals try exact KX
    all_goals try exact⟨flat_toks _⟩
    all_goals try exact⟨flat_strs _⟩
    all_goals try exact⟨⟨by rw[hdl];(try dsimp only);simp <;> omega,by rw[hdl];(try dsimp only);simp <;> omega⟩⟩
    all_goals try(exfalso;have h':=of_decide_eq_false h;rw[hel3]at h';omega)
    conv=>whnf
    refine⟨⟨k+1,by omega⟩,?_,by dsimp only;omega⟩
    repeat' ((conv=>whnf);first|(with_reducible first|apply Wx|apply W6)|apply oi|(apply fi<;>intro h)|refine⟨_,rfl,?_⟩|((with_reducible show _=_);rfl))
    all_goals try((with_reducible refine Obl.mk ?_);exact KP)
    all_goals try exact⟨KW⟩
    all_goals(refine⟨?_⟩;dsimp only;rw[htk,hfl];simp[deepRows,TLine.tr])
   ·have hfl:foldLine x=x:=by rw[foldLine,if_neg hpos]
    repeat' ((conv=>whnf);first|(with_reducible first|apply Wx|apply W6)|apply oi|(apply fi<;>intro h)|refine⟨k,x.tr,rfl,map_get hx,?_⟩|refine cl hC ?_|refine⟨_,rfl,?_⟩|((with_reducible show _=_);rfl))
    all_goals try((with_reducible refine Obl.mk ?_);exact KP)
    all_goals try exact KX
    all_goals try exact⟨flat_toks _⟩
    all_goals try exact⟨flat_strs _⟩
    all_goals try exact⟨⟨by rw[hdl];(try dsimp only);simp <;> omega,by rw[hdl];(try dsimp only);simp <;> omega⟩⟩
    all_goals try(exfalso;have h':=of_decide_eq_true h;rw[hel3]at h';omega)
    conv=>whnf
    refine⟨⟨k+1,by omega⟩,?_,by dsimp only;omega⟩
    repeat' ((conv=>whnf);first|(with_reducible first|apply Wx|apply W6)|apply oi|(apply fi<;>intro h)|refine⟨_,rfl,?_⟩|((with_reducible show _=_);rfl))
    all_goals try((with_reducible refine Obl.mk ?_);exact KP)
    all_goals try exact⟨KW⟩
    all_goals(refine⟨?_⟩;dsimp only;rw[htk,hfl];simp[deepRows,TLine.tr])
  ·have hke:k=l.length:=by omega
   subst hke
   rw[List.take_length]
   repeat' ((conv=>whnf);first|(with_reducible first|apply Wx|apply W6)|apply oi|(apply fi<;>intro h)|refine⟨_,rfl,?_⟩|((with_reducible show _=_);rfl))
   all_goals try((with_reducible refine Obl.mk ?_);exact KP)
   all_goals try exact KX
end Go.Proofs.Ytjmplnfiabmalaa
namespace Go.Proofs.Ytjmplnfiabmalaa
open Go.Sim
set_option maxRecDepth 100000
set_option maxHeartbeats 4000000
structure RunS where
 out:List Int
 visits:List (List Int)
 value:Int
 code:Int
 calls:List Int
abbrev visRow (v:List Int):List Tr:=[.lst 1 (v.map intRow)]
abbrev runH (i1 i2 i3:Sim.Id)(p:List TLine)(limit:Int)(s:RunS):List (Sim.Id×AO):=[((0,0,0),.box [.t (.lst 4 (p.map TLine.tr)),.t (.int .i64 limit),.own i1,.own i2,.t (.int .i64 s.value),.t (.int .i64 s.code),.own i3]),(i1,.arr false 1 (s.out.map intRow)),(i2,.dar 1 (deepRows (s.visits.map visRow)) none),(i3,.arr false 1 (s.calls.map intRow))]
theorem g_spec_visit_full (p:List TLine)(limit k:Int)(s:RunS)(h0:(s.visits.length:Int)=limit):SpecG Try.prog 59 [.r (.c (.ptr (0,0,0) 0)),tI .i64 k] (runH (0,0,1) (0,0,2) (0,0,3) p limit s) (tB false) (runH (0,0,1) (0,0,2) (0,0,3) p limit {s with code:=1}):=by
 refine specG_of_Wo hΓ hmix Try.func59 rfl (by decide) rfl rfl ?_
 have hdl:(deepRows (s.visits.map visRow)).length=s.visits.length:=by rw[deepRows_length,List.length_map]
 have hb:((s.visits.length:Int)==limit)=true:=beq_iff_eq.2 h0
 repeat' ((conv=>whnf);first|(with_reducible first|apply Wx|apply W6)|apply oi|(apply fi<;>intro h)|refine⟨_,rfl,?_⟩|((with_reducible show _=_);rfl))
 all_goals try((with_reducible refine Obl.mk ?_);exact KP)
 all_goals try(exfalso;rw[hdl,hb]at h;cases h;done)
theorem g_spec_visit (p:List TLine)(limit k:Int)(s:RunS)(hv:s.visits.length≤1000)(hc:s.calls.length≤6)(h0:(s.visits.length:Int)≠limit):SpecG Try.prog 59 [.r (.c (.ptr (0,0,0) 0)),tI .i64 k] (runH (0,0,1) (0,0,2) (0,0,3) p limit s) (tB true) (runH (0,0,1) (1,0,2) (0,0,3) p limit {s with visits:=s.visits++[s.calls++[k]]}):=by
 refine specG_of_Wo hΓ hmix Try.func59 rfl (by decide) rfl rfl ?_
 have hdl:(deepRows (s.visits.map visRow)).length=s.visits.length:=by rw[deepRows_length,List.length_map]
 have hb:((s.visits.length:Int)==limit)=false:=beq_eq_false_iff_ne.2 h0
 have hf:flat ([]++s.calls.map intRow++[[Tr.int .i64 k]]):=by
  have:=flat_ints (s.calls++[k])
  simpa [intRow]using this
 repeat' ((conv=>whnf);first|(with_reducible first|apply Wx|apply W6)|apply oi|(apply fi<;>intro h)|refine⟨_,rfl,?_⟩|((with_reducible show _=_);rfl))
 all_goals try((with_reducible refine Obl.mk ?_);exact KP)
 all_goals try(exfalso;rw[hdl,hb]at h;cases h;done)
 all_goals try exact⟨⟨by simp[deepRows_length] <;> omega,by simp[deepRows_length] <;> omega⟩⟩
 all_goals try exact⟨hf⟩
 all_goals exact⟨by simp[deepRows,visRow,intRow]⟩
end Go.Proofs.Ytjmplnfiabmalaa
namespace Go.Proofs.Ytjmplnfiabmalaa
open Go.Sim
set_option maxRecDepth 100000
set_option maxHeartbeats 4000000
structure IS where
 out:List Int
 visits:List (List Int)
inductive Rr (α:Type) where
 | ok (a:α) (s:IS)
 | stop (c:Int) (s:IS)
 | fuel
def Rr.bnd {α β:Type}(r:Rr α)(f:α→IS→Rr β):Rr β:=match r with
 | .ok a s=>f a s
 | .stop c s=> .stop c s
 | .fuel=> .fuel
theorem Rr.bnd_ok {α β:Type}(a:α)(s:IS)(f:α→IS→Rr β):(Rr.ok a s).bnd f=f a s:=rfl
theorem Rr.bnd_stop {α β:Type}(c:Int)(s:IS)(f:α→IS→Rr β):(Rr.stop c s:Rr α).bnd f= .stop c s:=rfl
abbrev CallF:=Nat→List Int→IS→Rr Int
def valOf (locals:List (List UInt8))(vals:List Int)(nm:List UInt8):Int:=match idxN locals 0 nm with
 | some i=>atL vals i
 | none=>0
section
variable (p:List TLine) (locals:List (List UInt8)) (vals:List Int) (call:CallF)
def finV (t:TTok)(av:List Int)(s:IS):Rr Int:=
 if t.fKind=0 then .ok t.fNum s
 else if t.fKind=1 then .ok (valOf locals vals t.fName) s
 else if t.fKind=7 then call ((findN p 0 t.fName).getD 0) av s
 else .ok (applyP t.fKind (atL av 0) (atL av 1)) s
mutual
def evE:Ex→IS→Rr Int
 | .node t es,s=>(evEs es s).bnd fun av s'=>finV p locals vals call t av s'
def evEs:List Ex→IS→Rr (List Int)
 | [],s=> .ok [] s
 | a::es,s=>(evE a s).bnd fun v s'=>(evEs es s').bnd fun vs s''=> .ok (v::vs) s''
end
end
def padV (n:Nat)(l:List Int):List Int:=l++List.replicate (n - l.length) 0
def skipAt (p:List TLine)(k:Nat):Nat:=match elseAt p k with
 | some j=>j
 | none=>endL' p k
def setV (locals:List (List UInt8))(ln:TLine)(vals:List Int)(v:Int):List Int:=if ln.fKind=1 then(match idxN locals 0 ln.fName with
 | some i=>vals.set i v
 | none=>vals)else vals
def outV (ln:TLine)(s:IS)(v:Int):IS:=if ln.fKind=2 then⟨s.out++[v],s.visits⟩else s
def nextV (p:List TLine)(ln:TLine)(k:Nat)(v:Int):Nat:=if(ln.fKind=3∨ln.fKind=5)∧v=0 then skipAt p k+1 else k+1
noncomputable def linesV (p:List TLine) (lim:Int):Nat→List Int→Nat→Nat→List Int→IS→Rr Int
 | 0,_,_,_,_,_=> .fuel
 | n+1,calls,f,k,vals,s=>match p[k]? with
  | none=> .ok 0 s
  | some ln=>
   if ln.fKind=7 then
    if ownOf p k=f then .ok 0 s
    else linesV p lim n calls f (if kindAt p (ownOf p k)=5 then ownOf p k else k+1) vals s
   else if ln.fKind=4 then linesV p lim n calls f (endL' p (ownOf p k)+1) vals s
   else if(s.visits.length:Int)=lim then .stop 1 s
   else(evE p (localsOf p (f:Int)) vals (fun g av s'=>if calls.length=6 then .stop 2 s' else linesV p lim n (calls++[(k:Int)]) g (g+1) (padV (localsOf p (g:Int)).length av) s')
     (exL ln.fExpr) ⟨s.out,s.visits++[calls++[(k:Int)]]⟩).bnd fun v s'=>
    if ln.fKind=6 then .ok v s'
    else linesV p lim n calls f (nextV p ln k v) (setV (localsOf p (f:Int)) ln vals v) (outV ln s' v)
noncomputable def callV (p:List TLine) (lim:Int) (n:Nat) (calls:List Int) (k:Nat):CallF:=fun g av s'=>if calls.length=6 then .stop 2 s' else linesV p lim n (calls++[(k:Int)]) g (g+1) (padV (localsOf p (g:Int)).length av) s'
theorem linesV_none {p:List TLine}{lim:Int}{n:Nat}{calls:List Int}{f k:Nat}{vals:List Int}{s:IS}(hk:p[k]?=none):linesV p lim (n+1) calls f k vals s= .ok 0 s:=by
 rw[linesV,hk]
theorem linesV_end {p:List TLine}{lim:Int}{n:Nat}{calls:List Int}{f k:Nat}{vals:List Int}{s:IS}{ln:TLine}(hk:p[k]?=some ln)(h:ln.fKind=7):
  linesV p lim (n+1) calls f k vals s=if ownOf p k=f then .ok 0 s else linesV p lim n calls f (if kindAt p (ownOf p k)=5 then ownOf p k else k+1) vals s:=by
 rw[linesV,hk];dsimp only;rw[if_pos h]
theorem linesV_else {p:List TLine}{lim:Int}{n:Nat}{calls:List Int}{f k:Nat}{vals:List Int}{s:IS}{ln:TLine}(hk:p[k]?=some ln)(h:ln.fKind=4):
  linesV p lim (n+1) calls f k vals s=linesV p lim n calls f (endL' p (ownOf p k)+1) vals s:=by
 rw[linesV,hk];dsimp only;rw[if_neg (by omega),if_pos h]
theorem linesV_full {p:List TLine}{lim:Int}{n:Nat}{calls:List Int}{f k:Nat}{vals:List Int}{s:IS}{ln:TLine}(hk:p[k]?=some ln)(h7:ln.fKind≠7)(h4:ln.fKind≠4)(hv:(s.visits.length:Int)=lim):
  linesV p lim (n+1) calls f k vals s= .stop 1 s:=by
 rw[linesV,hk];dsimp only;rw[if_neg h7,if_neg h4,if_pos hv]
theorem linesV_at {p:List TLine}{lim:Int}{n:Nat}{calls:List Int}{f k:Nat}{vals:List Int}{s:IS}{ln:TLine}(hk:p[k]?=some ln)(h7:ln.fKind≠7)(h4:ln.fKind≠4)(hv:(s.visits.length:Int)≠lim):
  linesV p lim (n+1) calls f k vals s=(evE p (localsOf p (f:Int)) vals (callV p lim n calls k) (exL ln.fExpr) ⟨s.out,s.visits++[calls++[(k:Int)]]⟩).bnd fun v s'=>
    if ln.fKind=6 then .ok v s'
    else linesV p lim n calls f (nextV p ln k v) (setV (localsOf p (f:Int)) ln vals v) (outV ln s' v):=by
 rw[linesV,hk];dsimp only;rw[if_neg h7,if_neg h4,if_neg hv];rfl
theorem evEs_snoc {p:List TLine}{locals:List (List UInt8)}{vals:List Int}{call:CallF}:∀(es:List Ex) (a:Ex) (s:IS),
  evEs p locals vals call (es++[a]) s=(evEs p locals vals call es s).bnd fun vs s'=>(evE p locals vals call a s').bnd fun v s''=> .ok (vs++[v]) s''
 | [],a,s=>by
  rw[List.nil_append,evEs,evEs]
  simp only[Rr.bnd_ok]
  cases evE p locals vals call a s with
  | ok v s1=>simp[Rr.bnd,evEs]
  | stop c s1=>rfl
  | fuel=>rfl
 | b::es,a,s=>by
  rw[List.cons_append,evEs,evEs]
  cases evE p locals vals call b s with
  | ok v s1=>
   simp only[Rr.bnd_ok]
   rw[evEs_snoc es a s1]
   cases evEs p locals vals call es s1 with
   | ok vs s2=>
    simp only[Rr.bnd_ok]
    cases evE p locals vals call a s2 with
    | ok w s3=>simp[Rr.bnd]
    | stop c s3=>rfl
    | fuel=>rfl
   | stop c s2=>rfl
   | fuel=>rfl
  | stop c s1=>rfl
  | fuel=>rfl
theorem evEs_take {p:List TLine}{locals:List (List UInt8)}{vals:List Int}{call:CallF}{es:List Ex}{j:Nat}{a:Ex}(s:IS)(h:es[j]?=some a):
  evEs p locals vals call (es.take (j+1)) s=(evEs p locals vals call (es.take j) s).bnd fun vs s'=>(evE p locals vals call a s').bnd fun v s''=> .ok (vs++[v]) s'':=by
 rw[List.take_add_one,h]
 exact evEs_snoc _ _ _
theorem evEs_len {p:List TLine}{locals:List (List UInt8)}{vals:List Int}{call:CallF}:∀{es:List Ex} {s:IS} {vs:List Int} {s':IS},evEs p locals vals call es s= .ok vs s'→vs.length=es.length
 | [],s,vs,s',h=>by rw[evEs]at h;injection h with h1 h2;subst h1;rfl
 | a::es,s,vs,s',h=>by
  rw[evEs]at h
  cases h1:evE p locals vals call a s with
  | ok v s1=>
   rw[h1,Rr.bnd_ok]at h
   cases h2:evEs p locals vals call es s1 with
   | ok ws s2=>
    rw[h2,Rr.bnd_ok]at h
    injection h with h3 h4
    subst h3
    rw[List.length_cons,List.length_cons,evEs_len h2]
   | stop c s2=>rw[h2]at h;cases h
   | fuel=>rw[h2]at h;cases h
  | stop c s1=>rw[h1]at h;cases h
  | fuel=>rw[h1]at h;cases h
theorem evEs_stop {p:List TLine}{locals:List (List UInt8)}{vals:List Int}{call:CallF}{es:List Ex}{j:Nat}{s:IS}{c:Int}{s':IS}(h:evEs p locals vals call (es.take j) s= .stop c s'):evEs p locals vals call es s= .stop c s':=by
 have key:∀(b a:List Ex),evEs p locals vals call a s= .stop c s'→evEs p locals vals call (a++b) s= .stop c s':=by
  intro b
  induction b with
  | nil=>intro a h;rw[List.append_nil];exact h
  | cons x b ih=>
   intro a h
   rw[show a++x::b=(a++[x])++b by simp]
   refine ih _ ?_
   rw[evEs_snoc,h]
   rfl
 have:=key (es.drop j) (es.take j) h
 rwa [List.take_append_drop]at this
theorem evEs_fuel {p:List TLine}{locals:List (List UInt8)}{vals:List Int}{call:CallF}{es:List Ex}{j:Nat}{s:IS}(h:evEs p locals vals call (es.take j) s= .fuel):evEs p locals vals call es s= .fuel:=by
 have key:∀(b a:List Ex),evEs p locals vals call a s= .fuel→evEs p locals vals call (a++b) s= .fuel:=by
  intro b
  induction b with
  | nil=>intro a h;rw[List.append_nil];exact h
  | cons x b ih=>
   intro a h
   rw[show a++x::b=(a++[x])++b by simp]
   refine ih _ ?_
   rw[evEs_snoc,h]
   rfl
 have:=key (es.drop j) (es.take j) h
 rwa [List.take_append_drop]at this
end Go.Proofs.Ytjmplnfiabmalaa
namespace Go.Proofs.Ytjmplnfiabmalaa
open Go.Sim
set_option maxRecDepth 100000
set_option maxHeartbeats 4000000
section
variable {p:List TLine} {locals:List (List UInt8)} {vals:List Int} {call call':CallF}
theorem finV_mono (h:∀g av s,call g av s≠.fuel→call' g av s=call g av s){t:TTok}{av:List Int}{s:IS}(hf:finV p locals vals call t av s≠.fuel):finV p locals vals call' t av s=finV p locals vals call t av s:=by
 unfold finV at *
 split
 ·rfl
 ·split
  ·rfl
  ·split
   ·rename_i h0 h1 h7
    rw[if_neg h0,if_neg h1,if_pos h7]at hf
    exact h _ _ _ hf
   ·rfl
mutual
theorem evE_mono (h:∀g av s,call g av s≠.fuel→call' g av s=call g av s):∀(e:Ex) (s:IS),evE p locals vals call e s≠.fuel→evE p locals vals call' e s=evE p locals vals call e s
 | .node t es,s,hf=>by
  rw[evE]at hf ⊢
  rw[evE,evEs_mono h es s (fun e=>hf (by rw[e];rfl))]
  cases hr:evEs p locals vals call es s with
  | ok av s1=>
   rw[hr,Rr.bnd_ok]at hf
   rw[Rr.bnd_ok,Rr.bnd_ok]
   exact finV_mono h hf
  | stop c s1=>rfl
  | fuel=>rfl
theorem evEs_mono (h:∀g av s,call g av s≠.fuel→call' g av s=call g av s):∀(es:List Ex) (s:IS),evEs p locals vals call es s≠.fuel→evEs p locals vals call' es s=evEs p locals vals call es s
 | [],s,_=>by rw[evEs,evEs]
 | a::es,s,hf=>by
  rw[evEs]at hf ⊢
  rw[evEs,evE_mono h a s (fun e=>hf (by rw[e];rfl))]
  cases hr:evE p locals vals call a s with
  | ok v s1=>
   rw[hr,Rr.bnd_ok]at hf
   rw[Rr.bnd_ok,Rr.bnd_ok,evEs_mono h es s1 (fun e=>hf (by rw[e];rfl))]
  | stop c s1=>rfl
  | fuel=>rfl
end
end
section
variable {p:List TLine} {lim:Int}
theorem linesV_mono1:∀(n:Nat) (calls:List Int) (f k:Nat) (vals:List Int) (s:IS),linesV p lim n calls f k vals s≠.fuel→linesV p lim (n+1) calls f k vals s=linesV p lim n calls f k vals s
 | 0,_,_,_,_,_,h=>absurd rfl h
 | n+1,calls,f,k,vals,s,h=>by
  cases hk:p[k]? with
  | none=>rw[linesV_none hk,linesV_none hk]
  | some ln=>
   by_cases h7:ln.fKind=7
   ·rw[linesV_end hk h7]at h ⊢
    rw[linesV_end hk h7]
    by_cases ho:ownOf p k=f
    ·rw[if_pos ho,if_pos ho]
    ·rw[if_neg ho]at h
     rw[if_neg ho,if_neg ho]
     exact linesV_mono1 n _ _ _ _ _ h
   by_cases h4:ln.fKind=4
   ·rw[linesV_else hk h4]at h ⊢
    rw[linesV_else hk h4]
    exact linesV_mono1 n _ _ _ _ _ h
   by_cases hv:(s.visits.length:Int)=lim
   ·rw[linesV_full hk h7 h4 hv,linesV_full hk h7 h4 hv]
   ·rw[linesV_at hk h7 h4 hv]at h ⊢
    rw[linesV_at hk h7 h4 hv]
    have hc:∀g av s,callV p lim n calls k g av s≠.fuel→callV p lim (n+1) calls k g av s=callV p lim n calls k g av s:=by
     intro g av s' hf
     unfold callV at *
     split
     ·rfl
     ·rename_i h6
      rw[if_neg h6]at hf
      exact linesV_mono1 n _ _ _ _ _ hf
    rw[evE_mono hc _ _ (fun e=>h (by rw[e];rfl))]
    cases hr:evE p (localsOf p (f:Int)) vals (callV p lim n calls k) (exL ln.fExpr) ⟨s.out,s.visits++[calls++[(k:Int)]]⟩with
    | ok v s1=>
     rw[hr,Rr.bnd_ok]at h
     rw[Rr.bnd_ok,Rr.bnd_ok]
     by_cases h6:ln.fKind=6
     ·rw[if_pos h6,if_pos h6]
     ·rw[if_neg h6]at h
      rw[if_neg h6,if_neg h6]
      exact linesV_mono1 n _ _ _ _ _ h
    | stop c s1=>rfl
    | fuel=>rfl
theorem linesV_mono {n m:Nat}{calls:List Int}{f k:Nat}{vals:List Int}{s:IS}(h:linesV p lim n calls f k vals s≠.fuel)(hm:n≤m):linesV p lim m calls f k vals s=linesV p lim n calls f k vals s:=by
 obtain⟨d,rfl⟩:=Nat.exists_eq_add_of_le hm
 clear hm
 induction d with
 | zero=>rfl
 | succ d ih=>rw[show n+(d+1)=(n+d)+1 by omega,linesV_mono1 (n+d) _ _ _ _ _ (by rw[ih];exact h),ih]
theorem callV_mono {n m:Nat}{calls:List Int}{k:Nat}(hm:n≤m):∀g av s,callV p lim n calls k g av s≠.fuel→callV p lim m calls k g av s=callV p lim n calls k g av s:=by
 intro g av s h
 unfold callV at *
 split
 ·rfl
 ·rename_i h6
  rw[if_neg h6]at h
  exact linesV_mono h hm
end
structure Ext (lim:Int) (s s':IS):Prop where
 out:s.out <+:s'.out
 vis:s.visits <+:s'.visits
 le:(s.visits.length:Int)≤lim→(s'.visits.length:Int)≤lim
 ol:s'.out.length+s.visits.length≤s'.visits.length+s.out.length
theorem Ext.refl (lim:Int)(s:IS):Ext lim s s:=⟨List.prefix_refl _,List.prefix_refl _,id,by omega⟩
theorem Ext.trans {lim:Int}{a b c:IS}(h:Ext lim a b)(h':Ext lim b c):Ext lim a c:=⟨h.out.trans h'.out,h.vis.trans h'.vis,fun x=>h'.le (h.le x),by have:=h.ol;have:=h'.ol;omega⟩
def ExtR (lim:Int)(s:IS){α:Type}(r:Rr α):Prop:=match r with
 | .ok _ s'=>Ext lim s s'
 | .stop c s'=>Ext lim s s'∧(c=1∨c=2)
 | .fuel=>True
theorem ExtR.trans {lim:Int}{a b:IS}{α:Type}{r:Rr α}(h:Ext lim a b)(h':ExtR lim b r):ExtR lim a r:=by
 cases r with
 | ok v s=>exact Ext.trans h h'
 | stop c s=>exact⟨Ext.trans h h'.1,h'.2⟩
 | fuel=>trivial
section
variable {p:List TLine} {locals:List (List UInt8)} {vals:List Int} {call:CallF} {lim:Int}
theorem finV_ext (h:∀g av s,ExtR lim s (call g av s))(t:TTok)(av:List Int)(s:IS):ExtR lim s (finV p locals vals call t av s):=by
 unfold finV
 split
 ·exact Ext.refl _ _
 ·split
  ·exact Ext.refl _ _
  ·split
   ·exact h _ _ _
   ·exact Ext.refl _ _
mutual
theorem evE_ext (h:∀g av s,ExtR lim s (call g av s)):∀(e:Ex) (s:IS),ExtR lim s (evE p locals vals call e s)
 | .node t es,s=>by
  have hs:=evEs_ext h es s
  rw[evE]
  cases hr:evEs p locals vals call es s with
  | ok av s1=>
   rw[hr]at hs
   rw[Rr.bnd_ok]
   exact ExtR.trans hs (finV_ext h t av s1)
  | stop c s1=>rw[hr]at hs;exact hs
  | fuel=>trivial
theorem evEs_ext (h:∀g av s,ExtR lim s (call g av s)):∀(es:List Ex) (s:IS),ExtR lim s (evEs p locals vals call es s)
 | [],s=>by rw[evEs];exact Ext.refl _ _
 | a::es,s=>by
  have h1:=evE_ext h a s
  rw[evEs]
  cases hr:evE p locals vals call a s with
  | ok v s1=>
   rw[hr]at h1
   rw[Rr.bnd_ok]
   have h2:=evEs_ext h es s1
   cases hr2:evEs p locals vals call es s1 with
   | ok vs s2=>rw[hr2]at h2;exact Ext.trans h1 h2
   | stop c s2=>rw[hr2]at h2;exact⟨Ext.trans h1 h2.1,h2.2⟩
   | fuel=>trivial
  | stop c s1=>rw[hr]at h1;exact h1
  | fuel=>trivial
end
theorem visit_ext {s:IS}(hv:(s.visits.length:Int)≠lim)(row:List Int):Ext lim s ⟨s.out,s.visits++[row]⟩:=⟨List.prefix_refl _,List.prefix_append _ _,fun h=>by rw[List.length_append];simp only[List.length_cons,List.length_nil];omega,by simp;omega⟩
theorem out_ext {ln:TLine}{s s':IS}{row:List Int}{v:Int}(hv:(s.visits.length:Int)≠lim)(h:Ext lim ⟨s.out,s.visits++[row]⟩ s'):Ext lim s (outV ln s' v):=by
 have h0:=(visit_ext hv row).trans h
 have hol:=h.ol
 simp only[List.length_append,List.length_cons,List.length_nil]at hol
 unfold outV
 split
 ·exact⟨h0.out.trans (List.prefix_append _ _),h0.vis,h0.le,by simp only[List.length_append,List.length_cons,List.length_nil];omega⟩
 ·exact h0
theorem linesV_ext:∀(n:Nat) (calls:List Int) (f k:Nat) (vals:List Int) (s:IS),ExtR lim s (linesV p lim n calls f k vals s)
 | 0,_,_,_,_,_=>trivial
 | n+1,calls,f,k,vals,s=>by
  cases hk:p[k]? with
  | none=>rw[linesV_none hk];exact Ext.refl _ _
  | some ln=>
   by_cases h7:ln.fKind=7
   ·rw[linesV_end hk h7]
    split
    ·exact Ext.refl _ _
    ·exact linesV_ext n _ _ _ _ _
   by_cases h4:ln.fKind=4
   ·rw[linesV_else hk h4]
    exact linesV_ext n _ _ _ _ _
   by_cases hv:(s.visits.length:Int)=lim
   ·rw[linesV_full hk h7 h4 hv];exact⟨Ext.refl _ _,.inl rfl⟩
   ·rw[linesV_at hk h7 h4 hv]
    have hc:∀g av s,ExtR lim s (callV p lim n calls k g av s):=by
     intro g av s'
     unfold callV
     split
     ·exact⟨Ext.refl _ _,.inr rfl⟩
     ·exact linesV_ext n _ _ _ _ _
    have he:=evE_ext (p:=p) (locals:=localsOf p (f:Int)) (vals:=vals) hc (exL ln.fExpr) ⟨s.out,s.visits++[calls++[(k:Int)]]⟩
    cases hr:evE p (localsOf p (f:Int)) vals (callV p lim n calls k) (exL ln.fExpr) ⟨s.out,s.visits++[calls++[(k:Int)]]⟩with
    | ok v s1=>
     rw[hr]at he
     rw[Rr.bnd_ok]
     split
     ·exact(visit_ext hv _).trans he
     ·exact ExtR.trans (out_ext hv he) (linesV_ext n _ _ _ _ _)
    | stop c s1=>rw[hr]at he;exact⟨(visit_ext hv _).trans he.1,he.2⟩
    | fuel=>trivial
theorem callV_ext (n:Nat)(calls:List Int)(k:Nat):∀g av s,ExtR lim s (callV p lim n calls k g av s):=by
 intro g av s'
 unfold callV
 split
 ·exact⟨Ext.refl _ _,.inr rfl⟩
 ·exact linesV_ext n _ _ _ _ _
end
section
variable {p:List TLine} {locals:List (List UInt8)} {vals:List Int} {lim:Int} {calls:List Int} {k:Nat}
def callsKnown (p:List TLine)(l:List TTok):Prop:=∀t∈l,t.fKind=7→∃f,findN p 0 t.fName=some f
mutual
theorem evE_total (hc:∀g av (s:IS),(s.visits.length:Int)≤lim→(∃y,p[g]?=some y∧y.fKind=0)→∃n,callV p lim n calls k g av s≠.fuel):∀(e:Ex) (s:IS),(s.visits.length:Int)≤lim→callsKnown p e.toks→∃n,evE p locals vals (callV p lim n calls k) e s≠.fuel
 | .node t es,s,hs,hk=>by
  have hk':callsKnown p (exToks es):=fun t' ht=>hk t' (by rw[Ex.toks];exact List.mem_cons_of_mem _ ht)
  obtain⟨n,hn⟩:=evEs_total hc es s hs hk'
  have hx:=evEs_ext (p:=p) (locals:=locals) (vals:=vals) (callV_ext (p:=p) (lim:=lim) n calls k) es s
  cases hr:evEs p locals vals (callV p lim n calls k) es s with
  | ok av s1=>
   rw[hr]at hx
   by_cases h7:t.fKind=7
   ·obtain⟨f,hf⟩:=hk t (by rw[Ex.toks];exact List.mem_cons_self ..) h7
    obtain⟨_,y,hy,h0,_⟩:=find_some hf
    obtain⟨m,hm⟩:=hc f av s1 (hx.le hs) ⟨y,hy,h0⟩
    refine⟨max n m,?_⟩
    rw[evE,evEs_mono (callV_mono (Nat.le_max_left n m)) es s hn,hr,Rr.bnd_ok,finV,if_neg (by omega),if_neg (by omega),if_pos h7,hf,Option.getD_some,callV_mono (Nat.le_max_right n m) _ _ _ hm]
    exact hm
   ·refine⟨n,?_⟩
    rw[evE,hr,Rr.bnd_ok,finV,if_neg h7]
    split
    ·exact fun e=>by cases e
    ·split
     ·exact fun e=>by cases e
     ·exact fun e=>by cases e
  | stop c s1=>exact⟨n,by rw[evE,hr];exact fun e=>by cases e⟩
  | fuel=>exact absurd hr hn
theorem evEs_total (hc:∀g av (s:IS),(s.visits.length:Int)≤lim→(∃y,p[g]?=some y∧y.fKind=0)→∃n,callV p lim n calls k g av s≠.fuel):∀(es:List Ex) (s:IS),(s.visits.length:Int)≤lim→callsKnown p (exToks es)→∃n,evEs p locals vals (callV p lim n calls k) es s≠.fuel
 | [],s,_,_=>⟨0,by rw[evEs];exact fun e=>by cases e⟩
 | a::es,s,hs,hk=>by
  obtain⟨n,hn⟩:=evE_total hc a s hs (fun t ht=>hk t (by rw[exToks];exact List.mem_append.2 (.inl ht)))
  have hx:=evE_ext (p:=p) (locals:=locals) (vals:=vals) (callV_ext (p:=p) (lim:=lim) n calls k) a s
  cases hr:evE p locals vals (callV p lim n calls k) a s with
  | ok v s1=>
   rw[hr]at hx
   obtain⟨m,hm⟩:=evEs_total hc es s1 (hx.le hs) (fun t ht=>hk t (by rw[exToks];exact List.mem_append.2 (.inr ht)))
   refine⟨max n m,?_⟩
   rw[evEs,evE_mono (callV_mono (Nat.le_max_left n m)) a s hn,hr,Rr.bnd_ok,evEs_mono (callV_mono (Nat.le_max_right n m)) es s1 hm]
   cases hr2:evEs p locals vals (callV p lim m calls k) es s1 with
   | ok vs s2=>exact fun e=>by cases e
   | stop c s2=>exact fun e=>by cases e
   | fuel=>exact absurd hr2 hm
  | stop c s1=>exact⟨n,by rw[evEs,hr];exact fun e=>by cases e⟩
  | fuel=>exact absurd hr hn
end
end
structure InF (p:List TLine) (f e k:Nat):Prop where
 fn:∃y,p[f]?=some y∧y.fKind=0
 en:endAt p f=some e
 lo:f < k
 hi:k≤e
section
variable {p:List TLine} {f e k:Nat} {ln:TLine}
abbrev cx0 (p:List TLine)(f:Nat):Cx:=⟨p,⟨0,0,false,false⟩,false,0,argsN p f⟩
theorem PgOk.cx0 (hp:PgOk p)(h:∃y,p[f]?=some y∧y.fKind=0):CxOk (cx0 p f):=by
 obtain⟨y,hy,_⟩:=h
 refine hp.cx ?_ (by omega) (by simp)
 have:=(hp.line f y hy).2.2.1
 show(0:Int)≤(argsN p f:Int)∧(argsN p f:Int)≤4
 rw[argsN,hy];dsimp only;omega
theorem scope0 (h:∃y,p[f]?=some y∧y.fKind=0):ScOk (cx0 p f) (outerSc (cx0 p f) f) [f]:=⟨h,rfl,⟨Int.le_refl _,by simp[outerSc]⟩,rfl,by simp[outerSc],fun _=>rfl,rfl⟩
theorem InF.own7 (hp:PgOk p)(h:InF p f e k)(hk:p[k]?=some ln)(h7:ln.fKind=7):endAt p (ownOf p k)=some k∧((k=e∧ownOf p k=f)∨(k < e∧f < ownOf p k∧ownOf p k < k∧∃y,p[ownOf p k]?=some y∧(y.fKind=3∨y.fKind=5))):=
 ScOk.own7 (hp.cx0 h.fn) (scope0 h.fn) h.en h.lo h.hi hk h7
theorem InF.own4 (hp:PgOk p)(h:InF p f e k)(hk:p[k]?=some ln)(h4:ln.fKind=4):elseAt p (ownOf p k)=some k∧f < ownOf p k∧ownOf p k < k∧k < e:=
 ScOk.own4 (hp.cx0 h.fn) (scope0 h.fn) h.en h.lo h.hi hk h4
theorem InF.kind (hp:PgOk p)(h:InF p f e k)(hk:p[k]?=some ln):ln.fKind≠0:=lines_kinds (hp.cx0 h.fn) (scope0 h.fn) h.en h.lo h.hi hk
theorem InF.line (hp:PgOk p)(h:InF p f e k):∃ln,p[k]?=some ln∧1≤ln.fKind∧ln.fKind≤7∧(ln.fKind=7∨k < e):=by
 have he:=endAt_some h.en
 obtain⟨_,_,_,_,_,hl⟩:=he
 obtain⟨ln,hk⟩:=get_of_lt (l:=p) (k:=k) (by have:=h.hi;omega)
 have h1:=h.kind hp hk
 have h2:=hp.line k ln hk
 refine⟨ln,hk,by omega,h2.2.1,?_⟩
 by_cases hke:k=e
 ·subst hke
  obtain⟨y,hy,h7⟩:=endAt_kind h.en
  rw[hk]at hy;injection hy with hy;subst hy
  exact .inl h7
 ·have:=h.hi;exact .inr (by omega)
theorem InF.at (h:InF p f e k){j:Nat}(h1:f < j)(h2:j≤e):InF p f e j:=⟨h.fn,h.en,h1,h2⟩
theorem InF.skip (hp:PgOk p)(h:InF p f e k)(hk:p[k]?=some ln)(h35:ln.fKind=3∨ln.fKind=5)(hke:k < e):k < skipAt p k∧skipAt p k < e:=by
 obtain⟨m,hm,m1,m2⟩:=endAt_in h.en h.lo hke hk (by rw[opensK_iff];omega)
 unfold skipAt
 split
 ·rename_i j hj
  obtain⟨_,e',_,_,he',q1,q2,_⟩:=elseAt_some hj
  rw[hm]at he';injection he' with he';subst he'
  omega
 ·rw[endL',hm]
  exact⟨m1,m2⟩
theorem InF.elseNext (hp:PgOk p)(h:InF p f e k)(hk:p[k]?=some ln)(h4:ln.fKind=4):k < endL' p (ownOf p k)∧endL' p (ownOf p k) < e:=by
 obtain⟨q1,q2,q3,q4⟩:=h.own4 hp hk h4
 obtain⟨x,e',hx,h3,he',r1,r2,_⟩:=elseAt_some q1
 obtain⟨m,hm,m1,m2⟩:=endAt_in h.en q2 (by omega) hx (by rw[opensK_iff];omega)
 rw[he']at hm;injection hm with hm;subst hm
 rw[endL',he']
 exact⟨r2,m2⟩
theorem InF.next (hp:PgOk p)(h:InF p f e k)(hk:p[k]?=some ln)(h7:ln.fKind≠7)(v:Int):InF p f e (nextV p ln k v)∧k < nextV p ln k v:=by
 have hke:k < e:=by
  obtain⟨l,hl,_,_,h5⟩:=h.line hp
  rw[hk]at hl;injection hl with hl;subst hl
  omega
 have hlo:=h.lo
 unfold nextV
 split
 ·rename_i hc
  have:=h.skip hp hk hc.1 hke
  exact⟨h.at (by omega) (by omega),by omega⟩
 ·exact⟨h.at (by omega) (by omega),by omega⟩
theorem InF.start (hp:PgOk p){g:Nat}(h:∃y,p[g]?=some y∧y.fKind=0):∃e,InF p g e (g+1):=by
 obtain⟨y,hy,h0⟩:=h
 obtain⟨e,he,_⟩:=hp.fn g y hy h0
 obtain⟨_,_,_,_,h1,_⟩:=endAt_some he
 exact⟨e,⟨⟨y,hy,h0⟩,he,by omega,by omega⟩⟩
theorem InF.known (hp:PgOk p)(h:InF p f e k)(hk:p[k]?=some ln)(h7:ln.fKind≠7)(h4:ln.fKind≠4):exprOk ln.fExpr=true∧(exL ln.fExpr).ok∧ln.fExpr=(exL ln.fExpr).toks∧callsKnown p (exL ln.fExpr).toks:=by
 obtain⟨l,hl,h1,h2,h5⟩:=h.line hp
 rw[hk]at hl;injection hl with hl;subst hl
 have he:=(hp.line k ln hk).2.2.2.2 (by omega)
 obtain⟨e1,e2⟩:=exL_ok he
 refine⟨he,e1,e2,?_⟩
 rw[←e2]
 obtain⟨y,hy,h0⟩:=h.fn
 obtain⟨e',g1,_,_,g2⟩:=hp.fn f y hy h0
 rw[h.en]at g1;injection g1 with g1;subst g1
 intro t ht ht7
 obtain⟨q,hq,_⟩:=(g2 k ln h.lo (by omega) hk).2.1 t ht ht7
 exact⟨q,hq⟩
end
section
variable {p:List TLine} {lim:Int}
theorem lines_go (hp:PgOk p)(calls:List Int)(hcall:∀(k g:Nat) (av:List Int) (s:IS),(s.visits.length:Int)≤lim→(∃y,p[g]?=some y∧y.fKind=0)→∃n,callV p lim n calls k g av s≠.fuel):
  ∀(m:Nat) (s:IS),(s.visits.length:Int)≤lim→lim - s.visits.length < m→∀(c f e k:Nat) (vals:List Int),InF p f e k→e - k≤c→∃n,linesV p lim n calls f k vals s≠.fuel
 | 0,s,h1,h2,_,_,_,_,_,_,_=>by omega
 | m+1,s,h1,h2,c,f,e,k,vals,hI,hc=>by
  have vis:∀(k:Nat) (ln:TLine),InF p f e k→p[k]?=some ln→ln.fKind≠7→ln.fKind≠4→∃n,linesV p lim n calls f k vals s≠.fuel:=by
   intro k ln hI hk h7 h4
   by_cases hv:(s.visits.length:Int)=lim
   ·exact⟨1,by rw[linesV_full hk h7 h4 hv];exact fun e=>by cases e⟩
   obtain⟨_,e1,e2,e3⟩:=hI.known hp hk h7 h4
   have hl1:(((⟨s.out,s.visits++[calls++[(k:Int)]]⟩:IS).visits.length:Nat):Int)≤lim:=by simp only[List.length_append,List.length_cons,List.length_nil];omega
   obtain⟨n,hn⟩:=evE_total (locals:=localsOf p (f:Int)) (vals:=vals) (hcall k) (exL ln.fExpr) ⟨s.out,s.visits++[calls++[(k:Int)]]⟩ hl1 e3
   have hx:=evE_ext (p:=p) (locals:=localsOf p (f:Int)) (vals:=vals) (callV_ext (p:=p) (lim:=lim) n calls k) (exL ln.fExpr) ⟨s.out,s.visits++[calls++[(k:Int)]]⟩
   cases hr:evE p (localsOf p (f:Int)) vals (callV p lim n calls k) (exL ln.fExpr) ⟨s.out,s.visits++[calls++[(k:Int)]]⟩with
   | fuel=>exact absurd hr hn
   | stop c s1=>exact⟨n+1,by rw[linesV_at hk h7 h4 hv,hr];exact fun e=>by cases e⟩
   | ok v s1=>
    rw[hr]at hx
    by_cases h6:ln.fKind=6
    ·exact⟨n+1,by rw[linesV_at hk h7 h4 hv,hr,Rr.bnd_ok,if_pos h6];exact fun e=>by cases e⟩
    have hx2:=out_ext (ln:=ln) (v:=v) hv hx
    have hlen:s.visits.length+1≤(outV ln s1 v).visits.length:=by
     have:=hx.vis.length_le
     simp only[List.length_append,List.length_cons,List.length_nil]at this
     have e:(outV ln s1 v).visits=s1.visits:=by unfold outV;split <;> rfl
     rw[e];exact this
    obtain⟨n2,hn2⟩:=lines_go hp calls hcall m (outV ln s1 v) (hx2.le h1) (by omega) _ f e (nextV p ln k v) (setV (localsOf p (f:Int)) ln vals v) (hI.next hp hk h7 v).1 (Nat.le_refl _)
    refine⟨max n n2+1,?_⟩
    rw[linesV_at hk h7 h4 hv,evE_mono (callV_mono (Nat.le_max_left n n2)) _ _ hn,hr,Rr.bnd_ok,if_neg h6,linesV_mono hn2 (Nat.le_max_right n n2)]
    exact hn2
  have pos:∀(c k:Nat),InF p f e k→e - k≤c→∃n,linesV p lim n calls f k vals s≠.fuel:=by
   intro c
   induction c with
   | zero=>
    intro k hI hc
    obtain⟨ln,hk,_,_,h7⟩:=hI.line hp
    have h7:ln.fKind=7:=by omega
    have hke:k=e:=by have:=hI.hi;omega
    obtain⟨_,h|h⟩:=hI.own7 hp hk h7
    ·exact⟨1,by rw[linesV_end hk h7,if_pos h.2];exact fun e=>by cases e⟩
    ·omega
   | succ c ih=>
    intro k hI hc
    obtain⟨ln,hk,_,_,hke⟩:=hI.line hp
    by_cases h7:ln.fKind=7
    ·obtain⟨_,h|⟨q1,q2,q3,y,hy,q4⟩⟩:=hI.own7 hp hk h7
     ·exact⟨1,by rw[linesV_end hk h7,if_pos h.2];exact fun e=>by cases e⟩
     ·have hne:ownOf p k≠f:=by omega
      by_cases h5:y.fKind=5
      ·have hI2:InF p f e (ownOf p k):=hI.at q2 (by omega)
       obtain⟨n,hn⟩:=vis (ownOf p k) y hI2 hy (by omega) (by omega)
       exact⟨n+1,by rw[linesV_end hk h7,if_neg hne,kindAt_of hy,if_pos h5];exact hn⟩
      ·obtain⟨n,hn⟩:=ih (k+1) (hI.at (by have:=hI.lo;omega) (by omega)) (by omega)
       exact⟨n+1,by rw[linesV_end hk h7,if_neg hne,kindAt_of hy,if_neg h5];exact hn⟩
    ·by_cases h4:ln.fKind=4
     ·have hn4:=hI.elseNext hp hk h4
      obtain⟨n,hn⟩:=ih (endL' p (ownOf p k)+1) (hI.at (by have:=hI.lo;omega) (by omega)) (by omega)
      exact⟨n+1,by rw[linesV_else hk h4];exact hn⟩
     ·exact vis k ln hI hk h7 h4
  exact pos c k hI hc
theorem linesV_total (hp:PgOk p):∀(d:Nat) (calls:List Int),calls.length+d=6→∀(f e k:Nat) (vals:List Int) (s:IS),(s.visits.length:Int)≤lim→InF p f e k→∃n,linesV p lim n calls f k vals s≠.fuel
 | 0,calls,hcl,f,e,k,vals,s,hs,hI=>
  lines_go hp calls (fun k g av s _ _=>⟨0,by unfold callV;rw[if_pos (by omega)];exact fun e=>by cases e⟩) ((lim - s.visits.length).toNat+1) s hs (by omega) _ f e k vals hI (Nat.le_refl _)
 | d+1,calls,hcl,f,e,k,vals,s,hs,hI=>
  lines_go hp calls (fun k g av s hs hg=>by
   obtain⟨e,he⟩:=InF.start hp hg
   obtain⟨n,hn⟩:=linesV_total hp d (calls++[(k:Int)]) (by rw[List.length_append];simp;omega) g e (g+1) (padV (localsOf p (g:Int)).length av) s hs he
   exact⟨n,by unfold callV;split;exact(fun e=>by cases e);exact hn⟩) ((lim - s.visits.length).toNat+1) s hs (by omega) _ f e k vals hI (Nat.le_refl _)
end
end Go.Proofs.Ytjmplnfiabmalaa
namespace Go.Proofs.Ytjmplnfiabmalaa
open Go.Sim
set_option maxRecDepth 100000
set_option maxHeartbeats 4000000
mutual
theorem Ex.toks_inj:∀(a b:Ex) (r r':List TTok),a.ok→b.ok→a.toks++r=b.toks++r'→a=b∧r=r'
 | .node t es,.node u fs,r,r',ha,hb,h=>by
  rw[Ex.toks,Ex.toks,List.cons_append,List.cons_append]at h
  injection h with h1 h2
  subst h1
  obtain⟨e1,e2⟩:=exToks_inj es fs r r' (by rw[ha.2.1,hb.2.1]) ha.2.2 hb.2.2 h2
  exact⟨by rw[e1],e2⟩
theorem exToks_inj:∀(a b:List Ex) (r r':List TTok),a.length=b.length→exsOk a→exsOk b→exToks a++r=exToks b++r'→a=b∧r=r'
 | [],[],r,r',_,_,_,h=>⟨rfl,by simpa [exToks]using h⟩
 | x::a,y::b,r,r',hl,ha,hb,h=>by
  rw[exToks,exToks,List.append_assoc,List.append_assoc]at h
  obtain⟨e1,h2⟩:=Ex.toks_inj x y _ _ ha.1 hb.1 h
  obtain⟨e2,h3⟩:=exToks_inj a b r r' (by simpa using hl) ha.2 hb.2 h2
  exact⟨by rw[e1,e2],h3⟩
 | [],_::_,_,_,hl,_,_,_=>by simp at hl
 | _::_,[],_,_,hl,_,_,_=>by simp at hl
end
theorem exL_eq {e:Ex}(h:e.ok)(hl:exprOk e.toks=true):exL e.toks=e:=by
 obtain⟨h1,h2⟩:=exL_ok hl
 exact(Ex.toks_inj (exL e.toks) e [] [] h1 h (by rw[List.append_nil,List.append_nil];exact h2.symm)).1
theorem exL_fold {l:List TTok}(h:exprOk l=true):exL (foldL l)=(exL l).fold:=by
 obtain⟨e,h1,h2,h3⟩:=foldL_ok h
 have h4:=(foldL_facts h).1
 rw[h3]at h4 ⊢
 have he:exL l=e:=by
  have h5:=h
  rw[h2]at h5 ⊢
  exact exL_eq h1 h5
 rw[exL_eq (e.fold_ok h1) h4,he]
section
variable {p q:List TLine} {locals:List (List UInt8)} {vals:List Int} {call:CallF}
theorem finF_ev (t:TTok)(fs:List Ex)(s:IS):evE p locals vals call (finF t fs) s=evE p locals vals call (.node t fs) s:=by
 unfold finF
 split
 ·rename_i a b
  split
  ·rename_i hc
   obtain⟨c1,c2,c3,c4⟩:=hc
   have c1:=within_iff.1 c1
   have e0:∀(x:TTok) (s:IS),x.fKind=0→evE p locals vals call (.node x []) s= .ok x.fNum s:=fun x s hx=>by
    rw[evE,evEs,Rr.bnd_ok,finV,if_pos hx]
   rw[numE,e0 _ s rfl,evE,evEs,e0 a s c2,Rr.bnd_ok,evEs,e0 b s c3,Rr.bnd_ok,evEs,Rr.bnd_ok,Rr.bnd_ok,Rr.bnd_ok,finV,if_neg (by omega),if_neg (by omega),if_neg (by omega)]
   rfl
  ·rfl
 ·rfl
mutual
theorem evE_fold:∀(e:Ex) (s:IS),evE p locals vals call e.fold s=evE p locals vals call e s
 | .node t es,s=>by
  rw[Ex.fold,finF_ev,evE,evE,evEs_fold es s]
theorem evEs_fold:∀(es:List Ex) (s:IS),evEs p locals vals call (exFold es) s=evEs p locals vals call es s
 | [],s=>by rw[exFold]
 | a::es,s=>by
  rw[exFold,evEs,evEs,evE_fold a s]
  cases evE p locals vals call a s with
  | ok v s1=>rw[Rr.bnd_ok,Rr.bnd_ok,evEs_fold es s1]
  | stop c s1=>rfl
  | fuel=>rfl
end
mutual
theorem evE_names (hf:∀nm,findN p 0 nm=findN q 0 nm):∀(e:Ex) (s:IS),evE p locals vals call e s=evE q locals vals call e s
 | .node t es,s=>by
  rw[evE,evE,evEs_names hf es s]
  congr 1
  funext av s'
  unfold finV
  rw[hf]
theorem evEs_names (hf:∀nm,findN p 0 nm=findN q 0 nm):∀(es:List Ex) (s:IS),evEs p locals vals call es s=evEs q locals vals call es s
 | [],s=>by rw[evEs,evEs]
 | a::es,s=>by
  rw[evEs,evEs,evE_names hf a s]
  cases evE q locals vals call a s with
  | ok v s1=>rw[Rr.bnd_ok,Rr.bnd_ok,evEs_names hf es s1]
  | stop c s1=>rfl
  | fuel=>rfl
end
end
theorem alike.kindAt {p q:List TLine}(h:alike p q)(k:Nat):kindAt p k=kindAt q k:=by
 unfold Go.Proofs.Ytjmplnfiabmalaa.kindAt
 cases hx:p[k]? with
 | none=>rw[h.none hx]
 | some x=>obtain⟨y,hy,e1,_⟩:=h.get hx;rw[hy];exact e1
theorem alike.ownN {p q:List TLine}(h:alike p q)(k:Nat):∀n,ownN p k n=ownN q k n
 | 0=>rfl
 | n+1=>by rw[Go.Proofs.Ytjmplnfiabmalaa.ownN,Go.Proofs.Ytjmplnfiabmalaa.ownN,h.endAt,h.elseAt,alike.ownN h k n]
theorem alike.ownOf {p q:List TLine}(h:alike p q)(k:Nat):ownOf p k=ownOf q k:=by
 unfold Go.Proofs.Ytjmplnfiabmalaa.ownOf;rw[h.ownN,h.len]
theorem alike.skipAt {p q:List TLine}(h:alike p q)(k:Nat):skipAt p k=skipAt q k:=by
 unfold Go.Proofs.Ytjmplnfiabmalaa.skipAt;rw[h.elseAt,endL',endL',h.endAt]
theorem alike.anyE {p q:List TLine}(h:alike p q)(i:Nat):∀n j,anyE p i n j=anyE q i n j
 | 0,_=>rfl
 | n+1,j=>by rw[Go.Proofs.Ytjmplnfiabmalaa.anyE,Go.Proofs.Ytjmplnfiabmalaa.anyE,h.elseAt,alike.anyE h i n]
theorem alike.elsesIn {p q:List TLine}(h:alike p q)(k e:Nat):∀n i,elsesIn p k e n i=elsesIn q k e n i
 | 0,_=>rfl
 | n+1,i=>by
  rw[Go.Proofs.Ytjmplnfiabmalaa.elsesIn,Go.Proofs.Ytjmplnfiabmalaa.elsesIn]
  cases hx:p[i]? with
  | none=>rw[h.none hx]
  | some x=>obtain⟨y,hy,e1,_⟩:=h.get hx;rw[hy];dsimp only;rw[e1,h.anyE,alike.elsesIn h k e n]
theorem alike.find {p q:List TLine}(h:alike p q)(s:List UInt8):Go.Proofs.Ytjmplnfiabmalaa.findN p 0 s=Go.Proofs.Ytjmplnfiabmalaa.findN q 0 s:=h.findN 0 s
theorem alike.nameFirst {p q:List TLine}(h:alike p q)(k:Nat):nameFirst p k=nameFirst q k:=by
 unfold Go.Proofs.Ytjmplnfiabmalaa.nameFirst
 cases hx:p[k]? with
 | none=>rw[h.none hx]
 | some x=>obtain⟨y,hy,_,e2,_⟩:=h.get hx;rw[hy];dsimp only;rw[e2,h.find]
theorem alike.headOk {p q:List TLine}(h:alike p q):headOk p=headOk q:=by
 cases p with
 | nil=>have:=h.len;cases q with
  | nil=>rfl
  | cons=>simp at this
 | cons x p=>cases q with
  | nil=>have:=h.len;simp at this
  | cons y q=>
   obtain⟨z,hz,e1,e2,e3⟩:=h.get (k:=0) (x:=x) rfl
   simp at hz
   subst hz
   unfold Go.Proofs.Ytjmplnfiabmalaa.headOk
   dsimp only
   rw[e1,e2,e3]
theorem chainN_mono {F F':Nat→Nat→Bool}{p q:List TLine}(h:alike p q)(hF:∀k e,F k e=true→F' k e=true):∀n k,chainN F p n k=true→chainN F' q n k=true
 | 0,k,hc=>by rw[chainN]at hc ⊢;rw[←h.len];exact hc
 | n+1,k,hc=>by
  rw[chainN]at hc ⊢
  rw[←h.len]
  split
  ·rename_i hk
   rw[if_pos hk]at hc
   split at hc
   ·rename_i x e hx he
    obtain⟨y,hy,e1,_⟩:=h.get hx
    rw[hy,←h.endAt,he]
    dsimp only
    split at hc
    ·rename_i hcc
     rw[if_pos ⟨by rw[←e1];exact hcc.1,hF _ _ hcc.2⟩]
     exact chainN_mono h hF n _ hc
    ·cases hc
   ·cases hc
  ·rfl
theorem lineOk_expr {x:TLine}(h:lineOk x=true):exprOk x.fExpr=true∨x.fExpr=[]:=by
 unfold lineOk at h
 simp only[Bool.and_eq_true]at h
 obtain⟨_,_,_,h⟩:=h
 split at h
 ·exact .inl h
 ·exact .inr (List.length_eq_zero_iff.1 (eq_of_beq h))
theorem foldLine_kind (x:TLine):(foldLine x).fKind=x.fKind∧(foldLine x).fName=x.fName∧(foldLine x).fArgs=x.fArgs:=by
 unfold foldLine;split <;> exact⟨rfl,rfl,rfl⟩
theorem foldLine_expr {x:TLine}(h:exprOk x.fExpr=true∨x.fExpr=[]):(exprOk x.fExpr=true∧(foldLine x).fExpr=foldL x.fExpr)∨(x.fExpr=[]∧foldLine x=x):=by
 rcases h with h|h
 ·have hp:0 < x.fExpr.length:=by
   unfold exprOk at h
   simp only[Bool.and_eq_true,decide_eq_true_eq]at h
   exact h.2.1
  exact .inl ⟨h,by rw[foldLine,if_pos hp]⟩
 ·exact .inr ⟨h,by rw[foldLine,if_neg (by rw[h];simp)]⟩
theorem foldLine_ok {x:TLine}(h:lineOk x=true):lineOk (foldLine x)=true:=by
 obtain⟨k1,k2,k3⟩:=foldLine_kind x
 unfold lineOk at h ⊢
 rw[k1,k2,k3]
 simp only[Bool.and_eq_true]at h ⊢
 obtain⟨h1,h2,h3,h4⟩:=h
 refine⟨h1,h2,h3,?_⟩
 split
 ·rename_i hx
  rw[if_pos hx]at h4
  rcases foldLine_expr (.inl h4)with⟨_,e⟩|⟨e,_⟩
  ·rw[e];exact(foldL_facts h4).1
  ·rw[e]at h4;simp[exprOk]at h4
 ·rename_i hx
  rw[if_neg hx]at h4
  have:x.fExpr=[]:=List.length_eq_zero_iff.1 (eq_of_beq h4)
  rw[foldLine,if_neg (by rw[this];simp)]
  exact h4
theorem tokKnown_alike {p q:List TLine}(h:alike p q)(locals:List (List UInt8))(t:TTok):tokKnown p locals t=tokKnown q locals t:=by
 unfold tokKnown
 rw[h.find]
 split
 ·rfl
 ·split
  ·split
   ·rename_i f _
    cases hx:p[f]? with
    | none=>rw[h.none hx]
    | some x=>obtain⟨y,hy,_,_,e3⟩:=h.get hx;rw[hy];dsimp only;rw[e3]
   ·rfl
  ·rfl
theorem known_fold {p:List TLine}{locals:List (List UInt8)}{x:TLine}(he:exprOk x.fExpr=true∨x.fExpr=[])(h:exprKnown p locals x.fExpr=true):exprKnown (p.map foldLine) locals (foldLine x).fExpr=true:=by
 unfold exprKnown at *
 rw[List.all_eq_true]at *
 intro z hz
 rw[tokKnown_alike (foldLine_alike p)]
 rcases foldLine_expr he with⟨h1,e⟩|⟨_,e⟩
 ·rw[e]at hz
  rcases(foldL_facts h1).2 z hz with hz|⟨n,rfl⟩
  ·exact h z hz
  ·simp[tokKnown]
 ·rw[e]at hz;exact h z hz
theorem body_fold {p:List TLine}(hl:∀x∈p,exprOk x.fExpr=true∨x.fExpr=[]){locals:List (List UInt8)}{e:Nat}:∀n i d,bodyN p locals e n i d=true→bodyN (p.map foldLine) locals e n i d=true
 | 0,_,_,_=>rfl
 | n+1,i,d,h=>by
  rw[bodyN]at h ⊢
  split
  ·rename_i hi
   rw[if_pos hi]at h
   cases hx:p[i]? with
   | none=>rw[hx]at h;cases h
   | some x=>
    rw[hx]at h
    rw[List.getElem?_map,hx]
    dsimp only[Option.map_some]at h ⊢
    have hd:dep (foldLine x) d=dep x d:=by unfold dep;rw[(foldLine_kind x).1]
    rw[(foldLine_kind x).1,hd]
    split at h
    ·cases h
    ·rename_i h0
     rw[if_neg h0]
     split at h
     ·rename_i hc
      rw[if_pos ⟨hc.1,known_fold (hl x (List.mem_of_getElem? hx)) hc.2⟩]
      exact body_fold hl n _ _ h
     ·cases h
  ·rfl
theorem programOk_fold {p:List TLine}(h:programOk p=true):programOk (p.map foldLine)=true:=by
 have ha:=foldLine_alike p
 unfold programOk at h ⊢
 simp only[Bool.and_eq_true,decide_eq_true_eq]at h ⊢
 obtain⟨h1,h2,h3,h4,h5,h6,h7⟩:=h
 have hfu:funs (p.map foldLine)=funs p:=ha.funsF 0
 have h3':=List.all_eq_true.1 h3
 refine⟨by rw[List.length_map];exact h1,by rw[hfu];exact h2,?_,by rw[ha.headOk];exact h4,?_,?_,?_⟩
 ·rw[List.all_eq_true]
  intro x hx
  obtain⟨y,hy,rfl⟩:=List.mem_map.1 hx
  exact foldLine_ok (h3' y hy)
 ·rw[hfu,List.all_eq_true]
  intro k hk
  rw[ha.nameFirst]
  exact List.all_eq_true.1 h5 k hk
 ·rw[List.length_map]
  refine chainN_mono (Eq.symm ha) (fun k e hf=>?_) _ _ h6
  unfold fnOk at hf ⊢
  rw[Bool.and_eq_true]at hf ⊢
  rw[ha.localsOf]
  exact⟨hf.1,body_fold (fun x hx=>lineOk_expr (h3' x hx)) _ _ _ hf.2⟩
 ·unfold elsesOk at h7 ⊢
  rw[ha.elsesIn,List.length_map]
  exact h7
theorem foldProg_ok {p:List TLine}(h:programOk p=true):foldProg p=p.map foldLine:=by rw[foldProg,if_pos h]
theorem finF_fold {t:TTok}{fs:List Ex}(h:exFold fs=fs):(finF t fs).fold=finF t fs:=by
 have hn:(Ex.node t fs).fold=finF t fs:=by rw[Ex.fold,h]
 unfold finF at hn ⊢
 split
 ·rename_i a b
  split
  ·rw[numE,Ex.fold,exFold,finF]
   intros;simp at *
  ·rename_i hc
   rw[hn]
   dsimp only
   rw[if_neg hc]
 ·rw[hn]
  split
  ·simp_all
  ·rfl
mutual
theorem Ex.fold_fold:∀e:Ex,e.fold.fold=e.fold
 | .node t es=>by rw[Ex.fold];exact finF_fold (exFold_fold es)
theorem exFold_fold:∀es:List Ex,exFold (exFold es)=exFold es
 | []=>by rw[exFold,exFold]
 | a::es=>by rw[exFold,exFold,a.fold_fold,exFold_fold es]
end
theorem foldL_fold {l:List TTok}(h:exprOk l=true):foldL (foldL l)=foldL l:=by
 obtain⟨e,h1,h2,h3⟩:=foldL_ok h
 have h4:=(foldL_facts h).1
 obtain⟨e2,g1,g2,g3⟩:=foldL_ok h4
 have:e2=e.fold:=(Ex.toks_inj e2 e.fold [] [] g1 (e.fold_ok h1) (by rw[List.append_nil,List.append_nil,←g2,h3])).1
 rw[g3,this,e.fold_fold,h3]
theorem foldLine_fold {x:TLine}(h:exprOk x.fExpr=true∨x.fExpr=[]):foldLine (foldLine x)=foldLine x:=by
 rcases foldLine_expr h with⟨h1,e⟩|⟨_,e⟩
 ·obtain⟨k1,k2,k3⟩:=foldLine_kind x
  rcases foldLine_expr (x:=foldLine x) (.inl (by rw[e];exact(foldL_facts h1).1))with⟨_,e2⟩|⟨_,e2⟩
  ·obtain⟨j1,j2,j3⟩:=foldLine_kind (foldLine x)
   have:∀(a b:TLine),a.fKind=b.fKind→a.fName=b.fName→a.fArgs=b.fArgs→a.fExpr=b.fExpr→a=b:=fun a b q1 q2 q3 q4=>by
    obtain⟨a1,a2,a3,a4⟩:=a;obtain⟨b1,b2,b3,b4⟩:=b;simp_all
   exact this _ _ j1 j2 j3 (by rw[e2,e,foldL_fold h1])
  ·exact e2
 ·rw[e,e]
theorem map_fold {p:List TLine}(h:programOk p=true):(p.map foldLine).map foldLine=p.map foldLine:=by
 unfold programOk at h
 simp only[Bool.and_eq_true,decide_eq_true_eq]at h
 have h3:=List.all_eq_true.1 h.2.2.1
 rw[List.map_map]
 exact List.map_congr_left fun x hx=>foldLine_fold (lineOk_expr (h3 x hx))
theorem linesV_fold {p:List TLine}(hl:∀x∈p,exprOk x.fExpr=true∨x.fExpr=[]){lim:Int}:∀(n:Nat) (calls:List Int) (f k:Nat) (vals:List Int) (s:IS),linesV (p.map foldLine) lim n calls f k vals s=linesV p lim n calls f k vals s
 | 0,_,_,_,_,_=>rfl
 | n+1,calls,f,k,vals,s=>by
  have ha:=foldLine_alike p
  cases hk:p[k]? with
  | none=>rw[linesV_none hk,linesV_none (by rw[List.getElem?_map,hk];rfl)]
  | some ln=>
   have hk':(p.map foldLine)[k]?=some (foldLine ln):=by rw[List.getElem?_map,hk];rfl
   obtain⟨k1,k2,k3⟩:=foldLine_kind ln
   by_cases h7:ln.fKind=7
   ·rw[linesV_end hk h7,linesV_end hk' (by rw[k1];exact h7),ha.ownOf,ha.kindAt,linesV_fold hl n]
   by_cases h4:ln.fKind=4
   ·rw[linesV_else hk h4,linesV_else hk' (by rw[k1];exact h4),ha.ownOf,endL',endL',ha.endAt,linesV_fold hl n]
   by_cases hv:(s.visits.length:Int)=lim
   ·rw[linesV_full hk h7 h4 hv,linesV_full hk' (by rw[k1];exact h7) (by rw[k1];exact h4) hv]
   ·rw[linesV_at hk h7 h4 hv,linesV_at hk' (by rw[k1];exact h7) (by rw[k1];exact h4) hv]
    have hc:callV (p.map foldLine) lim n calls k=callV p lim n calls k:=by
     funext g av s'
     unfold callV
     rw[linesV_fold hl n,ha.localsOf]
    have he:∀s1,evE (p.map foldLine) (localsOf (p.map foldLine) (f:Int)) vals (callV (p.map foldLine) lim n calls k) (exL (foldLine ln).fExpr) s1=evE p (localsOf p (f:Int)) vals (callV p lim n calls k) (exL ln.fExpr) s1:=by
     intro s1
     rw[hc,ha.localsOf,evE_names (q:=p) ha.find]
     rcases foldLine_expr (hl ln (List.mem_of_getElem? hk))with⟨h1,e⟩|⟨_,e⟩
     ·rw[e,exL_fold h1,evE_fold]
     ·rw[e]
    rw[he]
    congr 1
    funext v s'
    have e1:nextV (p.map foldLine) (foldLine ln) k v=nextV p ln k v:=by unfold nextV;rw[k1,ha.skipAt]
    have e2:setV (localsOf (p.map foldLine) (f:Int)) (foldLine ln) vals v=setV (localsOf p (f:Int)) ln vals v:=by unfold setV;rw[k1,k2,ha.localsOf]
    have e3:outV (foldLine ln) s' v=outV ln s' v:=by unfold outV;rw[k1]
    rw[k1,e1,e2,e3,linesV_fold hl n]
end Go.Proofs.Ytjmplnfiabmalaa
namespace Go.Proofs.Ytjmplnfiabmalaa
open Go.Sim
set_option maxRecDepth 100000
set_option maxHeartbeats 4000000
theorem s_laws_sameIntsR (l:List Int)(hl:l.length≤2097152):Sim.Spec Try.prog 20 [tvL 1 (l.map intRow),tvL 1 (l.map intRow)] (rB true):=by
 refine spec_of_Wo hΓ hmix Try.func20 rfl (by decide) rfl ?_
 have hlen:(l.map intRow).length=l.length:=by simp
 repeat' ((conv=>whnf);first|(with_reducible first|apply Wx|apply W6)|apply oi|(apply fi<;>intro h)|refine⟨_,rfl,?_⟩|((with_reducible show _=_);rfl))
 all_goals try((with_reducible refine Obl.mk ?_);exact KP)
 all_goals try(exfalso;simp at h;done)
 conv=>whnf
 refine⟨{k:Nat // k≤l.length},fun k=>⟨[(0,.r (.c (.t (.lst 1 (l.map intRow))))),(1,.r (.c (.t (.lst 1 (l.map intRow))))),(5,tI .i64 (k.1:Int))],[],[]⟩,fun k=>l.length - k.1,⟨0,by omega⟩,?_,?_⟩
 ·skip
  repeat' ((conv=>whnf);first|(with_reducible first|apply Wx|apply W6)|apply oi|(apply fi<;>intro h)|refine⟨_,rfl,?_⟩|((with_reducible show _=_);rfl))
  all_goals try((with_reducible refine Obl.mk ?_);exact KP)
 intro⟨k,hk⟩
 dsimp only
 by_cases hlt:k < l.length
 ·obtain⟨x,hx⟩:=get_of_lt hlt
  repeat' ((conv=>whnf);first|(with_reducible first|apply Wx|apply W6)|apply oi|(apply fi<;>intro h)|refine⟨k,(intRow x),rfl,map_get hx,?_⟩|refine⟨_,rfl,?_⟩|((with_reducible show _=_);rfl))
  all_goals try((with_reducible refine Obl.mk ?_);exact KP)
  all_goals try(exfalso;simp at h;done)
  conv=>whnf
  refine⟨⟨k+1,by omega⟩,?_,by dsimp only;omega⟩
  repeat' ((conv=>whnf);first|(with_reducible first|apply Wx|apply W6)|apply oi|(apply fi<;>intro h)|refine⟨_,rfl,?_⟩|((with_reducible show _=_);rfl))
  all_goals try((with_reducible refine Obl.mk ?_);exact KP)
  all_goals try exact⟨KW⟩
 ·skip
  repeat' ((conv=>whnf);first|(with_reducible first|apply Wx|apply W6)|apply oi|(apply fi<;>intro h)|refine⟨_,rfl,?_⟩|((with_reducible show _=_);rfl))
  all_goals try((with_reducible refine Obl.mk ?_);exact KP)
  all_goals try exact KX
theorem s_laws_sameVisits (l:List (List Int))(hl:l.length≤2097152)(hr:∀x∈l,x.length≤2097152):Sim.Spec Try.prog 21 [tvL 1 (l.map visRow),tvL 1 (l.map visRow)] (rB true):=by
 refine spec_of_Wo hΓ hmix Try.func21 rfl (by decide) rfl ?_
 have hlen:(l.map visRow).length=l.length:=by simp
 repeat' ((conv=>whnf);first|(with_reducible first|apply Wx|apply W6)|apply oi|(apply fi<;>intro h)|refine⟨_,rfl,?_⟩|((with_reducible show _=_);rfl))
 all_goals try((with_reducible refine Obl.mk ?_);exact KP)
 all_goals try(exfalso;simp at h;done)
 conv=>whnf
 refine⟨{k:Nat // k≤l.length},fun k=>⟨[(0,.r (.c (.t (.lst 1 (l.map visRow))))),(1,.r (.c (.t (.lst 1 (l.map visRow))))),(5,tI .i64 (k.1:Int))],[],[]⟩,fun k=>l.length - k.1,⟨0,by omega⟩,?_,?_⟩
 ·skip
  repeat' ((conv=>whnf);first|(with_reducible first|apply Wx|apply W6)|apply oi|(apply fi<;>intro h)|refine⟨_,rfl,?_⟩|((with_reducible show _=_);rfl))
  all_goals try((with_reducible refine Obl.mk ?_);exact KP)
 intro⟨k,hk⟩
 dsimp only
 by_cases hlt:k < l.length
 ·obtain⟨x,hx⟩:=get_of_lt hlt
  have hS:=s_laws_sameIntsR x (hr x (List.mem_of_getElem? hx))
  repeat' ((conv=>whnf);first|(with_reducible first|apply Wx|apply W6)|apply oi|(apply fi<;>intro h)|refine⟨k,(visRow x),rfl,map_get hx,?_⟩|refine cl hS ?_|refine⟨_,rfl,?_⟩|((with_reducible show _=_);rfl))
  all_goals try((with_reducible refine Obl.mk ?_);exact KP)
  all_goals try exact KX
  conv=>whnf
  refine⟨⟨k+1,by omega⟩,?_,by dsimp only;omega⟩
  repeat' ((conv=>whnf);first|(with_reducible first|apply Wx|apply W6)|apply oi|(apply fi<;>intro h)|refine⟨_,rfl,?_⟩|((with_reducible show _=_);rfl))
  all_goals try((with_reducible refine Obl.mk ?_);exact KP)
  all_goals try exact⟨KW⟩
 ·skip
  repeat' ((conv=>whnf);first|(with_reducible first|apply Wx|apply W6)|apply oi|(apply fi<;>intro h)|refine⟨_,rfl,?_⟩|((with_reducible show _=_);rfl))
  all_goals try((with_reducible refine Obl.mk ?_);exact KP)
  all_goals try exact KX
theorem s_spec_l03TextsR (l:List (List UInt8))(hl:l.length≤2097152):Sim.Spec Try.prog 87 [tvL 1 (l.map strRow),tvL 1 (l.map strRow)] (rB true):=by
 refine spec_of_Wo hΓ hmix Try.func87 rfl (by decide) rfl ?_
 have hlen:(l.map strRow).length=l.length:=by simp
 repeat' ((conv=>whnf);first|(with_reducible first|apply Wx|apply W6)|apply oi|(apply fi<;>intro h)|refine⟨_,rfl,?_⟩|((with_reducible show _=_);rfl))
 all_goals try((with_reducible refine Obl.mk ?_);exact KP)
 all_goals try(exfalso;simp at h;done)
 conv=>whnf
 refine⟨{k:Nat // k≤l.length},fun k=>⟨[(0,.r (.c (.t (.lst 1 (l.map strRow))))),(1,.r (.c (.t (.lst 1 (l.map strRow))))),(5,tI .i64 (k.1:Int))],[],[]⟩,fun k=>l.length - k.1,⟨0,by omega⟩,?_,?_⟩
 ·skip
  repeat' ((conv=>whnf);first|(with_reducible first|apply Wx|apply W6)|apply oi|(apply fi<;>intro h)|refine⟨_,rfl,?_⟩|((with_reducible show _=_);rfl))
  all_goals try((with_reducible refine Obl.mk ?_);exact KP)
 intro⟨k,hk⟩
 dsimp only
 by_cases hlt:k < l.length
 ·obtain⟨x,hx⟩:=get_of_lt hlt
  repeat' ((conv=>whnf);first|(with_reducible first|apply Wx|apply W6)|apply oi|(apply fi<;>intro h)|refine⟨k,(strRow x),rfl,map_get hx,?_⟩|refine⟨_,rfl,?_⟩|((with_reducible show _=_);rfl))
  all_goals try((with_reducible refine Obl.mk ?_);exact KP)
  all_goals try(exfalso;simp at h;done)
  conv=>whnf
  refine⟨⟨k+1,by omega⟩,?_,by dsimp only;omega⟩
  repeat' ((conv=>whnf);first|(with_reducible first|apply Wx|apply W6)|apply oi|(apply fi<;>intro h)|refine⟨_,rfl,?_⟩|((with_reducible show _=_);rfl))
  all_goals try((with_reducible refine Obl.mk ?_);exact KP)
  all_goals try exact⟨KW⟩
 ·skip
  repeat' ((conv=>whnf);first|(with_reducible first|apply Wx|apply W6)|apply oi|(apply fi<;>intro h)|refine⟨_,rfl,?_⟩|((with_reducible show _=_);rfl))
  all_goals try((with_reducible refine Obl.mk ?_);exact KP)
  all_goals try exact KX
theorem s_spec_l03ToksR (l:List TTok)(hl:l.length≤2097152):Sim.Spec Try.prog 88 [tvL 3 (l.map TTok.tr),tvL 3 (l.map TTok.tr)] (rB true):=by
 refine spec_of_Wo hΓ hmix Try.func88 rfl (by decide) rfl ?_
 have hlen:(l.map TTok.tr).length=l.length:=by simp
 repeat' ((conv=>whnf);first|(with_reducible first|apply Wx|apply W6)|apply oi|(apply fi<;>intro h)|refine⟨_,rfl,?_⟩|((with_reducible show _=_);rfl))
 all_goals try((with_reducible refine Obl.mk ?_);exact KP)
 all_goals try(exfalso;simp at h;done)
 conv=>whnf
 refine⟨{k:Nat // k≤l.length},fun k=>⟨[(0,.r (.c (.t (.lst 3 (l.map TTok.tr))))),(1,.r (.c (.t (.lst 3 (l.map TTok.tr))))),(5,tI .i64 (k.1:Int))],[],[]⟩,fun k=>l.length - k.1,⟨0,by omega⟩,?_,?_⟩
 ·skip
  repeat' ((conv=>whnf);first|(with_reducible first|apply Wx|apply W6)|apply oi|(apply fi<;>intro h)|refine⟨_,rfl,?_⟩|((with_reducible show _=_);rfl))
  all_goals try((with_reducible refine Obl.mk ?_);exact KP)
 intro⟨k,hk⟩
 dsimp only
 by_cases hlt:k < l.length
 ·obtain⟨x,hx⟩:=get_of_lt hlt
  repeat' ((conv=>whnf);first|(with_reducible first|apply Wx|apply W6)|apply oi|(apply fi<;>intro h)|refine⟨k,x.tr,rfl,map_get hx,?_⟩|refine⟨_,rfl,?_⟩|((with_reducible show _=_);rfl))
  all_goals try((with_reducible refine Obl.mk ?_);exact KP)
  all_goals try(exfalso;simp at h;done)
  conv=>whnf
  refine⟨⟨k+1,by omega⟩,?_,by dsimp only;omega⟩
  repeat' ((conv=>whnf);first|(with_reducible first|apply Wx|apply W6)|apply oi|(apply fi<;>intro h)|refine⟨_,rfl,?_⟩|((with_reducible show _=_);rfl))
  all_goals try((with_reducible refine Obl.mk ?_);exact KP)
  all_goals try exact⟨KW⟩
 ·skip
  repeat' ((conv=>whnf);first|(with_reducible first|apply Wx|apply W6)|apply oi|(apply fi<;>intro h)|refine⟨_,rfl,?_⟩|((with_reducible show _=_);rfl))
  all_goals try((with_reducible refine Obl.mk ?_);exact KP)
  all_goals try exact KX
theorem s_spec_SameLineR (x:TLine)(hs:smallR 1048576 x.tr):Sim.Spec Try.prog 54 [.agg x.tr,.agg x.tr] (rB true):=by
 refine spec_of_Wo hΓ hmix Try.func54 rfl (by decide) rfl ?_
 obtain⟨h1,h2,h3,h4,h5⟩:=line_small hs
 have hA:=s_spec_l03TextsR x.fArgs (by omega)
 have hB:=s_spec_l03ToksR x.fExpr (by omega)
 repeat' ((conv=>whnf);first|(with_reducible first|apply Wx|apply W6)|apply oi|(apply fi<;>intro h)|refine cl hA ?_|refine cl hB ?_|refine⟨_,rfl,?_⟩|((with_reducible show _=_);rfl))
 all_goals try((with_reducible refine Obl.mk ?_);exact KP)
 all_goals(exfalso;simp_all;done)
theorem s_laws_sameLines (l:List TLine)(hs:smallT 1048576 (.lst 4 (l.map TLine.tr))):Sim.Spec Try.prog 22 [tvP l,tvP l] (rB true):=by
 refine spec_of_Wo hΓ hmix Try.func22 rfl (by decide) rfl ?_
 have hl:=small_nat hs
 have hlen:(l.map TLine.tr).length=l.length:=by simp
 repeat' ((conv=>whnf);first|(with_reducible first|apply Wx|apply W6)|apply oi|(apply fi<;>intro h)|refine⟨_,rfl,?_⟩|((with_reducible show _=_);rfl))
 all_goals try((with_reducible refine Obl.mk ?_);exact KP)
 all_goals try(exfalso;simp at h;done)
 conv=>whnf
 refine⟨{k:Nat // k≤l.length},fun k=>⟨[(0,vP l),(1,vP l),(5,tI .i64 (k.1:Int))],[],[]⟩,fun k=>l.length - k.1,⟨0,by omega⟩,?_,?_⟩
 ·skip
  repeat' ((conv=>whnf);first|(with_reducible first|apply Wx|apply W6)|apply oi|(apply fi<;>intro h)|refine⟨_,rfl,?_⟩|((with_reducible show _=_);rfl))
  all_goals try((with_reducible refine Obl.mk ?_);exact KP)
 intro⟨k,hk⟩
 dsimp only
 by_cases hlt:k < l.length
 ·obtain⟨x,hx⟩:=get_of_lt hlt
  have hS:=s_spec_SameLineR x (smallRs_map hs (List.mem_of_getElem? hx))
  repeat' ((conv=>whnf);first|(with_reducible first|apply Wx|apply W6)|apply oi|(apply fi<;>intro h)|refine⟨k,x.tr,rfl,map_get hx,?_⟩|refine cl hS ?_|refine⟨_,rfl,?_⟩|((with_reducible show _=_);rfl))
  all_goals try((with_reducible refine Obl.mk ?_);exact KP)
  all_goals try exact KX
  conv=>whnf
  refine⟨⟨k+1,by omega⟩,?_,by dsimp only;omega⟩
  repeat' ((conv=>whnf);first|(with_reducible first|apply Wx|apply W6)|apply oi|(apply fi<;>intro h)|refine⟨_,rfl,?_⟩|((with_reducible show _=_);rfl))
  all_goals try((with_reducible refine Obl.mk ?_);exact KP)
  all_goals try exact⟨KW⟩
 ·skip
  repeat' ((conv=>whnf);first|(with_reducible first|apply Wx|apply W6)|apply oi|(apply fi<;>intro h)|refine⟨_,rfl,?_⟩|((with_reducible show _=_);rfl))
  all_goals try((with_reducible refine Obl.mk ?_);exact KP)
  all_goals try exact KX
noncomputable def gapF (x:TLine):Int:=(x.fExpr.length:Int) - ((foldLine x).fExpr.length:Int)
noncomputable def gapO:Option TLine→Int
 | some x=>gapF x
 | none=>0
noncomputable def savedF (l:List TLine):Nat→Int
 | 0=>0
 | n+1=>savedF l n+gapO l[n]?
theorem foldLine_len (x:TLine):(foldLine x).fExpr.length≤x.fExpr.length:=by
 unfold foldLine
 split
 ·exact foldL_len _
 ·exact Nat.le_refl _
theorem savedF_ge (l:List TLine)(hl:∀x∈l,x.fExpr.length≤1048576):∀n,0≤savedF l n∧savedF l n≤1048576 * n
 | 0=>by simp[savedF]
 | n+1=>by
  have ih:=savedF_ge l hl n
  rw[savedF]
  have key:0≤gapO l[n]?∧gapO l[n]?≤1048576:=by
   cases hx:l[n]? with
   | none=>rw[gapO];omega
   | some x=>
    have h1:=foldLine_len x
    have h2:=hl x (List.mem_of_getElem? hx)
    rw[gapO,gapF]
    omega
  omega
theorem savedF_zero {l:List TLine}(h:l.map foldLine=l):∀n,savedF l n=0
 | 0=>rfl
 | n+1=>by
  rw[savedF,savedF_zero h n]
  cases hx:l[n]? with
  | none=>rfl
  | some x=>
   have h2:=congrArg (fun l=>l[n]?) h
   rw[List.getElem?_map,hx]at h2
   injection h2 with h2
   rw[gapO,gapF,h2]
   omega
theorem funs_six' {p:List TLine}(h:programOk p=true):p.length≤60:=by
 unfold programOk at h
 simp only[Bool.and_eq_true,decide_eq_true_eq]at h
 exact h.1
theorem s_impl_SavedTokens (p:List TLine)(hs:smallT 1048576 (.lst 4 (p.map TLine.tr)))(hpo:programOk p=true):Sim.Spec Try.prog 23 [tvP p] (rI (savedF p p.length)):=by
 refine spec_of_Wo hΓ hmix Try.func23 rfl (by decide) rfl ?_
 have hF:=s_impl_FoldProgram p hs
 rw[foldProg_ok hpo]at hF
 have hl:=(funs_six' hpo)
 have hsm:=fun x (hx:x∈p)=>(line_small (smallRs_map hs hx)).2.2.2.1
 have hge:=savedF_ge p hsm
 have hlen:((p.map foldLine).map TLine.tr).length=p.length:=by simp
 repeat' ((conv=>whnf);first|(with_reducible first|apply Wx|apply W6)|apply oi|(apply fi<;>intro h)|refine cl hF ?_|refine⟨_,rfl,?_⟩|((with_reducible show _=_);rfl))
 all_goals try((with_reducible refine Obl.mk ?_);exact KP)
 conv=>whnf
 refine⟨{k:Nat // k≤p.length},fun k=>⟨[(0,vP p),(3,tI .i64 (savedF p k.1)),(7,.r (.c (.own (7,0,0)))),(8,tI .i64 (((p.map foldLine).map TLine.tr).length:Int)),(9,tI .i64 (k.1:Int))],[((7,0,0),some (.arr true 4 ((p.map foldLine).map TLine.tr)))],[7]⟩,fun k=>p.length - k.1,⟨0,by omega⟩,?_,?_⟩
 ·skip
  repeat' ((conv=>whnf);first|(with_reducible first|apply Wx|apply W6)|apply oi|(apply fi<;>intro h)|refine⟨_,rfl,?_⟩|((with_reducible show _=_);rfl))
  all_goals try((with_reducible refine Obl.mk ?_);exact KP)
 intro⟨k,hk⟩
 dsimp only
 by_cases hlt:k < p.length
 ·obtain⟨x,hx⟩:=get_of_lt hlt
  have hx2:(p.map foldLine)[k]?=some (foldLine x):=by rw[List.getElem?_map,hx];rfl
  have hkl:k < ((p.map foldLine).map TLine.tr).length:=by omega
  have hxt:((p.map foldLine).map TLine.tr)[k]?=some (foldLine x).tr:=map_get hx2
  have hg1:=hge k
  have hg2:=hge (k+1)
  have hsv:savedF p (k+1)=savedF p k+((x.fExpr.length:Int) - ((foldLine x).fExpr.length:Int)):=by rw[savedF,hx];rfl
  have h1:=foldLine_len x
  have h2:=hsm x (List.mem_of_getElem? hx)
  have el:(x.fExpr.map TTok.tr).length=x.fExpr.length:=by simp
  have el2:((foldLine x).fExpr.map TTok.tr).length=(foldLine x).fExpr.length:=by simp
  generalize foldLine x=y at *
  repeat' ((conv=>whnf);first|(with_reducible first|apply Wx|apply W6)|apply oi|(apply fi<;>intro h)|refine⟨k,rfl,hkl,?_⟩|refine⟨_,hxt,?_⟩|refine⟨k,x.tr,rfl,map_get hx,?_⟩|refine⟨_,rfl,?_⟩|((with_reducible show _=_);rfl))
  all_goals try((with_reducible refine Obl.mk ?_);exact KP)
  all_goals try exact KX
  conv=>whnf
  refine⟨⟨k+1,by omega⟩,?_,by dsimp only;omega⟩
  repeat' ((conv=>whnf);first|(with_reducible first|apply Wx|apply W6)|apply oi|(apply fi<;>intro h)|refine⟨_,rfl,?_⟩|((with_reducible show _=_);rfl))
  all_goals try((with_reducible refine Obl.mk ?_);exact KP)
  all_goals try exact⟨KW⟩
 ·obtain rfl:k=p.length:=by omega
  repeat' ((conv=>whnf);first|(with_reducible first|apply Wx|apply W6)|apply oi|(apply fi<;>intro h)|refine⟨_,rfl,?_⟩|((with_reducible show _=_);rfl))
  all_goals try((with_reducible refine Obl.mk ?_);exact KP)
  all_goals try exact KX
end Go.Proofs.Ytjmplnfiabmalaa
namespace Go.Proofs.Ytjmplnfiabmalaa
open Go.Sim
set_option maxRecDepth 100000
set_option maxHeartbeats 4000000
def openW (p:List TLine)(f k i:Nat):Bool:=decide (f < i∧i < k∧kindAt p i=5∧∃e,endAt p i=some e∧k≤e)
def whilesAt (p:List TLine)(f k:Nat):List Nat:=(List.range p.length).filter (openW p f k)
theorem filter_add {P P':Nat→Bool}{k:Nat}(h1:∀i,i < k→P' i=P i)(h2:P' k=true)(h3:∀i,k≤i→P i=false)(h4:∀i,k < i→P' i=false):∀n,k < n→(List.range n).filter P'=(List.range n).filter P++[k]
 | 0,h=>by omega
 | n+1,h=>by
  rw[List.range_succ,List.filter_append,List.filter_append]
  by_cases hk:k=n
  ·subst hk
   have e:(List.range k).filter P'=(List.range k).filter P:=List.filter_congr fun i hi=>h1 i (List.mem_range.1 hi)
   rw[e]
   simp[h2,h3 k (Nat.le_refl _)]
  ·rw[filter_add h1 h2 h3 h4 n (by omega)]
   simp[h4 n (by omega),h3 n (by omega)]
theorem openW_iff {p:List TLine}{f k i:Nat}:openW p f k i=true↔f < i∧i < k∧kindAt p i=5∧∃e,endAt p i=some e∧k≤e:=by unfold openW;rw[decide_eq_true_eq]
theorem openW_no {p:List TLine}{f k i:Nat}(h:¬(f < i∧i < k∧kindAt p i=5∧∃e,endAt p i=some e∧k≤e)):openW p f k i=false:=by unfold openW;rw[decide_eq_false h]
theorem whiles_eq {p:List TLine}{f k k':Nat}(h:∀i,openW p f k i=true↔openW p f k' i=true):whilesAt p f k=whilesAt p f k':=by
 unfold whilesAt
 refine List.filter_congr fun i _=>?_
 have:=h i
 cases h1:openW p f k i <;> cases h2:openW p f k' i <;> simp_all
theorem whiles_len (p:List TLine)(f k:Nat):(whilesAt p f k).length≤p.length:=by
 unfold whilesAt
 have:=List.length_filter_le (openW p f k) (List.range p.length)
 rwa [List.length_range]at this
theorem whiles_mem {p:List TLine}{f k i:Nat}(h:i∈whilesAt p f k):f < i∧i < k∧kindAt p i=5∧∃e,endAt p i=some e∧k≤e:=by
 unfold whilesAt at h
 exact openW_iff.1 (List.mem_filter.1 h).2
section
variable {p:List TLine} {f e k:Nat} {ln:TLine}
theorem kind_line {i:Nat}{c:Int}(h:kindAt p i=c)(hc:0≤c):∃x,p[i]?=some x∧x.fKind=c:=by
 unfold kindAt at h
 split at h
 ·exact⟨_,by assumption,h⟩
 ·omega
theorem end_ne {i m:Nat}(h:endAt p i=some m)(hk:p[k]?=some ln)(h7:ln.fKind≠7):m≠k:=fun he=>by
 subst he
 obtain⟨y,hy,h7'⟩:=endAt_kind h
 rw[hk]at hy;injection hy with hy;subst hy
 exact h7 h7'
theorem whiles_start (hI:InF p f e (f+1)):whilesAt p f (f+1)=[]:=by
 unfold whilesAt
 rw[List.filter_eq_nil_iff]
 intro i _ h
 have:=openW_iff.1 h
 omega
theorem whiles_next (hk:p[k]?=some ln)(h5:ln.fKind≠5)(h7:ln.fKind≠7):whilesAt p f (k+1)=whilesAt p f k:=by
 refine whiles_eq fun i=>?_
 rw[openW_iff,openW_iff]
 constructor
 ·rintro⟨a,b,c,m,hm,hle⟩
  have:i≠k:=fun he=>by subst he;rw[kindAt_of hk]at c;exact h5 c
  exact⟨a,by omega,c,m,hm,by omega⟩
 ·rintro⟨a,b,c,m,hm,hle⟩
  have:=end_ne hm hk h7
  exact⟨a,by omega,c,m,hm,by omega⟩
theorem whiles_push (hp:PgOk p)(hI:InF p f e k)(hke:k < e)(hk:p[k]?=some ln)(h5:ln.fKind=5):whilesAt p f (k+1)=whilesAt p f k++[k]:=by
 obtain⟨m,hm,m1,m2⟩:=endAt_in hI.en hI.lo hke hk (by rw[opensK_iff];omega)
 unfold whilesAt
 refine filter_add (fun i hi=>?_) (openW_iff.2 ⟨hI.lo,by omega,by rw[kindAt_of hk];exact h5,m,hm,m1⟩) (fun i hi=>openW_no fun h=>by omega) (fun i hi=>openW_no fun h=>by omega) _ (lt_of_get hk)
 have:openW p f (k+1) i=true↔openW p f k i=true:=by
  rw[openW_iff,openW_iff]
  constructor
  ·rintro⟨a,b,c,m,hm,hle⟩;exact⟨a,hi,c,m,hm,by omega⟩
  ·rintro⟨a,b,c,m,hm,hle⟩
   have:=end_ne hm hk (by omega)
   exact⟨a,by omega,c,m,hm,by omega⟩
 cases h1:openW p f (k+1) i <;> cases h2:openW p f k i <;> simp_all
theorem outer_end {i o m mo:Nat}{y:TLine}(hm:endAt p i=some m)(h1:i < o)(h2:o≤m)(hy:p[o]?=some y)(ho:opensK y.fKind=true)(hmo:endAt p o=some mo):mo < m:=by
 have hne:=end_ne hm hy (by rw[opensK_iff]at ho;omega)
 obtain⟨m',hm',_,h3⟩:=endAt_in hm h1 (by omega) hy ho
 rw[hmo]at hm';injection hm' with hm';omega
theorem whiles_pop (hf:f < k){o:Nat}{y:TLine}(hok:endAt p o=some k)(hfo:f < o)(hy:p[o]?=some y)(h5:y.fKind=5):whilesAt p f k=whilesAt p f o++[o]:=by
 obtain⟨_,_,_,_,hlt,_⟩:=endAt_some hok
 unfold whilesAt
 refine filter_add (fun i hi=>?_) (openW_iff.2 ⟨hfo,hlt,by rw[kindAt_of hy];exact h5,k,hok,Nat.le_refl _⟩) (fun i hi=>openW_no fun h=>by omega) (fun i hi=>openW_no ?_) _ (lt_of_get hy)
 ·have:openW p f k i=true↔openW p f o i=true:=by
   rw[openW_iff,openW_iff]
   constructor
   ·rintro⟨a,b,c,m,hm,hle⟩;exact⟨a,hi,c,m,hm,by omega⟩
   ·rintro⟨a,b,c,m,hm,hle⟩
    have:=outer_end hm hi hle hy (by rw[opensK_iff];omega) hok
    exact⟨a,by omega,c,m,hm,by omega⟩
  cases h1:openW p f k i <;> cases h2:openW p f o i <;> simp_all
 ·rintro⟨a,b,c,m,hm,hle⟩
  obtain⟨x,hx,hx5⟩:=kind_line c (by omega)
  obtain⟨m',hm',_,h3⟩:=endAt_in hok hi b hx (by rw[opensK_iff];omega)
  rw[hm]at hm';injection hm' with hm';omega
theorem whiles_if {o:Nat}{y:TLine}(hk:p[k]?=some ln)(h7:ln.fKind=7)(hok:endAt p o=some k)(hy:p[o]?=some y)(h3:y.fKind=3):whilesAt p f (k+1)=whilesAt p f k∧∀i∈whilesAt p f k,endAt p i≠some k:=by
 have hne:∀i,kindAt p i=5→endAt p i≠some k:=fun i c h=>by
  have:=endAt_inj h hok
  subst this
  rw[kindAt_of hy]at c
  omega
 refine⟨whiles_eq fun i=>?_,fun i hi=>hne i (whiles_mem hi).2.2.1⟩
 rw[openW_iff,openW_iff]
 constructor
 ·rintro⟨a,b,c,m,hm,hle⟩
  have:i≠k:=fun he=>by subst he;rw[kindAt_of hk]at c;omega
  exact⟨a,by omega,c,m,hm,by omega⟩
 ·rintro⟨a,b,c,m,hm,hle⟩
  have:m≠k:=fun he=>by subst he;exact hne i c hm
  exact⟨a,by omega,c,m,hm,by omega⟩
theorem whiles_skip (hp:PgOk p)(hI:InF p f e k)(hke:k < e)(hk:p[k]?=some ln)(h35:ln.fKind=3∨ln.fKind=5):whilesAt p f (skipAt p k+1)=whilesAt p f k:=by
 obtain⟨m,hm,m1,m2⟩:=endAt_in hI.en hI.lo hke hk (by rw[opensK_iff];omega)
 have hj:k < skipAt p k∧skipAt p k≤m∧∀i x mi,k < i→i≤skipAt p k→p[i]?=some x→x.fKind=5→endAt p i=some mi→mi < skipAt p k:=by
  unfold skipAt
  split
  ·rename_i j hj
   obtain⟨x,e',hx,h3,he',q1,q2,y,hy,hy4⟩:=elseAt_some hj
   rw[hm]at he';injection he' with he';subst he'
   refine⟨q1,by omega,fun i z mi h1 h2 hz h5 hmi=>?_⟩
   have hij:i≠j:=fun he=>by subst he;rw[hz]at hy;injection hy with hy;subst hy;omega
   unfold elseAt at hj
   rw[hx,hm]at hj
   dsimp only at hj
   rw[if_pos h3]at hj
   exact elseN_out hj i z mi (by omega) (by omega) hz (.inr h5) hmi
  ·rw[endL',hm]
   refine⟨m1,Nat.le_refl _,fun i z mi h1 h2 hz h5 hmi=>?_⟩
   have:=end_ne hm hz (by omega)
   have h2:i≤m:=h2
   obtain⟨m',hm',_,h3⟩:=endAt_in hm h1 (by omega) hz (by rw[opensK_iff];omega)
   rw[hmi]at hm';injection hm' with hm';subst hm'
   exact h3
 obtain⟨j1,j2,j3⟩:=hj
 have h5s:ln.fKind=5→skipAt p k=m:=fun h5=>by
  unfold skipAt
  rw[elseAt_not (by rw[kindAt_of hk];omega),endL',hm]
  rfl
 generalize skipAt p k=j at *
 refine whiles_eq fun i=>?_
 rw[openW_iff,openW_iff]
 constructor
 ·rintro⟨a,b,c,mi,hmi,hle⟩
  obtain⟨x,hx,hx5⟩:=kind_line c (by omega)
  rcases Nat.lt_trichotomy i k with h|h|h
  ·exact⟨a,h,c,mi,hmi,by omega⟩
  ·subst h
   rw[hk]at hx;injection hx with hx;subst hx
   rw[hm]at hmi;injection hmi with hmi
   have:=h5s hx5
   omega
  ·have:=j3 i x mi h (by omega) hx hx5 hmi
   omega
 ·rintro⟨a,b,c,mi,hmi,hle⟩
  have:=outer_end hmi b hle hk (by rw[opensK_iff];omega) hm
  exact⟨a,by omega,c,mi,hmi,by omega⟩
theorem whiles_else (hp:PgOk p)(hI:InF p f e k)(hk:p[k]?=some ln)(h4:ln.fKind=4):whilesAt p f (endL' p (ownOf p k)+1)=whilesAt p f k:=by
 obtain⟨q1,q2,q3,q4⟩:=hI.own4 hp hk h4
 obtain⟨x,E,hx,h3,hE,r1,r2,y,hy,hy4⟩:=elseAt_some q1
 have hq:=q1
 unfold elseAt at hq
 rw[hx,hE]at hq
 dsimp only at hq
 rw[if_pos h3]at hq
 rw[endL',hE]
 generalize ownOf p k=o at *
 show whilesAt p f (E+1)=_
 refine whiles_eq fun i=>?_
 rw[openW_iff,openW_iff]
 constructor
 ·rintro⟨a,b,c,mi,hmi,hle⟩
  obtain⟨z,hz,hz5⟩:=kind_line c (by omega)
  rcases Nat.lt_trichotomy i o with h|h|h
  ·exact⟨a,by omega,c,mi,hmi,by omega⟩
  ·subst h;rw[hx]at hz;injection hz with hz;subst hz;omega
  ·have:=end_ne hE hz (by omega)
   obtain⟨m',hm',_,h5⟩:=endAt_in hE h (by omega) hz (by rw[opensK_iff];omega)
   rw[hmi]at hm';injection hm' with hm';omega
 ·rintro⟨a,b,c,mi,hmi,hle⟩
  obtain⟨z,hz,hz5⟩:=kind_line c (by omega)
  rcases Nat.lt_trichotomy i o with h|h|h
  ·have:=outer_end hmi h (by omega) hx (by rw[opensK_iff];omega) hE
   exact⟨a,by omega,c,mi,hmi,by omega⟩
  ·subst h;rw[hx]at hz;injection hz with hz;subst hz;omega
  ·have:=elseN_out hq i z mi (by omega) b hz (.inr hz5) hmi
   omega
end
structure Known (p:List TLine) (locals:List (List UInt8)) (l:List TTok):Prop where
 var:∀t∈l,t.fKind=1→∃i,idxN locals 0 t.fName=some i
 call:∀t∈l,t.fKind=7→∃g,findN p 0 t.fName=some g∧(argsN p g:Int)=t.fNum
theorem addName_has (acc:List (List UInt8))(s:List UInt8):s∈addName acc s:=by
 unfold addName
 split
 ·rename_i h;exact List.contains_iff_mem.1 h
 ·simp
theorem addName_old {acc:List (List UInt8)}{s z:List UInt8}(h:z∈acc):z∈addName acc s:=by
 unfold addName
 split
 ·exact h
 ·simp[h]
theorem locN_old {l:List TLine}{e:Nat}{z:List UInt8}:∀(n i:Nat) (acc:List (List UInt8)),z∈acc→z∈locN l e n i acc
 | 0,_,_,h=>by rw[locN];exact h
 | n+1,i,acc,h=>by
  rw[locN]
  split
  ·split
   ·refine locN_old n _ _ ?_
    split
    ·exact addName_old h
    ·exact h
   ·exact h
  ·exact h
theorem locN_has {l:List TLine}{e k:Nat}{x:TLine}(hx:l[k]?=some x)(h1:x.fKind=1)(hke:k < e):∀(n i:Nat) (acc:List (List UInt8)),i≤k→e - i≤n→(∀j,j < e→j < l.length)→x.fName∈locN l e n i acc
 | 0,i,acc,h,hn,_=>by omega
 | n+1,i,acc,h,hn,hl=>by
  rw[locN,if_pos (by omega)]
  obtain⟨y,hy⟩:=get_of_lt (hl i (by omega))
  rw[hy]
  dsimp only
  by_cases hik:i=k
  ·subst hik
   rw[hx]at hy;injection hy with hy;subst hy
   rw[if_pos h1]
   exact locN_old n _ _ (addName_has _ _)
  ·exact locN_has hx h1 hke n (i+1) _ (by omega) (by omega) hl
theorem idxN_of_mem {l:List (List UInt8)}{s:List UInt8}(h:s∈l):∃i,idxN l 0 s=some i:=by
 have:(idxN l 0 s).isSome=true:=by rw[idxN_has];exact List.contains_iff_mem.2 h
 exact Option.isSome_iff_exists.1 this
theorem known_of {p:List TLine}(h:programOk p=true){f e k:Nat}{ln:TLine}(hI:InF p f e k)(hk:p[k]?=some ln)(hke:k < e):Known p (localsOf p (f:Int)) ln.fExpr∧(ln.fKind=1→∃i,idxN (localsOf p (f:Int)) 0 ln.fName=some i):=by
 have h0:=h
 unfold programOk at h
 simp only[Bool.and_eq_true,decide_eq_true_eq]at h
 obtain⟨_,_,h2,_,_,h3,h4⟩:=h
 have hS:=chainS_all p
 rw[h3,h4]at hS
 have hlt:∀k e,endAt p k=some e→e≤p.length:=fun k e he=>by obtain⟨_,_,_,_,_,h⟩:=endAt_some he;omega
 have hF:∀k e,endAt p k=some e→fnOkS p k e=true→∀i x,k < i→i < e→p[i]?=some x→x.fKind≠0:=fun k e he hf=>by
  rw[fnOkS_eq,Bool.and_eq_true]at hf
  exact fnOk_nofun hf.1 (hlt k e he)
 obtain⟨y,hy,hy0⟩:=hI.fn
 obtain⟨e',he',hf⟩:=chain_funs hF p.length 0 hS f y (Nat.zero_le _) hy hy0
 rw[hI.en]at he';injection he' with he';subst he'
 rw[fnOkS_eq,Bool.and_eq_true]at hf
 have hf1:=hf.1
 rw[fnOk,Bool.and_eq_true,decide_eq_true_eq]at hf1
 have hkn:=body_known (e - (f+1)) (f+1) 0 (Nat.le_refl _) (hlt f e hI.en) hf1.2 k ln (by have:=hI.lo;omega) hke hk
 unfold exprKnown at hkn
 have hkn:=List.all_eq_true.1 hkn
 refine⟨⟨fun t ht h1=>?_,fun t ht h7=>?_⟩,fun h1=>?_⟩
 ·have:=hkn t ht
  unfold tokKnown at this
  rw[if_pos h1]at this
  exact idxN_of_mem (List.contains_iff_mem.1 this)
 ·have:=hkn t ht
  unfold tokKnown at this
  rw[if_neg (by omega),if_pos h7]at this
  split at this
  ·rename_i g hg
   refine⟨g,hg,?_⟩
   unfold argsN
   split at this
   ·rename_i x hx
    (try rw[hx])
    exact eq_of_beq this
   ·cases this
  ·cases this
 ·refine idxN_of_mem ?_
  unfold localsOf
  rw[if_pos (by omega),Int.toNat_natCast,hy,hI.en]
  dsimp only
  rw[if_pos hy0]
  exact locN_has hk h1 hke _ _ _ (by have:=hI.lo;omega) (Nat.le_refl _) (fun j hj=>by have:=hlt f e hI.en;omega)
end Go.Proofs.Ytjmplnfiabmalaa
