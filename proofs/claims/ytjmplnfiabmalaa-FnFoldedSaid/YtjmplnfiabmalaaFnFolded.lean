/- The law FnFolded answers true for every input and leaves its argument as it was. Conditions: none beyond the given statement. -/
import Derived.Test.YtjmplnfiabmalaaGg
namespace Go.Proofs.Ytjmplnfiabmalaa
open Go.Sim
set_option maxRecDepth 100000
set_option maxHeartbeats 4000000
abbrev vStrs (l:List (List UInt8)):AV:= .r (.c (.t (.lst 1 (l.map strRow))))
def Rr.val:Rr Int→Int
 | .ok v _=>v
 | _=>0
def Rr.st {α:Type}:Rr α→IS
 | .ok _ s=>s
 | .stop _ s=>s
 | .fuel=>⟨[],[]⟩
def Rr.code {α:Type}:Rr α→Int
 | .ok _ _=>0
 | .stop c _=>c
 | .fuel=>0
abbrev runG (i1 i2 i3:Sim.Id)(p:List TLine)(lim:Int)(calls:List Int)(s:IS)(c:Int):List (Sim.Id×AO):=runH i1 i2 i3 p lim ⟨s.out,s.visits,0,c,calls⟩
structure InV (lim:Int) (calls:List Int) (s:IS):Prop where
 lm:lim≤1000
 vis:(s.visits.length:Int)≤lim
 out:s.out.length≤s.visits.length
 calls:calls.length≤6
theorem InV.ext {lim:Int}{calls:List Int}{s s':IS}(h:InV lim calls s)(hx:Ext lim s s'):InV lim calls s':=⟨h.lm,hx.le h.vis,by have:=hx.ol;have:=h.out;omega,h.calls⟩
noncomputable abbrev evalF (p:List TLine) (lim:Int) (n:Nat) (calls:List Int) (f k:Nat) (vals:List Int) (e:Ex) (s:IS):Rr Int:=evE p (localsOf p (f:Int)) vals (callV p lim n calls k) e s
abbrev valH (vals:List Int):List (Sim.Id×AO):=[((0,0,4),.arr false 1 (vals.map intRow))]
def PerfC (p:List TLine)(lim:Int)(n:Nat):Prop:=∀(calls:List Int) (f:Nat) (args:List Int) (s:IS),(∃y,p[f]?=some y∧y.fKind=0)→args.length=argsN p f→InV lim calls s→
 linesV p lim n calls f (f+1) (padV (localsOf p (f:Int)).length args) s≠.fuel→
 SpecG Try.prog 28 [.r (.c (.ptr (0,0,0) 0)),tI .i64 (f:Int),.r (.c (.t (.lst 1 (args.map intRow))))] (runG (0,0,1) (0,0,2) (0,0,3) p lim calls s 0)
  (tI .i64 (linesV p lim n calls f (f+1) (padV (localsOf p (f:Int)).length args) s).val) (runG (1,0,1) (1,0,2) (1,0,3) p lim calls (linesV p lim n calls f (f+1) (padV (localsOf p (f:Int)).length args) s).st (linesV p lim n calls f (f+1) (padV (localsOf p (f:Int)).length args) s).code)
theorem evEs_cut {p:List TLine}{locals:List (List UInt8)}{vals:List Int}{call:CallF}:∀{es:List Ex} {s:IS} {c:Int} {s':IS},evEs p locals vals call es s= .stop c s'→
  ∃(j:Nat) (a:Ex) (av:List Int) (s1:IS),es[j]?=some a∧evEs p locals vals call (es.take j) s= .ok av s1∧evE p locals vals call a s1= .stop c s'
 | [],s,c,s',h=>by rw[evEs]at h;cases h
 | b::es,s,c,s',h=>by
  rw[evEs]at h
  cases h1:evE p locals vals call b s with
  | ok v s1=>
   rw[h1,Rr.bnd_ok]at h
   cases h2:evEs p locals vals call es s1 with
   | ok vs s2=>rw[h2]at h;cases h
   | stop c2 s2=>
    rw[h2]at h
    injection h with e1 e2
    subst e1;subst e2
    obtain⟨j,a,av,s3,q1,q2,q3⟩:=evEs_cut h2
    exact⟨j+1,a,v::av,s3,by simpa using q1,by rw[List.take_succ_cons,evEs,h1,Rr.bnd_ok,q2];rfl,q3⟩
   | fuel=>rw[h2]at h;cases h
  | stop c2 s1=>
   rw[h1]at h
   injection h with e1 e2
   subst e1;subst e2
   exact⟨0,b,[],s,rfl,by rw[List.take_zero,evEs],h1⟩
  | fuel=>rw[h1]at h;cases h
theorem evEs_part {p:List TLine}{locals:List (List UInt8)}{vals:List Int}{call:CallF}{es:List Ex}{s:IS}{av:List Int}{s':IS}(h:evEs p locals vals call es s= .ok av s')(j:Nat):∃as1 s1,evEs p locals vals call (es.take j) s= .ok as1 s1:=by
 cases h1:evEs p locals vals call (es.take j) s with
 | ok as1 s1=>exact⟨_,_,rfl⟩
 | stop c s1=>rw[evEs_stop h1]at h;cases h
 | fuel=>rw[evEs_fuel h1]at h;cases h
theorem evEs_next {p:List TLine}{locals:List (List UInt8)}{vals:List Int}{call:CallF}{es:List Ex}{s:IS}{as1:List Int}{s1:IS}{j:Nat}{a:Ex}(h1:evEs p locals vals call (es.take j) s= .ok as1 s1)(ha:es[j]?=some a){as2:List Int}{s2:IS}(h2:evEs p locals vals call (es.take (j+1)) s= .ok as2 s2):
  ∃v,evE p locals vals call a s1= .ok v s2∧as2=as1++[v]:=by
 rw[evEs_take s ha,h1,Rr.bnd_ok]at h2
 cases h3:evE p locals vals call a s1 with
 | ok v s3=>rw[h3,Rr.bnd_ok]at h2;injection h2 with e1 e2;subst e1;subst e2;exact⟨v,rfl,rfl⟩
 | stop c s3=>rw[h3]at h2;cases h2
 | fuel=>rw[h3]at h2;cases h2
def EvalC (p:List TLine)(lim:Int)(n:Nat)(e:Ex):Prop:=∀(calls:List Int) (f en k pos:Nat) (ln:TLine) (vals:List Int) (s:IS),e.ok→InF p f en k→p[k]?=some ln→stands ln.fExpr pos e→Known p (localsOf p (f:Int)) ln.fExpr→vals.length=(localsOf p (f:Int)).length→InV lim calls s→
 evalF p lim n calls f k vals e s≠.fuel→
 ∃x:Int,((∃v s',evalF p lim n calls f k vals e s= .ok v s')→x=((pos+e.toks.length:Nat):Int))∧
 SpecG Try.prog 60 [.r (.c (.ptr (0,0,0) 0)),tI .i64 (k:Int),tI .i64 (pos:Int),vStrs (localsOf p (f:Int)),.r (.c (.own (0,0,4)))] (runG (0,0,1) (0,0,2) (0,0,3) p lim calls s 0++valH vals)
  (.tup [.c (.t (.int .i64 (evalF p lim n calls f k vals e s).val)),.c (.t (.int .i64 x))]) (runG (1,0,1) (1,0,2) (1,0,3) p lim calls (evalF p lim n calls f k vals e s).st (evalF p lim n calls f k vals e s).code++valH vals)
theorem atL_some {l:List Int}{k:Nat}(h:k < l.length):l[k]?=some (atL l k):=by
 obtain⟨x,hx⟩:=get_of_lt h
 rw[atL,hx];rfl
theorem toks_shortP {p:List TLine}(hp:PgOk p){k:Nat}{ln:TLine}(hk:p[k]?=some ln):toksShort ln.fExpr∧ln.fName.length≤1048576:=by
 obtain⟨h1,_,_,_,h5⟩:=line_small (smallRs_map hp.small (List.mem_of_getElem? hk))
 exact⟨fun t ht=>by have:=h5 t ht;omega,h1⟩
theorem evalC_of {p:List TLine}(hp:PgOk p){lim:Int}{n:Nat}(hP:PerfC p lim n):∀(m:Nat) (e:Ex),e.toks.length≤m→EvalC p lim n e
 | 0,e,hn=>by have:=e.toks_pos;omega
 | m+1,.node t es,hn=>by
  intro calls f en k pos ln vals s ho hI hk hs hkn hvl hV hnf
  obtain⟨hsh,hnm⟩:=toks_shortP hp hk
  have hle:=stands_le hs
  obtain⟨ht,hsa⟩:=stands_tok hs
  have htm:=List.mem_of_getElem? ht
  obtain⟨e1,e2⟩:=ar_eq ho.1
  have hel:es.length=ar t:=ho.2.1
  have hA:=s_spec_Arity t (hsh t htm)
  rw[e1,←hel]at hA
  have h60:=hp.len
  have h20:=(hp.line _ _ hk).2.2.2.1
  have hkl:=lt_of_get hk
  rw[Ex.toks,List.length_cons]at hn hle
  have hlp:=hV.lm
  have hIH:∀(j:Nat) (a:Ex),es[j]?=some a→EvalC p lim n a:=fun j a ha=>evalC_of hp hP m a (by have:=exToks_mem ha;omega)
  have hL8:(localsOf p (f:Int)).length≤8:=by obtain⟨y,hy,h0⟩:=hI.fn;obtain⟨_,_,h8,_⟩:=hp.fn f y hy h0;exact h8
  obtain⟨L,hL⟩:∃L,localsOf p (f:Int)=L:=⟨_,rfl⟩
  rw[hL]at hL8 hvl
  have hev:evalF p lim n calls f k vals (.node t es) s=(evEs p L vals (callV p lim n calls k) es s).bnd fun av s'=>finV p L vals (callV p lim n calls k) t av s':=by
   show evE _ _ _ _ _ _=_
   rw[evE,hL]
  have hxt:∀j,ExtR lim s (evEs p L vals (callV p lim n calls k) (es.take j) s):=fun j=>evEs_ext (callV_ext n calls k) _ s
  rw[hev]at hnf ⊢
  cases hR:evEs p L vals (callV p lim n calls k) es s with
  | fuel=>rw[hR]at hnf;exact absurd rfl hnf
  | stop c s1=>
   obtain⟨j0,a0,as0,s0,q1,q2,q3⟩:=evEs_cut hR
   have hj0:=lt_of_get q1
   have hx0:=hxt j0
   rw[q2]at hx0
   have hq3:evalF p lim n calls f k vals a0 s0= .stop c s1:=by show evE _ _ _ _ _ _=_;rw[hL];exact q3
   obtain⟨x0,_,g0⟩:=hIH j0 a0 q1 calls f en k (pos+1+(exToks (es.take j0)).length) ln vals s0 (exsOk_get ho.2.2 q1) hI hk (standAll_at hsa q1) hkn (by rw[hL];exact hvl) (hV.ext hx0) (by rw[hq3];exact fun e=>by cases e)
   rw[hq3,hL]at g0
   refine⟨x0,(fun⟨v,s',h⟩=>by cases h),?_⟩
   rw[Rr.bnd_stop]
   dsimp only[Rr.val,Rr.st,Rr.code]at g0 ⊢
   have hcode:c=1∨c=2:=by have:=evEs_ext (p:=p) (locals:=L) (vals:=vals) (callV_ext (p:=p) (lim:=lim) n calls k) es s;rw[hR]at this;exact this.2
   refine specG_of_Wo hΓ hmix Try.func60 rfl (by decide) rfl rfl ?_
   rw[hL]
   repeat' ((conv=>whnf);first|(with_reducible first|apply Wx|apply W6)|apply oi|(apply fi<;>intro h)|refine⟨k,ln.tr,rfl,map_get hk,?_⟩|refine⟨pos,t.tr,rfl,map_get ht,?_⟩|refine cl hA ?_|refine⟨_,rfl,?_⟩|((with_reducible show _=_);rfl))
   all_goals try((with_reducible refine Obl.mk ?_);exact KP)
   have hz:evEs p L vals (callV p lim n calls k) (es.take 0) s= .ok [] s:=by rw[List.take_zero,evEs]
   conv=>whnf
   refine⟨{q:Nat×List Int×IS // q.1≤j0∧evEs p L vals (callV p lim n calls k) (es.take q.1) s= .ok q.2.1 q.2.2},fun q=>⟨[(0,.r (.c (.ptr (0,0,0) 0))),(1,tI .i64 (k:Int)),(2,tI .i64 ((pos+1+(exToks (es.take q.1.1)).length:Nat):Int)),(3,vStrs L),(4,.r (.c (.own (0,0,4)))),(12,.r (.c (.ptr (12,0,0) 0))),(13,.r (.c (.own (31,0,0)))),(14,tI .i64 ((es.length - q.1.1:Nat):Int))],
    [((0,0,0),some (.box [.t (.lst 4 (p.map TLine.tr)),.t (.int .i64 lim),.own (12,0,1),.own (12,0,2),.t (.int .i64 0),.t (.int .i64 0),.own (12,0,3)])),((12,0,1),some (.arr false 1 (q.1.2.2.out.map intRow))),((12,0,2),some (.dar 1 (deepRows (q.1.2.2.visits.map visRow)) none)),((12,0,3),some (.arr false 1 (calls.map intRow))),((0,0,4),some (.arr false 1 (vals.map intRow))),((12,0,0),some (.box (t.tr.map .t))),((31,0,0),some (.arr true 1 (q.1.2.1.map intRow)))],[31,12,0]⟩,fun q=>es.length - q.1.1,⟨(0,[],s),Nat.zero_le _,hz⟩,?_,?_⟩
   ·skip
    repeat' ((conv=>whnf);first|(with_reducible first|apply Wx|apply W6)|apply oi|(apply fi<;>intro h)|refine⟨_,rfl,?_⟩|((with_reducible show _=_);rfl))
    all_goals try((with_reducible refine Obl.mk ?_);exact KP)
    all_goals try exact⟨congrArg (Tr.int _) (by rw[IntWalk.i64_in _ (by omega)];simp[exToks])⟩
    all_goals try exact⟨KW⟩
   intro⟨⟨j,aj,sj⟩,hj,hjv⟩
   dsimp only at hj hjv ⊢
   obtain⟨a,ha⟩:=get_of_lt (l:=es) (k:=j) (by omega)
   have hta:=exToks_take_get ha
   have htk:=exToks_take_le es j
   by_cases hlj:j < j0
   ·obtain⟨a2,s2,h2⟩:=evEs_part q2 (j+1)
    rw[List.take_take,Nat.min_eq_left (by omega)]at h2
    obtain⟨v,hv,rfl⟩:=evEs_next hjv ha h2
    have hxj:=hxt j
    rw[hjv]at hxj
    have hva:evalF p lim n calls f k vals a sj= .ok v s2:=by show evE _ _ _ _ _ _=_;rw[hL];exact hv
    obtain⟨x,hx,g⟩:=hIH j a ha calls f en k (pos+1+(exToks (es.take j)).length) ln vals sj (exsOk_get ho.2.2 ha) hI hk (standAll_at hsa ha) hkn (by rw[hL];exact hvl) (hV.ext hxj) (by rw[hva];exact fun e=>by cases e)
    have hal:=evEs_len hjv
    rw[List.length_take]at hal
    obtain rfl:=hx ⟨v,s2,hva⟩
    rw[hva,hL]at g
    dsimp only[Rr.val,Rr.st,Rr.code]at g
    repeat' ((conv=>whnf);first|(with_reducible first|apply Wx|apply W6)|apply oi|(apply fi<;>intro h)|refine⟨_,rfl,?_⟩|((with_reducible show _=_);rfl))
    all_goals try((with_reducible refine Obl.mk ?_);exact KP)
    all_goals try exact KX
    refine cg (g) ?_
    repeat' ((conv=>whnf);first|(with_reducible first|apply Wx|apply W6)|apply oi|(apply fi<;>intro h)|refine⟨_,rfl,?_⟩|((with_reducible show _=_);rfl))
    all_goals try((with_reducible refine Obl.mk ?_);exact KP)
    all_goals try exact KX
    all_goals try exact⟨⟨by simp <;> omega,by simp <;> omega⟩⟩
    conv=>whnf
    refine⟨⟨(j+1,aj++[v],s2),by dsimp only;omega,h2⟩,?_,by dsimp only;omega⟩
    repeat' ((conv=>whnf);first|(with_reducible first|apply Wx|apply W6)|apply oi|(apply fi<;>intro h)|refine⟨_,rfl,?_⟩|((with_reducible show _=_);rfl))
    all_goals try((with_reducible refine Obl.mk ?_);exact KP)
    all_goals try exact⟨KW⟩
    all_goals exact⟨by simp[intRow]⟩
   ·obtain rfl:j=j0:=by omega
    rw[hjv]at q2
    injection q2 with q2 q4
    subst q2;subst q4
    repeat' ((conv=>whnf);first|(with_reducible first|apply Wx|apply W6)|apply oi|(apply fi<;>intro h)|refine⟨_,rfl,?_⟩|((with_reducible show _=_);rfl))
    all_goals try((with_reducible refine Obl.mk ?_);exact KP)
    all_goals try exact KX
    refine cg (g0) ?_
    repeat' ((conv=>whnf);first|(with_reducible first|apply Wx|apply W6)|apply oi|(apply fi<;>intro h)|refine⟨_,rfl,?_⟩|((with_reducible show _=_);rfl))
    all_goals try((with_reducible refine Obl.mk ?_);exact KP)
    all_goals try exact KX
    all_goals try(exfalso;simp at h;omega)
  | ok av s1=>
   rw[hR,Rr.bnd_ok]at hnf
   rw[Rr.bnd_ok]
   have hxR:=hxt es.length
   rw[List.take_length,hR]at hxR
   have hV1:=hV.ext hxR
   have hav:=evEs_len hR
   refine⟨((pos+(Ex.node t es).toks.length:Nat):Int),fun _=>rfl,?_⟩
   refine specG_of_Wo hΓ hmix Try.func60 rfl (by decide) rfl rfl ?_
   rw[hL]
   have hT:(Ex.node t es).toks.length=(exToks es).length+1:=by rw[Ex.toks,List.length_cons]
   rw[hT]
   repeat' ((conv=>whnf);first|(with_reducible first|apply Wx|apply W6)|apply oi|(apply fi<;>intro h)|refine⟨k,ln.tr,rfl,map_get hk,?_⟩|refine⟨pos,t.tr,rfl,map_get ht,?_⟩|refine cl hA ?_|refine⟨_,rfl,?_⟩|((with_reducible show _=_);rfl))
   all_goals try((with_reducible refine Obl.mk ?_);exact KP)
   have hz:evEs p L vals (callV p lim n calls k) (es.take 0) s= .ok [] s:=by rw[List.take_zero,evEs]
   conv=>whnf
   refine⟨{q:Nat×List Int×IS // q.1≤es.length∧evEs p L vals (callV p lim n calls k) (es.take q.1) s= .ok q.2.1 q.2.2},fun q=>⟨[(0,.r (.c (.ptr (0,0,0) 0))),(1,tI .i64 (k:Int)),(2,tI .i64 ((pos+1+(exToks (es.take q.1.1)).length:Nat):Int)),(3,vStrs L),(4,.r (.c (.own (0,0,4)))),(12,.r (.c (.ptr (12,0,0) 0))),(13,.r (.c (.own (31,0,0)))),(14,tI .i64 ((es.length - q.1.1:Nat):Int))],
    [((0,0,0),some (.box [.t (.lst 4 (p.map TLine.tr)),.t (.int .i64 lim),.own (12,0,1),.own (12,0,2),.t (.int .i64 0),.t (.int .i64 0),.own (12,0,3)])),((12,0,1),some (.arr false 1 (q.1.2.2.out.map intRow))),((12,0,2),some (.dar 1 (deepRows (q.1.2.2.visits.map visRow)) none)),((12,0,3),some (.arr false 1 (calls.map intRow))),((0,0,4),some (.arr false 1 (vals.map intRow))),((12,0,0),some (.box (t.tr.map .t))),((31,0,0),some (.arr true 1 (q.1.2.1.map intRow)))],[31,12,0]⟩,fun q=>es.length - q.1.1,⟨(0,[],s),Nat.zero_le _,hz⟩,?_,?_⟩
   ·skip
    repeat' ((conv=>whnf);first|(with_reducible first|apply Wx|apply W6)|apply oi|(apply fi<;>intro h)|refine⟨_,rfl,?_⟩|((with_reducible show _=_);rfl))
    all_goals try((with_reducible refine Obl.mk ?_);exact KP)
    all_goals try exact⟨congrArg (Tr.int _) (by rw[IntWalk.i64_in _ (by omega)];simp[exToks])⟩
    all_goals try exact⟨KW⟩
   intro⟨⟨j,aj,sj⟩,hj,hjv⟩
   dsimp only at hj hjv ⊢
   have htk:=exToks_take_le es j
   by_cases hlj:j < es.length
   ·obtain⟨a,ha⟩:=get_of_lt hlj
    have hta:=exToks_take_get ha
    obtain⟨a2,s2,h2⟩:=evEs_part hR (j+1)
    obtain⟨v,hv,rfl⟩:=evEs_next hjv ha h2
    have hxj:=hxt j
    rw[hjv]at hxj
    have hva:evalF p lim n calls f k vals a sj= .ok v s2:=by show evE _ _ _ _ _ _=_;rw[hL];exact hv
    obtain⟨x,hx,g⟩:=hIH j a ha calls f en k (pos+1+(exToks (es.take j)).length) ln vals sj (exsOk_get ho.2.2 ha) hI hk (standAll_at hsa ha) hkn (by rw[hL];exact hvl) (hV.ext hxj) (by rw[hva];exact fun e=>by cases e)
    have hal:=evEs_len hjv
    rw[List.length_take]at hal
    obtain rfl:=hx ⟨v,s2,hva⟩
    rw[hva,hL]at g
    dsimp only[Rr.val,Rr.st,Rr.code]at g
    repeat' ((conv=>whnf);first|(with_reducible first|apply Wx|apply W6)|apply oi|(apply fi<;>intro h)|refine⟨_,rfl,?_⟩|((with_reducible show _=_);rfl))
    all_goals try((with_reducible refine Obl.mk ?_);exact KP)
    all_goals try exact KX
    refine cg (g) ?_
    repeat' ((conv=>whnf);first|(with_reducible first|apply Wx|apply W6)|apply oi|(apply fi<;>intro h)|refine⟨_,rfl,?_⟩|((with_reducible show _=_);rfl))
    all_goals try((with_reducible refine Obl.mk ?_);exact KP)
    all_goals try exact KX
    all_goals try exact⟨⟨by simp <;> omega,by simp <;> omega⟩⟩
    conv=>whnf
    refine⟨⟨(j+1,aj++[v],s2),by dsimp only;omega,h2⟩,?_,by dsimp only;omega⟩
    repeat' ((conv=>whnf);first|(with_reducible first|apply Wx|apply W6)|apply oi|(apply fi<;>intro h)|refine⟨_,rfl,?_⟩|((with_reducible show _=_);rfl))
    all_goals try((with_reducible refine Obl.mk ?_);exact KP)
    all_goals try exact⟨KW⟩
    all_goals exact⟨by simp[intRow]⟩
   ·obtain rfl:j=es.length:=by omega
    rw[List.take_length]at hjv ⊢
    rw[hR]at hjv
    injection hjv with e3 e4
    subst e3;subst e4
    obtain⟨ak0,ak7,ak2⟩:=ar_kind ho.1
    rcases tok_kinds ho.1 with h0|h1|h7|h2
    ·have hf:finV p L vals (callV p lim n calls k) t av s1= .ok t.fNum s1:=by rw[finV,if_pos h0]
     rw[hf]
     dsimp only[Rr.val,Rr.st,Rr.code]
     repeat' ((conv=>whnf);first|(with_reducible first|apply Wx|apply W6)|apply oi|(apply fi<;>intro h)|refine⟨_,rfl,?_⟩|((with_reducible show _=_);rfl))
     all_goals try((with_reducible refine Obl.mk ?_);exact KP)
     all_goals try exact KX
     all_goals try(exfalso;simp_all;done)
     all_goals try exact⟨KW⟩
    ·obtain⟨i,hi⟩:=hkn.var t htm h1
     rw[hL]at hi
     have hix:=idxN_some hi
     have hIx:=s_spec_l04Index L t.fName (by omega)
     rw[show idxOf L t.fName=(i:Int) by rw[idxOf,hi];rfl]at hIx
     have hvi:vals[i]?=some (atL vals i):=atL_some (by rw[hvl];omega)
     have hgv:(vals.map intRow)[i]?=some (intRow (atL vals i)):=by rw[List.getElem?_map,hvi];rfl
     have hil:i < (vals.map intRow).length:=by rw[List.length_map,hvl];omega
     have hf:finV p L vals (callV p lim n calls k) t av s1= .ok (atL vals i) s1:=by rw[finV,if_neg (by omega),if_pos h1,valOf,hi]
     rw[hf]
     dsimp only[Rr.val,Rr.st,Rr.code]
     repeat' ((conv=>whnf);first|(with_reducible first|apply Wx|apply W6)|apply oi|(apply fi<;>intro h)|refine cl hIx ?_|refine⟨i,rfl,hil,?_⟩|refine⟨_,hgv,?_⟩|refine⟨_,rfl,?_⟩|((with_reducible show _=_);rfl))
     all_goals try((with_reducible refine Obl.mk ?_);exact KP)
     all_goals try exact KX
     all_goals try(exfalso;simp_all;done)
     all_goals try exact⟨KW⟩
    ·obtain⟨g,hg1,hg2⟩:=hkn.call t htm h7
     have hFF:=s_spec_FindFunction p t.fName (by omega)
     rw[show findF p t.fName=(g:Int) by rw[findF,hg1];rfl]at hFF
     obtain⟨hgl,y,hy,hy0,_⟩:=find_some hg1
     have hf:finV p L vals (callV p lim n calls k) t av s1=callV p lim n calls k g av s1:=by rw[finV,if_neg (by omega),if_neg (by omega),if_pos h7,hg1];rfl
     rw[hf]at hnf ⊢
     have hcl:(calls.map intRow).length=calls.length:=by simp
     by_cases h6:calls.length=6
     ·have hc6:callV p lim n calls k g av s1= .stop 2 s1:=by rw[callV,if_pos h6]
      rw[hc6]
      dsimp only[Rr.val,Rr.st,Rr.code]
      repeat' ((conv=>whnf);first|(with_reducible first|apply Wx|apply W6)|apply oi|(apply fi<;>intro h)|refine⟨_,rfl,?_⟩|((with_reducible show _=_);rfl))
      all_goals try((with_reducible refine Obl.mk ?_);exact KP)
      all_goals try exact KX
      all_goals try(exfalso;simp_all;done)
      all_goals try exact⟨KW⟩
     ·have hc6:callV p lim n calls k g av s1=linesV p lim n (calls++[(k:Int)]) g (g+1) (padV (localsOf p (g:Int)).length av) s1:=by rw[callV,if_neg h6]
      rw[hc6]at hnf ⊢
      have hcalls:=hV1.calls
      have gp:=hP (calls++[(k:Int)]) g av s1 ⟨y,hy,hy0⟩ (by have:=ak7 h7;omega) ⟨hV1.lm,hV1.vis,hV1.out,by rw[List.length_append];simp;omega⟩ hnf
      generalize linesV p lim n (calls++[(k:Int)]) g (g+1) (padV (localsOf p (g:Int)).length av) s1=R at *
      repeat' ((conv=>whnf);first|(with_reducible apply W1;fail_if_success (with_reducible show Wo _ _ _ _ (Code.region 22 _ _) _ _))|(with_reducible first|apply W2|apply W3|apply W4|apply W5|apply W6|apply W7|apply W8|apply W9)|apply reg_inl|apply oi|(apply fi<;>intro h)|refine⟨_,rfl,?_⟩|((with_reducible show _=_);rfl))
      all_goals try((with_reducible refine Obl.mk ?_);exact KP)
      all_goals try exact KX
      all_goals try(exfalso;rw[hcl]at h;simp at h;omega)
      all_goals try(exfalso;simp_all;done)
      all_goals try exact⟨⟨by simp <;> omega,by simp <;> omega⟩⟩
      all_goals try exact⟨flat_ints _⟩
      conv=>whnf
      refine view_rule ⟨[(0,.r (.c (.ptr (0,0,0) 0))),(2,tI .i64 ((pos+1+(exToks es).length:Nat):Int)),(12,.r (.c (.ptr (12,0,0) 0))),(13,.r (.c (.t (.lst 1 (av.map intRow)))))],
       [((0,0,0),some (.box [.t (.lst 4 (p.map TLine.tr)),.t (.int .i64 lim),.own (12,0,1),.own (12,0,2),.t (.int .i64 0),.t (.int .i64 0),.own (96,0,0)])),((96,0,0),some (.arr false 1 (calls.map intRow++[[.int .i64 (k:Int)]]))),((12,0,1),some (.arr false 1 (s1.out.map intRow))),((12,0,2),some (.dar 1 (deepRows (s1.visits.map visRow)) none)),((0,0,4),some (.arr false 1 (vals.map intRow))),((12,0,0),some (.box (t.tr.map .t)))],[96,95,31,12,0]⟩ ?_ ?_ rfl ?_
      ·refine⟨.inl rfl,.inl rfl,.inl rfl,.inr ⟨_,_,rfl,rfl,rfl,?_⟩,trivial⟩
       intro q hq;simp only[AC.ids,List.mem_cons,List.not_mem_nil,or_false]at hq;subst hq;rfl
      ·exact⟨.inr rfl,.inr rfl,.inr rfl,.inr rfl,.inr rfl,.inr rfl,trivial⟩
      have ec:(calls++[(k:Int)]).map intRow=calls.map intRow++[[.int .i64 (k:Int)]]:=by simp[intRow]
      simp only[runG,runH]at gp
      rw[ec]at gp
      have htk2:(calls.map intRow++[[Tr.int .i64 (k:Int)]]).length=calls.length+1:=by simp
      have hw2:IntKind.i64.wrap (((calls.map intRow++[[Tr.int .i64 (k:Int)]]).length:Int) - 1)=(calls.length:Int):=by rw[htk2,IntWalk.i64_in _ (by omega)];omega
      repeat' ((conv=>whnf);first|(with_reducible first|apply Wx|apply W6)|apply oi|(apply fi<;>intro h)|refine cl hFF ?_|refine⟨_,rfl,?_⟩|((with_reducible show _=_);rfl))
      all_goals try((with_reducible refine Obl.mk ?_);exact KP)
      have htk3:calls.length≤(calls.map intRow++[[Tr.int .i64 (k:Int)]]).length:=by omega
      have htk4:(calls.map intRow++[[Tr.int .i64 (k:Int)]]).take calls.length=calls.map intRow:=by rw[List.take_append_of_le_length (by simp),List.take_of_length_le (by simp)]
      refine cg (gp) ?_
      repeat' ((conv=>whnf);first|(with_reducible first|apply Wx|apply W6)|apply oi|(apply fi<;>intro h)|refine⟨calls.length,hw2,htk3,?_⟩|refine⟨_,rfl,?_⟩|((with_reducible show _=_);rfl))
      all_goals try((with_reducible refine Obl.mk ?_);exact KP)
      all_goals try exact⟨KW⟩
      all_goals try exact⟨htk4⟩
      all_goals exact⟨htk3⟩
    ·have hf2:=ak2 h2.1 h2.2
     obtain⟨x,y,rfl⟩:∃x y,av=[x,y]:=by
      match av,hav with
      | [x,y],_=>exact⟨x,y,rfl⟩
      | [],h=>simp at h;omega
      | [_],h=>simp at h;omega
      | _::_::_::_,h=>simp at h;omega
     have hAp:=s_spec_Apply t.fKind x y
     have hf:finV p L vals (callV p lim n calls k) t [x,y] s1= .ok (applyP t.fKind x y) s1:=by rw[finV,if_neg (by omega),if_neg (by omega),if_neg (by omega)];rfl
     rw[hf]
     dsimp only[Rr.val,Rr.st,Rr.code]
     repeat' ((conv=>whnf);first|(with_reducible first|apply Wx|apply W6)|apply oi|(apply fi<;>intro h)|refine cl hAp ?_|refine⟨0,rfl,(by simp),?_⟩|refine⟨1,rfl,(by simp),?_⟩|refine⟨_,rfl,?_⟩|((with_reducible show _=_);rfl))
     all_goals try((with_reducible refine Obl.mk ?_);exact KP)
     all_goals try exact KX
     all_goals try(exfalso;simp_all;done)
     all_goals try exact⟨KW⟩
end Go.Proofs.Ytjmplnfiabmalaa
namespace Go.Proofs.Ytjmplnfiabmalaa
open Go.Sim
set_option maxRecDepth 100000
set_option maxHeartbeats 4000000
theorem eq_nil_or_snoc {α:Type}(l:List α):l=[]∨∃W w,l=W++[w]:=by
 rcases List.eq_nil_or_concat l with h|⟨W,w,h⟩
 ·exact .inl h
 ·exact .inr ⟨W,w,by rw[h];simp⟩
theorem perfC_of {p:List TLine}(hp:PgOk p)(hpo:programOk p=true){lim:Int}:∀n,PerfC p lim n:=by
 intro n
 induction n using Nat.strongRecOn with
 | ind n ihn=>
  intro calls f args s hf hal hV hnf
  have hEv:∀m,m < n→∀e,EvalC p lim m e:=fun m hm e=>evalC_of hp (ihn m hm) e.toks.length e (Nat.le_refl _)
  obtain⟨en,hI0⟩:=InF.start hp hf
  have h60:=hp.len
  obtain⟨y,hy,hy0⟩:=hf
  obtain⟨e',he',hL8,hAL,_⟩:=hp.fn f y hy hy0
  rw[hI0.en]at he';injection he' with he';subst he'
  obtain⟨_,_,_,_,hfe,hel⟩:=endAt_some hI0.en
  have hA:argsN p f=y.fArgs.length:=by rw[argsN,hy]
  have h4:=(hp.line f y hy).2.2.1
  have hLo:=s_spec_LocalsOf p (f:Int) (by omega) (fun z hz=>smallRs_map hp.small hz)
  have hEn:=s_spec_EndOf p (f:Int) (by omega)
  rw[show endOf p (f:Int)=(en:Int) by rw[endOf_at];exact endI_some hI0.en]at hEn
  have hws:=whiles_start hI0
  obtain⟨L,hL⟩:∃L,localsOf p (f:Int)=L:=⟨_,rfl⟩
  have hKn:=fun{k:Nat} {ln:TLine} (hI:InF p f en k) (hk:p[k]?=some ln) (hke:k < en)=>known_of hpo hI hk hke
  rw[hL]at hL8 hAL hLo hnf ⊢
  obtain⟨R,hR⟩:∃R,linesV p lim n calls f (f+1) (padV L.length args) s=R:=⟨_,rfl⟩
  rw[hR]at hnf ⊢
  have hargs:(args.map intRow).length=args.length:=by simp
  refine specG_of_Wo hΓ hmix Try.func28 rfl (by decide) rfl rfl ?_
  repeat' ((conv=>whnf);first|(with_reducible apply W1;fail_if_success (with_reducible show Wo _ _ _ _ (Code.region 2 _ _) _ _))|(with_reducible first|apply W2|apply W3|apply W4|apply W5|apply W6|apply W7|apply W8|apply W9)|apply reg_inl|apply oi|(apply fi<;>intro h)|refine cl hLo ?_|refine⟨_,rfl,?_⟩|((with_reducible show _=_);rfl))
  all_goals try((with_reducible refine Obl.mk ?_);exact KP)
  conv=>whnf
  refine view_rule ⟨[(0,.r (.c (.ptr (0,0,0) 0))),(1,tI .i64 (f:Int)),(2,.r (.c (.t (.lst 1 (args.map intRow))))),(7,vStrs L)],
   [((0,0,0),some (.box [.t (.lst 4 (p.map TLine.tr)),.t (.int .i64 lim),.own (0,0,1),.own (0,0,2),.t (.int .i64 0),.t (.int .i64 0),.own (0,0,3)])),((0,0,1),some (.arr false 1 (s.out.map intRow))),((0,0,2),some (.dar 1 (deepRows (s.visits.map visRow)) none)),((0,0,3),some (.arr false 1 (calls.map intRow)))],[21,0]⟩ ?_ ?_ rfl ?_
  ·refine⟨.inl rfl,.inl rfl,.inl rfl,.inr ⟨_,_,rfl,rfl,rfl,?_⟩,trivial⟩
   intro q hq;simp only[AC.ids,List.mem_cons,List.not_mem_nil,or_false]at hq;subst hq;rfl
  ·exact⟨.inr rfl,.inr rfl,.inr rfl,.inr rfl,trivial⟩
  repeat' ((conv=>whnf);first|(with_reducible first|apply Wx|apply W6)|apply oi|(apply fi<;>intro h)|refine⟨_,rfl,?_⟩|((with_reducible show _=_);rfl))
  all_goals try((with_reducible refine Obl.mk ?_);exact KP)
  all_goals try exact⟨by simpa using flat_ints args⟩
  all_goals try exact⟨⟨by simp <;> omega,by simp <;> omega⟩⟩
  conv=>whnf
  refine⟨{j:Nat // j≤L.length - args.length},fun j=>⟨[(0,.r (.c (.ptr (0,0,0) 0))),(1,tI .i64 (f:Int)),(7,vStrs L),(8,.r (.c (.own (22,0,0))))],
   [((0,0,0),some (.box [.t (.lst 4 (p.map TLine.tr)),.t (.int .i64 lim),.own (0,0,1),.own (0,0,2),.t (.int .i64 0),.t (.int .i64 0),.own (0,0,3)])),((0,0,1),some (.arr false 1 (s.out.map intRow))),((0,0,2),some (.dar 1 (deepRows (s.visits.map visRow)) none)),((0,0,3),some (.arr false 1 (calls.map intRow))),((22,0,0),some (.arr false 1 ((args++List.replicate j.1 0).map intRow)))],[22,21,0]⟩,fun j=>L.length - j.1,⟨0,by omega⟩,?_,?_⟩
  ·skip
   repeat' ((conv=>whnf);first|(with_reducible first|apply Wx|apply W6)|apply oi|(apply fi<;>intro h)|refine⟨_,rfl,?_⟩|((with_reducible show _=_);rfl))
   all_goals try((with_reducible refine Obl.mk ?_);exact KP)
   all_goals try exact⟨KW⟩
   all_goals try exact⟨by simp⟩
  intro⟨j,hj⟩
  dsimp only
  have hjl:((args++List.replicate j 0).map intRow).length=args.length+j:=by simp
  have hll:(L.map strRow).length=L.length:=by simp
  by_cases hjlt:j < L.length - args.length
  ·skip
   repeat' ((conv=>whnf);first|(with_reducible first|apply Wx|apply W6)|apply oi|(apply fi<;>intro h)|refine⟨_,rfl,?_⟩|((with_reducible show _=_);rfl))
   all_goals try((with_reducible refine Obl.mk ?_);exact KP)
   all_goals try(exfalso;rw[hjl,hll]at h;simp at h;omega)
   all_goals try exact⟨⟨by rw[hjl];simp <;> omega,by rw[hjl];simp <;> omega⟩⟩
   conv=>whnf
   refine⟨⟨j+1,by omega⟩,?_,by dsimp only;omega⟩
   repeat' ((conv=>whnf);first|(with_reducible first|apply Wx|apply W6)|apply oi|(apply fi<;>intro h)|refine⟨_,rfl,?_⟩|((with_reducible show _=_);rfl))
   all_goals try((with_reducible refine Obl.mk ?_);exact KP)
   all_goals exact⟨by rw[List.replicate_succ'];simp[intRow]⟩
  ·skip
   repeat' ((conv=>whnf);first|(with_reducible first|apply Wx|apply W6)|apply oi|(apply fi<;>intro h)|refine cl hEn ?_|refine⟨_,rfl,?_⟩|((with_reducible show _=_);rfl))
   all_goals try((with_reducible refine Obl.mk ?_);exact KP)
   all_goals try(exfalso;rw[hjl,hll]at h;simp at h;omega)
   have hpad:args++List.replicate j 0=padV L.length args:=by rw[padV,show j=L.length - args.length by omega]
   rw[hpad]
   have hpl:(padV L.length args).length=L.length:=by rw[padV,List.length_append,List.length_replicate];omega
   generalize padV L.length args=V0 at *
   conv=>whnf
   refine⟨{q:Nat×Nat×List Int×IS // q.1≤n∧InF p f en q.2.1∧q.2.2.1.length=L.length∧InV lim calls q.2.2.2∧linesV p lim q.1 calls f q.2.1 q.2.2.1 q.2.2.2=R},fun q=>⟨[(0,.r (.c (.ptr (0,0,0) 0))),(1,tI .i64 (f:Int)),(7,vStrs L),(8,.r (.c (.own (22,0,0)))),(9,tI .i64 (en:Int)),(10,.r (.c (.own (39,0,0)))),(11,tI .i64 (q.1.2.1:Int))],
    [((0,0,0),some (.box [.t (.lst 4 (p.map TLine.tr)),.t (.int .i64 lim),.own (22,0,1),.own (22,0,2),.t (.int .i64 0),.t (.int .i64 0),.own (22,0,3)])),((22,0,1),some (.arr false 1 (q.1.2.2.2.out.map intRow))),((22,0,2),some (.dar 1 (deepRows (q.1.2.2.2.visits.map visRow)) none)),((22,0,3),some (.arr false 1 (calls.map intRow))),((22,0,0),some (.arr false 1 (q.1.2.2.1.map intRow))),((39,0,0),some (.arr true 1 ((whilesAt p f q.1.2.1).map fun i:Nat=>intRow (i:Int))))],[39,22,21,0]⟩,fun q=>q.1.1,⟨(n,f+1,V0,s),Nat.le_refl _,hI0,hpl,hV,hR⟩,?_,?_⟩
   ·skip
    repeat' ((conv=>whnf);first|(with_reducible first|apply Wx|apply W6)|apply oi|(apply fi<;>intro h)|refine⟨_,rfl,?_⟩|((with_reducible show _=_);rfl))
    all_goals try((with_reducible refine Obl.mk ?_);exact KP)
    all_goals try exact⟨KW⟩
    all_goals try exact⟨by rw[hws];rfl⟩
   intro⟨⟨m,k,vals,sk⟩,hm,hI,hvl,hVk,hRk⟩
   dsimp only at hm hI hvl hVk hRk ⊢
   match m,hm,hRk with
   | 0,_,hRk=>exact absurd hRk.symm hnf
   | m+1,hm,hRk=>
   obtain⟨ln,hk,hk1,hk7,hke⟩:=hI.line hp
   by_cases hkl:k < en
   ·obtain⟨kd,nm,ag,ex⟩:=ln
    dsimp only at hk1 hk7 hke
    have hrow:p[k]?=some ⟨kd,nm,ag,ex⟩:=hk
    have hvm:(vals.map intRow).length=vals.length:=by simp
    rcases(show kd=7∨kd=4∨(kd≠7∧kd≠4) by omega)with rfl|rfl|⟨h7,h4'⟩
    ·obtain⟨ho,h|⟨q1,q2,q3,y2,hy2,q4⟩⟩:=hI.own7 hp hk rfl
     ·omega
     rw[linesV_end hk rfl,if_neg (by omega),kindAt_of hy2]at hRk
     generalize ownOf p k=o at *
     by_cases h5:y2.fKind=5
     ·rw[if_pos h5]at hRk
      rw[whiles_pop hI.lo ho q2 hy2 h5,List.map_append]
      have hwl:=whiles_len p f o
      have hsl:((whilesAt p f o).map (fun i:Nat=>intRow (i:Int))++[o].map fun i:Nat=>intRow (i:Int)).length=(whilesAt p f o).length+1:=by simp
      have hw:IntKind.i64.wrap ((((whilesAt p f o).map (fun i:Nat=>intRow (i:Int))++[o].map fun i:Nat=>intRow (i:Int)).length:Int) - 1)=((whilesAt p f o).length:Int):=by rw[hsl,IntWalk.i64_in _ (by omega)];omega
      have hlt:(whilesAt p f o).length < ((whilesAt p f o).map (fun i:Nat=>intRow (i:Int))++[o].map fun i:Nat=>intRow (i:Int)).length:=by omega
      have hgt:((whilesAt p f o).map (fun i:Nat=>intRow (i:Int))++[o].map fun i:Nat=>intRow (i:Int))[(whilesAt p f o).length]?=some (intRow (o:Int)):=by simp
      have htk:((whilesAt p f o).map (fun i:Nat=>intRow (i:Int))++[o].map fun i:Nat=>intRow (i:Int)).take (whilesAt p f o).length=(whilesAt p f o).map fun i:Nat=>intRow (i:Int):=by rw[List.take_append_of_le_length (by simp),List.take_of_length_le (by simp)]
      have hEo:=s_spec_EndOf p (o:Int) (by omega)
      rw[show endOf p (o:Int)=(k:Int) by rw[endOf_at];exact endI_some ho]at hEo
      have hsl2:(whilesAt p f o).length≤((whilesAt p f o).map (fun i:Nat=>intRow (i:Int))++[o].map fun i:Nat=>intRow (i:Int)).length:=by omega
      repeat' ((conv=>whnf);first|(with_reducible first|apply Wx|apply W6)|apply oi|(apply fi<;>intro h)|refine⟨k,(TLine.tr ⟨7,nm,ag,ex⟩),rfl,map_get hk,?_⟩|refine cl hEo ?_|refine⟨(whilesAt p f o).length,hw,hlt,?_⟩|refine⟨_,hgt,?_⟩|refine⟨(whilesAt p f o).length,hw,hsl2,?_⟩|refine⟨_,rfl,?_⟩|((with_reducible show _=_);rfl))
      all_goals try((with_reducible refine Obl.mk ?_);exact KP)
      all_goals try exact KX
      all_goals try(exfalso;simp at h;done)
      conv=>whnf
      refine⟨⟨(m,o,vals,sk),by dsimp only;omega,hI.at q2 (by dsimp only;omega),hvl,hVk,hRk⟩,?_,by dsimp only;omega⟩
      repeat' ((conv=>whnf);first|(with_reducible first|apply Wx|apply W6)|apply oi|(apply fi<;>intro h)|refine⟨_,rfl,?_⟩|((with_reducible show _=_);rfl))
      all_goals try((with_reducible refine Obl.mk ?_);exact KP)
      all_goals try exact⟨KW⟩
      all_goals try exact⟨htk⟩
      all_goals exact⟨hsl2⟩
     ·rw[if_neg h5]at hRk
      obtain⟨hw1,hw2⟩:=whiles_if hk rfl ho hy2 (by omega)
      have hwl:=whiles_len p f k
      rcases eq_nil_or_snoc (whilesAt p f k)with hn|⟨W,w,hsn⟩
      ·rw[hn]
       rw[hn]at hw1
       repeat' ((conv=>whnf);first|(with_reducible first|apply Wx|apply W6)|apply oi|(apply fi<;>intro h)|refine⟨k,(TLine.tr ⟨7,nm,ag,ex⟩),rfl,map_get hk,?_⟩|refine⟨_,rfl,?_⟩|((with_reducible show _=_);rfl))
       all_goals try((with_reducible refine Obl.mk ?_);exact KP)
       all_goals try exact KX
       conv=>whnf
       refine⟨⟨(m,k+1,vals,sk),by dsimp only;omega,hI.at (by have:=hI.lo;dsimp only;omega) (by dsimp only;omega),hvl,hVk,hRk⟩,?_,by dsimp only;omega⟩
       repeat' ((conv=>whnf);first|(with_reducible first|apply Wx|apply W6)|apply oi|(apply fi<;>intro h)|refine⟨_,rfl,?_⟩|((with_reducible show _=_);rfl))
       all_goals try((with_reducible refine Obl.mk ?_);exact KP)
       all_goals try exact⟨KW⟩
       all_goals exact⟨by dsimp only;rw[hw1]⟩
      ·have hwm:w∈whilesAt p f k:=by rw[hsn];simp
       have hwk:=hw2 w hwm
       obtain⟨_,_,_,ew,hew,_⟩:=whiles_mem hwm
       have hEw:=s_spec_EndOf p (w:Int) (by omega)
       rw[show endOf p (w:Int)=(ew:Int) by rw[endOf_at];exact endI_some hew]at hEw
       have hne:ew≠k:=fun e=>hwk (by rw[hew,e])
       rw[hsn,List.map_append]
       rw[hsn]at hw1 hwl
       rw[List.length_append,List.length_cons,List.length_nil]at hwl
       have hsl:(W.map (fun i:Nat=>intRow (i:Int))++[w].map fun i:Nat=>intRow (i:Int)).length=W.length+1:=by simp
       have hw:IntKind.i64.wrap (((W.map (fun i:Nat=>intRow (i:Int))++[w].map fun i:Nat=>intRow (i:Int)).length:Int) - 1)=(W.length:Int):=by rw[hsl,IntWalk.i64_in _ (by omega)];omega
       have hlt:W.length < (W.map (fun i:Nat=>intRow (i:Int))++[w].map fun i:Nat=>intRow (i:Int)).length:=by omega
       have hgt:(W.map (fun i:Nat=>intRow (i:Int))++[w].map fun i:Nat=>intRow (i:Int))[W.length]?=some (intRow (w:Int)):=by simp
       repeat' ((conv=>whnf);first|(with_reducible first|apply Wx|apply W6)|apply oi|(apply fi<;>intro h)|refine⟨k,(TLine.tr ⟨7,nm,ag,ex⟩),rfl,map_get hk,?_⟩|refine cl hEw ?_|refine⟨W.length,hw,hlt,?_⟩|refine⟨_,hgt,?_⟩|refine⟨_,rfl,?_⟩|((with_reducible show _=_);rfl))
       all_goals try((with_reducible refine Obl.mk ?_);exact KP)
       all_goals try exact KX
       all_goals try(exfalso;simp at h;omega)
       all_goals try(exfalso;rw[hsl]at h;simp at h;omega)
       conv=>whnf
       refine⟨⟨(m,k+1,vals,sk),by dsimp only;omega,hI.at (by have:=hI.lo;dsimp only;omega) (by dsimp only;omega),hvl,hVk,hRk⟩,?_,by dsimp only;omega⟩
       repeat' ((conv=>whnf);first|(with_reducible first|apply Wx|apply W6)|apply oi|(apply fi<;>intro h)|refine⟨_,rfl,?_⟩|((with_reducible show _=_);rfl))
       all_goals try((with_reducible refine Obl.mk ?_);exact KP)
       all_goals try exact⟨KW⟩
       all_goals exact⟨by dsimp only;rw[hw1,List.map_append]⟩
    ·have hn4:=hI.elseNext hp hk rfl
     obtain⟨q1,q2,q3,q4⟩:=hI.own4 hp hk rfl
     have hwe:=whiles_else hp hI hk rfl
     rw[linesV_else hk rfl]at hRk
     have hEo:=s_spec_EndOf p (ownOf p k:Int) (by omega)
     obtain⟨x3,e3,hx3,hx33,he3,_,_,_⟩:=elseAt_some q1
     have hE3:endL' p (ownOf p k)=e3:=by rw[endL',he3];rfl
     rw[show endOf p (ownOf p k:Int)=(e3:Int) by rw[endOf_at];exact endI_some he3]at hEo
     rw[hE3]at hn4 hwe hRk
     have hone:∀i,elseAt p i=some k→i=ownOf p k:=fun i h=>elseAt_inj h q1
     generalize ownOf p k=o at *
     have h7e:∀i,elseAt p i≠some e3:=fun i h=>by
      obtain⟨_,_,_,_,_,_,_,z,hz,h4z⟩:=elseAt_some h
      obtain⟨z2,hz2,h7z⟩:=endAt_kind he3
      rw[hz]at hz2;injection hz2 with hz2;subst hz2;omega
     have hEl:=fun i:Nat=>s_spec_ElseOf p (i:Int) (by omega)
     repeat' ((conv=>whnf);first|(with_reducible first|apply Wx|apply W6)|apply oi|(apply fi<;>intro h)|refine⟨k,(TLine.tr ⟨4,nm,ag,ex⟩),rfl,map_get hk,?_⟩|refine⟨_,rfl,?_⟩|((with_reducible show _=_);rfl))
     all_goals try((with_reducible refine Obl.mk ?_);exact KP)
     all_goals try exact KX
     conv=>whnf
     refine⟨{i:Nat // f≤i∧i≤e3},fun i=>⟨[(0,.r (.c (.ptr (0,0,0) 0))),(1,tI .i64 (f:Int)),(7,vStrs L),(8,.r (.c (.own (22,0,0)))),(9,tI .i64 (en:Int)),(10,.r (.c (.own (39,0,0)))),(11,tI .i64 ((if o < i.1 then e3 else k:Nat):Int)),(13,tI .i64 (i.1:Int))],
      [((0,0,0),some (.box [.t (.lst 4 (p.map TLine.tr)),.t (.int .i64 lim),.own (22,0,1),.own (22,0,2),.t (.int .i64 0),.t (.int .i64 0),.own (22,0,3)])),((22,0,1),some (.arr false 1 (sk.out.map intRow))),((22,0,2),some (.dar 1 (deepRows (sk.visits.map visRow)) none)),((22,0,3),some (.arr false 1 (calls.map intRow))),((22,0,0),some (.arr false 1 (vals.map intRow))),((39,0,0),some (.arr true 1 ((whilesAt p f k).map fun i:Nat=>intRow (i:Int))))],[39,22,21,0]⟩,fun i=>e3 - i.1,⟨f,by omega,by omega⟩,?_,?_⟩
     ·skip
      repeat' ((conv=>whnf);first|(with_reducible first|apply Wx|apply W6)|apply oi|(apply fi<;>intro h)|refine⟨_,rfl,?_⟩|((with_reducible show _=_);rfl))
      all_goals try((with_reducible refine Obl.mk ?_);exact KP)
      all_goals try exact⟨KW⟩
      all_goals exact⟨by dsimp only;rw[if_neg (by omega)]⟩
     intro⟨i,hi1,hi2⟩
     dsimp only
     have hEi:=hEl i
     by_cases hio:o < i
     ·rw[if_pos hio]
      by_cases hie:i < e3
      ·have hv:elseOf p (i:Int)≠(e3:Int):=fun h=>by
        rw[elseOf_at]at h
        cases hx:elseAt p i with
        | none=>rw[hx]at h;simp[endI]at h
        | some j=>rw[hx]at h;simp only[endI]at h;exact h7e i (by rw[hx];congr 1;omega)
       generalize elseOf p (i:Int)=ev at *
       repeat' ((conv=>whnf);first|(with_reducible first|apply Wx|apply W6)|apply oi|(apply fi<;>intro h)|refine cl hEi ?_|refine⟨_,rfl,?_⟩|((with_reducible show _=_);rfl))
       all_goals try((with_reducible refine Obl.mk ?_);exact KP)
       all_goals try exact KX
       all_goals try(exfalso;simp at h;exact hv h)
       conv=>whnf
       refine⟨⟨i+1,by omega,by omega⟩,?_,by dsimp only;omega⟩
       repeat' ((conv=>whnf);first|(with_reducible first|apply Wx|apply W6)|apply oi|(apply fi<;>intro h)|refine⟨_,rfl,?_⟩|((with_reducible show _=_);rfl))
       all_goals try((with_reducible refine Obl.mk ?_);exact KP)
       all_goals try exact⟨KW⟩
       all_goals exact⟨by dsimp only;rw[if_pos (by omega)]⟩
      ·have hie':i=e3:=by omega
       subst hie'
       repeat' ((conv=>whnf);first|(with_reducible first|apply Wx|apply W6)|apply oi|(apply fi<;>intro h)|refine⟨_,rfl,?_⟩|((with_reducible show _=_);rfl))
       all_goals try((with_reducible refine Obl.mk ?_);exact KP)
       all_goals try exact KX
       conv=>whnf
       refine⟨⟨(m,i+1,vals,sk),by dsimp only;omega,hI.at (by have:=hI.lo;dsimp only;omega) (by dsimp only;omega),hvl,hVk,hRk⟩,?_,by dsimp only;omega⟩
       repeat' ((conv=>whnf);first|(with_reducible first|apply Wx|apply W6)|apply oi|(apply fi<;>intro h)|refine⟨_,rfl,?_⟩|((with_reducible show _=_);rfl))
       all_goals try((with_reducible refine Obl.mk ?_);exact KP)
       all_goals try exact⟨KW⟩
       all_goals exact⟨by dsimp only;rw[hwe]⟩
     ·rw[if_neg hio]
      by_cases hie:i=o
      ·subst hie
       rw[show elseOf p (i:Int)=(k:Int) by rw[elseOf_at,q1];rfl]at hEi
       repeat' ((conv=>whnf);first|(with_reducible first|apply Wx|apply W6)|apply oi|(apply fi<;>intro h)|refine cl hEi ?_|refine cl hEo ?_|refine⟨_,rfl,?_⟩|((with_reducible show _=_);rfl))
       all_goals try((with_reducible refine Obl.mk ?_);exact KP)
       all_goals try exact KX
       all_goals try(exfalso;simp at h;done)
       conv=>whnf
       refine⟨⟨i+1,by omega,by omega⟩,?_,by dsimp only;omega⟩
       repeat' ((conv=>whnf);first|(with_reducible first|apply Wx|apply W6)|apply oi|(apply fi<;>intro h)|refine⟨_,rfl,?_⟩|((with_reducible show _=_);rfl))
       all_goals try((with_reducible refine Obl.mk ?_);exact KP)
       all_goals try exact⟨KW⟩
       all_goals exact⟨by dsimp only;rw[if_pos (by omega)]⟩
      ·have hv:elseOf p (i:Int)≠(k:Int):=fun h=>by
        rw[elseOf_at]at h
        cases hx:elseAt p i with
        | none=>rw[hx]at h;simp[endI]at h
        | some j=>rw[hx]at h;simp only[endI]at h;exact hie (hone i (by rw[hx];congr 1;omega))
       generalize elseOf p (i:Int)=ev at *
       repeat' ((conv=>whnf);first|(with_reducible first|apply Wx|apply W6)|apply oi|(apply fi<;>intro h)|refine cl hEi ?_|refine⟨_,rfl,?_⟩|((with_reducible show _=_);rfl))
       all_goals try((with_reducible refine Obl.mk ?_);exact KP)
       all_goals try exact KX
       all_goals try(exfalso;simp at h;exact hv h)
       conv=>whnf
       refine⟨⟨i+1,by omega,by omega⟩,?_,by dsimp only;omega⟩
       repeat' ((conv=>whnf);first|(with_reducible first|apply Wx|apply W6)|apply oi|(apply fi<;>intro h)|refine⟨_,rfl,?_⟩|((with_reducible show _=_);rfl))
       all_goals try((with_reducible refine Obl.mk ?_);exact KP)
       all_goals try exact⟨KW⟩
       all_goals exact⟨by dsimp only;rw[if_neg (by omega)]⟩
    ·have hk6:kd=1∨kd=2∨kd=3∨kd=5∨kd=6:=by omega
     have hvn:sk.visits.length≤1000:=by have:=hVk.vis;have:=hVk.lm;omega
     by_cases hfull:(sk.visits.length:Int)=lim
     ·rw[linesV_full hk h7 h4' hfull]at hRk
      subst hRk
      dsimp only[Rr.val,Rr.st,Rr.code]
      have gv:=g_spec_visit_full p lim (k:Int) ⟨sk.out,sk.visits,0,0,calls⟩ hfull
      rcases hk6 with rfl|rfl|rfl|rfl|rfl
      all_goals(
       repeat' ((conv=>whnf);first|(with_reducible first|apply Wx|apply W6)|apply oi|(apply fi<;>intro h)|refine⟨k,(TLine.tr ⟨_,nm,ag,ex⟩),rfl,map_get hk,?_⟩|refine⟨_,rfl,?_⟩|((with_reducible show _=_);rfl))
       all_goals try((with_reducible refine Obl.mk ?_);exact KP)
       all_goals try exact KX
       refine cg (gv) ?_
       repeat' ((conv=>whnf);first|(with_reducible first|apply Wx|apply W6)|apply oi|(apply fi<;>intro h)|refine⟨_,rfl,?_⟩|((with_reducible show _=_);rfl))
       all_goals try((with_reducible refine Obl.mk ?_);exact KP)
       skip)
     ·rw[linesV_at hk h7 h4' hfull]at hRk
      have gv:=g_spec_visit p lim (k:Int) ⟨sk.out,sk.visits,0,0,calls⟩ hvn hVk.calls hfull
      obtain⟨hxo,e1,e2,e3⟩:=hI.known hp hk h7 h4'
      obtain⟨hkn,hset⟩:=hKn hI hk hkl
      have hV1:InV lim calls ⟨sk.out,sk.visits++[calls++[(k:Int)]]⟩:=hVk.ext (visit_ext hfull _)
      dsimp only at hRk hxo e1 e2 hkn hset
      obtain⟨E,hE⟩:∃E,evalF p lim m calls f k vals (exL ex) ⟨sk.out,sk.visits++[calls++[(k:Int)]]⟩=E:=⟨_,rfl⟩
      have hxE:=evE_ext (p:=p) (locals:=localsOf p (f:Int)) (vals:=vals) (callV_ext (p:=p) (lim:=lim) m calls k) (exL ex) ⟨sk.out,sk.visits++[calls++[(k:Int)]]⟩
      rw[show evE p (localsOf p (f:Int)) vals (callV p lim m calls k) (exL ex) ⟨sk.out,sk.visits++[calls++[(k:Int)]]⟩=E from hE]at hRk hxE
      have hnE:evalF p lim m calls f k vals (exL ex) ⟨sk.out,sk.visits++[calls++[(k:Int)]]⟩≠.fuel:=fun e=>by
       rw[hE]at e;rw[e]at hRk;exact hnf hRk.symm
      obtain⟨x,_,g⟩:=hEv m (by omega) (exL ex) calls f en k 0 ⟨kd,nm,ag,ex⟩ vals ⟨sk.out,sk.visits++[calls++[(k:Int)]]⟩ e1 hI hk ⟨[],by rw[List.drop_zero,List.append_nil];exact e2⟩ hkn (by rw[hL];exact hvl) hV1 hnE
      rw[hE,hL]at g
      rw[hL]at hRk hset
      match E,hE,hRk,hxE,g with
      | .fuel,hE,_,_,_=>exact absurd hE hnE
      | .stop c s2,hE,hRk,hxE,g=>
       have hRk:Rr.stop c s2=R:=hRk
       subst hRk
       have hcode:=hxE.2
       dsimp only[Rr.val,Rr.st,Rr.code]at g ⊢
       rcases hk6 with rfl|rfl|rfl|rfl|rfl
       all_goals(
        repeat' ((conv=>whnf);first|(with_reducible first|apply Wx|apply W6)|apply oi|(apply fi<;>intro h)|refine⟨k,(TLine.tr ⟨_,nm,ag,ex⟩),rfl,map_get hk,?_⟩|refine⟨_,rfl,?_⟩|((with_reducible show _=_);rfl))
        all_goals try((with_reducible refine Obl.mk ?_);exact KP)
        all_goals try exact KX
        refine cg (gv) ?_
        repeat' ((conv=>whnf);first|(with_reducible first|apply Wx|apply W6)|apply oi|(apply fi<;>intro h)|refine⟨_,rfl,?_⟩|((with_reducible show _=_);rfl))
        all_goals try((with_reducible refine Obl.mk ?_);exact KP)
        refine cg (g) ?_
        repeat' ((conv=>whnf);first|(with_reducible first|apply Wx|apply W6)|apply oi|(apply fi<;>intro h)|refine⟨_,rfl,?_⟩|((with_reducible show _=_);rfl))
        all_goals try((with_reducible refine Obl.mk ?_);exact KP)
        all_goals try(exfalso;simp at h;omega)
        skip)
      | .ok v s2,hE,hRk,hxE,g=>
       rw[Rr.bnd_ok]at hRk
       have hxE:Ext lim ⟨sk.out,sk.visits++[calls++[(k:Int)]]⟩ s2:=hxE
       have hV2:InV lim calls s2:=hV1.ext hxE
       have hvn2:s2.out.length≤1000:=by have:=hV2.vis;have:=hV2.lm;have:=hV2.out;omega
       dsimp only[Rr.val,Rr.st,Rr.code]at g
       rcases hk6 with rfl|rfl|rfl|rfl|rfl
       ·obtain⟨ix,hix⟩:=hset rfl
        have hixl:=idxN_some hix
        have hIx:=s_spec_l04Index L nm (by omega)
        rw[show idxOf L nm=(ix:Int) by rw[idxOf,hix];rfl]at hIx
        have hil:ix < (vals.map intRow).length:=by omega
        have hgv:(vals.map intRow)[ix]?=some (intRow (atL vals ix)):=by rw[List.getElem?_map,atL_some (by omega)];rfl
        have hsv:setV L ⟨1,nm,ag,ex⟩ vals v=vals.set ix v:=by rw[setV,if_pos rfl,hix]
        have hov:outV ⟨1,nm,ag,ex⟩ s2 v=s2:=by rw[outV,if_neg (by simp)]
        have hnx:nextV p ⟨1,nm,ag,ex⟩ k v=k+1:=by rw[nextV,if_neg (by simp)]
        rw[if_neg (by simp),hsv,hov,hnx]at hRk
        have hwn:=whiles_next (f:=f) hk (by simp) (by simp)
        repeat' ((conv=>whnf);first|(with_reducible first|apply Wx|apply W6)|apply oi|(apply fi<;>intro h)|refine⟨k,(TLine.tr ⟨_,nm,ag,ex⟩),rfl,map_get hk,?_⟩|refine⟨_,rfl,?_⟩|((with_reducible show _=_);rfl))
        all_goals try((with_reducible refine Obl.mk ?_);exact KP)
        all_goals try exact KX
        refine cg (gv) ?_
        repeat' ((conv=>whnf);first|(with_reducible first|apply Wx|apply W6)|apply oi|(apply fi<;>intro h)|refine⟨_,rfl,?_⟩|((with_reducible show _=_);rfl))
        all_goals try((with_reducible refine Obl.mk ?_);exact KP)
        refine cg (g) ?_
        repeat' ((conv=>whnf);first|(with_reducible first|apply Wx|apply W6)|apply oi|(apply fi<;>intro h)|refine cl hIx ?_|refine⟨ix,rfl,hil,?_⟩|refine⟨_,hgv,?_⟩|refine⟨_,rfl,?_⟩|((with_reducible show _=_);rfl))
        all_goals try((with_reducible refine Obl.mk ?_);exact KP)
        all_goals try exact KX
        conv=>whnf
        refine⟨⟨(m,k+1,vals.set ix v,s2),by dsimp only;omega,hI.at (by have:=hI.lo;dsimp only;omega) (by dsimp only;omega),by dsimp only;rw[List.length_set];exact hvl,hV2,hRk⟩,?_,by dsimp only;omega⟩
        repeat' ((conv=>whnf);first|(with_reducible first|apply Wx|apply W6)|apply oi|(apply fi<;>intro h)|refine⟨_,rfl,?_⟩|((with_reducible show _=_);rfl))
        all_goals try((with_reducible refine Obl.mk ?_);exact KP)
        all_goals try exact⟨KW⟩
        all_goals try exact⟨by dsimp only;rw[hwn]⟩
        all_goals try exact⟨by dsimp only;rw[List.map_set];rfl⟩
       ·have hsv:setV L ⟨2,nm,ag,ex⟩ vals v=vals:=by rw[setV,if_neg (by simp)]
        have hov:outV ⟨2,nm,ag,ex⟩ s2 v=⟨s2.out++[v],s2.visits⟩:=by rw[outV,if_pos rfl]
        have hnx:nextV p ⟨2,nm,ag,ex⟩ k v=k+1:=by rw[nextV,if_neg (by simp)]
        have hxo:=out_ext (ln:=⟨2,nm,ag,ex⟩) (v:=v) hfull hxE
        rw[hov]at hxo
        rw[if_neg (by simp),hsv,hov,hnx]at hRk
        have hwn:=whiles_next (f:=f) hk (by simp) (by simp)
        repeat' ((conv=>whnf);first|(with_reducible first|apply Wx|apply W6)|apply oi|(apply fi<;>intro h)|refine⟨k,(TLine.tr ⟨_,nm,ag,ex⟩),rfl,map_get hk,?_⟩|refine⟨_,rfl,?_⟩|((with_reducible show _=_);rfl))
        all_goals try((with_reducible refine Obl.mk ?_);exact KP)
        all_goals try exact KX
        refine cg (gv) ?_
        repeat' ((conv=>whnf);first|(with_reducible first|apply Wx|apply W6)|apply oi|(apply fi<;>intro h)|refine⟨_,rfl,?_⟩|((with_reducible show _=_);rfl))
        all_goals try((with_reducible refine Obl.mk ?_);exact KP)
        refine cg (g) ?_
        repeat' ((conv=>whnf);first|(with_reducible first|apply Wx|apply W6)|apply oi|(apply fi<;>intro h)|refine⟨_,rfl,?_⟩|((with_reducible show _=_);rfl))
        all_goals try((with_reducible refine Obl.mk ?_);exact KP)
        all_goals try exact KX
        all_goals try exact⟨⟨by simp <;> omega,by simp <;> omega⟩⟩
        conv=>whnf
        refine⟨⟨(m,k+1,vals,⟨s2.out++[v],s2.visits⟩),by dsimp only;omega,hI.at (by have:=hI.lo;dsimp only;omega) (by dsimp only;omega),hvl,hVk.ext hxo,hRk⟩,?_,by dsimp only;omega⟩
        repeat' ((conv=>whnf);first|(with_reducible first|apply Wx|apply W6)|apply oi|(apply fi<;>intro h)|refine⟨_,rfl,?_⟩|((with_reducible show _=_);rfl))
        all_goals try((with_reducible refine Obl.mk ?_);exact KP)
        all_goals try exact⟨KW⟩
        all_goals try exact⟨by dsimp only;rw[hwn]⟩
        all_goals try exact⟨by simp[intRow]⟩
       ·have hsv:setV L ⟨3,nm,ag,ex⟩ vals v=vals:=by rw[setV,if_neg (by simp)]
        have hov:outV ⟨3,nm,ag,ex⟩ s2 v=s2:=by rw[outV,if_neg (by simp)]
        rw[if_neg (by simp),hsv,hov]at hRk
        by_cases hv0:v=0
        ·subst hv0
         have hnx:nextV p ⟨3,nm,ag,ex⟩ k 0=skipAt p k+1:=by rw[nextV,if_pos ⟨.inl rfl,rfl⟩]
         rw[hnx]at hRk
         have hws:=whiles_skip hp hI hkl hk (.inl rfl)
         have hsk:=hI.skip hp hk (.inl rfl) hkl
         have hEl:=s_spec_ElseOf p (k:Int) (by omega)
         obtain⟨ek,hek,_,_⟩:=endAt_in hI.en hI.lo hkl hk (by rw[opensK_iff];simp)
         have hEk:=s_spec_EndOf p (k:Int) (by omega)
         rw[show endOf p (k:Int)=(ek:Int) by rw[endOf_at];exact endI_some hek]at hEk
         cases hel2:elseAt p k with
         | some j=>
          have hj:skipAt p k=j:=by rw[skipAt,hel2]
          rw[show elseOf p (k:Int)=(j:Int) by rw[elseOf_at,hel2];rfl]at hEl
          rw[hj]at hRk hws hsk
          repeat' ((conv=>whnf);first|(with_reducible first|apply Wx|apply W6)|apply oi|(apply fi<;>intro h)|refine⟨k,(TLine.tr ⟨_,nm,ag,ex⟩),rfl,map_get hk,?_⟩|refine⟨_,rfl,?_⟩|((with_reducible show _=_);rfl))
          all_goals try((with_reducible refine Obl.mk ?_);exact KP)
          all_goals try exact KX
          refine cg (gv) ?_
          repeat' ((conv=>whnf);first|(with_reducible first|apply Wx|apply W6)|apply oi|(apply fi<;>intro h)|refine⟨_,rfl,?_⟩|((with_reducible show _=_);rfl))
          all_goals try((with_reducible refine Obl.mk ?_);exact KP)
          refine cg (g) ?_
          repeat' ((conv=>whnf);first|(with_reducible first|apply Wx|apply W6)|apply oi|(apply fi<;>intro h)|refine cl hEl ?_|refine⟨_,rfl,?_⟩|((with_reducible show _=_);rfl))
          all_goals try((with_reducible refine Obl.mk ?_);exact KP)
          all_goals try exact KX
          conv=>whnf
          refine⟨⟨(m,j+1,vals,s2),by dsimp only;omega,hI.at (by have:=hI.lo;dsimp only;omega) (by dsimp only;omega),hvl,hV2,hRk⟩,?_,by dsimp only;omega⟩
          repeat' ((conv=>whnf);first|(with_reducible first|apply Wx|apply W6)|apply oi|(apply fi<;>intro h)|refine⟨_,rfl,?_⟩|((with_reducible show _=_);rfl))
          all_goals try((with_reducible refine Obl.mk ?_);exact KP)
          all_goals try exact⟨KW⟩
          all_goals try exact⟨by dsimp only;rw[hws]⟩
         | none=>
          have hj:skipAt p k=ek:=by rw[skipAt,hel2,endL',hek];rfl
          rw[show elseOf p (k:Int)= -1 by rw[elseOf_at,hel2];rfl]at hEl
          rw[hj]at hRk hws hsk
          repeat' ((conv=>whnf);first|(with_reducible first|apply Wx|apply W6)|apply oi|(apply fi<;>intro h)|refine⟨k,(TLine.tr ⟨_,nm,ag,ex⟩),rfl,map_get hk,?_⟩|refine⟨_,rfl,?_⟩|((with_reducible show _=_);rfl))
          all_goals try((with_reducible refine Obl.mk ?_);exact KP)
          all_goals try exact KX
          refine cg (gv) ?_
          repeat' ((conv=>whnf);first|(with_reducible first|apply Wx|apply W6)|apply oi|(apply fi<;>intro h)|refine⟨_,rfl,?_⟩|((with_reducible show _=_);rfl))
          all_goals try((with_reducible refine Obl.mk ?_);exact KP)
          refine cg (g) ?_
          repeat' ((conv=>whnf);first|(with_reducible first|apply Wx|apply W6)|apply oi|(apply fi<;>intro h)|refine cl hEl ?_|refine cl hEk ?_|refine⟨_,rfl,?_⟩|((with_reducible show _=_);rfl))
          all_goals try((with_reducible refine Obl.mk ?_);exact KP)
          all_goals try exact KX
          conv=>whnf
          refine⟨⟨(m,ek+1,vals,s2),by dsimp only;omega,hI.at (by have:=hI.lo;dsimp only;omega) (by dsimp only;omega),hvl,hV2,hRk⟩,?_,by dsimp only;omega⟩
          repeat' ((conv=>whnf);first|(with_reducible first|apply Wx|apply W6)|apply oi|(apply fi<;>intro h)|refine⟨_,rfl,?_⟩|((with_reducible show _=_);rfl))
          all_goals try((with_reducible refine Obl.mk ?_);exact KP)
          all_goals try exact⟨KW⟩
          all_goals try exact⟨by dsimp only;rw[hws]⟩
        ·have hnx:nextV p ⟨3,nm,ag,ex⟩ k v=k+1:=by rw[nextV,if_neg (fun h=>hv0 h.2)]
         rw[hnx]at hRk
         have hwn:=whiles_next (f:=f) hk (by simp) (by simp)
         repeat' ((conv=>whnf);first|(with_reducible first|apply Wx|apply W6)|apply oi|(apply fi<;>intro h)|refine⟨k,(TLine.tr ⟨_,nm,ag,ex⟩),rfl,map_get hk,?_⟩|refine⟨_,rfl,?_⟩|((with_reducible show _=_);rfl))
         all_goals try((with_reducible refine Obl.mk ?_);exact KP)
         all_goals try exact KX
         refine cg (gv) ?_
         repeat' ((conv=>whnf);first|(with_reducible first|apply Wx|apply W6)|apply oi|(apply fi<;>intro h)|refine⟨_,rfl,?_⟩|((with_reducible show _=_);rfl))
         all_goals try((with_reducible refine Obl.mk ?_);exact KP)
         refine cg (g) ?_
         repeat' ((conv=>whnf);first|(with_reducible first|apply Wx|apply W6)|apply oi|(apply fi<;>intro h)|refine⟨_,rfl,?_⟩|((with_reducible show _=_);rfl))
         all_goals try((with_reducible refine Obl.mk ?_);exact KP)
         all_goals try exact KX
         all_goals try(exfalso;simp at h;exact hv0 h)
         conv=>whnf
         refine⟨⟨(m,k+1,vals,s2),by dsimp only;omega,hI.at (by have:=hI.lo;dsimp only;omega) (by dsimp only;omega),hvl,hV2,hRk⟩,?_,by dsimp only;omega⟩
         repeat' ((conv=>whnf);first|(with_reducible first|apply Wx|apply W6)|apply oi|(apply fi<;>intro h)|refine⟨_,rfl,?_⟩|((with_reducible show _=_);rfl))
         all_goals try((with_reducible refine Obl.mk ?_);exact KP)
         all_goals try exact⟨KW⟩
         all_goals try exact⟨by dsimp only;rw[hwn]⟩
       ·have hsv:setV L ⟨5,nm,ag,ex⟩ vals v=vals:=by rw[setV,if_neg (by simp)]
        have hov:outV ⟨5,nm,ag,ex⟩ s2 v=s2:=by rw[outV,if_neg (by simp)]
        rw[if_neg (by simp),hsv,hov]at hRk
        have hwl:=whiles_len p f k
        by_cases hv0:v=0
        ·subst hv0
         have hnx:nextV p ⟨5,nm,ag,ex⟩ k 0=skipAt p k+1:=by rw[nextV,if_pos ⟨.inr rfl,rfl⟩]
         rw[hnx]at hRk
         have hws:=whiles_skip hp hI hkl hk (.inr rfl)
         have hsk:=hI.skip hp hk (.inr rfl) hkl
         obtain⟨ek,hek,_,_⟩:=endAt_in hI.en hI.lo hkl hk (by rw[opensK_iff];simp)
         have hEk:=s_spec_EndOf p (k:Int) (by omega)
         rw[show endOf p (k:Int)=(ek:Int) by rw[endOf_at];exact endI_some hek]at hEk
         have hj:skipAt p k=ek:=by rw[skipAt,elseAt_not (by rw[kindAt_of hk];simp),endL',hek];rfl
         rw[hj]at hRk hws hsk
         repeat' ((conv=>whnf);first|(with_reducible first|apply Wx|apply W6)|apply oi|(apply fi<;>intro h)|refine⟨k,(TLine.tr ⟨_,nm,ag,ex⟩),rfl,map_get hk,?_⟩|refine⟨_,rfl,?_⟩|((with_reducible show _=_);rfl))
         all_goals try((with_reducible refine Obl.mk ?_);exact KP)
         all_goals try exact KX
         refine cg (gv) ?_
         repeat' ((conv=>whnf);first|(with_reducible first|apply Wx|apply W6)|apply oi|(apply fi<;>intro h)|refine⟨_,rfl,?_⟩|((with_reducible show _=_);rfl))
         all_goals try((with_reducible refine Obl.mk ?_);exact KP)
         refine cg (g) ?_
         repeat' ((conv=>whnf);first|(with_reducible first|apply Wx|apply W6)|apply oi|(apply fi<;>intro h)|refine cl hEk ?_|refine⟨_,rfl,?_⟩|((with_reducible show _=_);rfl))
         all_goals try((with_reducible refine Obl.mk ?_);exact KP)
         all_goals try exact KX
         conv=>whnf
         refine⟨⟨(m,ek+1,vals,s2),by dsimp only;omega,hI.at (by have:=hI.lo;dsimp only;omega) (by dsimp only;omega),hvl,hV2,hRk⟩,?_,by dsimp only;omega⟩
         repeat' ((conv=>whnf);first|(with_reducible first|apply Wx|apply W6)|apply oi|(apply fi<;>intro h)|refine⟨_,rfl,?_⟩|((with_reducible show _=_);rfl))
         all_goals try((with_reducible refine Obl.mk ?_);exact KP)
         all_goals try exact⟨KW⟩
         all_goals try exact⟨by dsimp only;rw[hws]⟩
        ·have hnx:nextV p ⟨5,nm,ag,ex⟩ k v=k+1:=by rw[nextV,if_neg (fun h=>hv0 h.2)]
         rw[hnx]at hRk
         have hwn:=whiles_push hp hI hkl hk rfl
         repeat' ((conv=>whnf);first|(with_reducible first|apply Wx|apply W6)|apply oi|(apply fi<;>intro h)|refine⟨k,(TLine.tr ⟨_,nm,ag,ex⟩),rfl,map_get hk,?_⟩|refine⟨_,rfl,?_⟩|((with_reducible show _=_);rfl))
         all_goals try((with_reducible refine Obl.mk ?_);exact KP)
         all_goals try exact KX
         refine cg (gv) ?_
         repeat' ((conv=>whnf);first|(with_reducible first|apply Wx|apply W6)|apply oi|(apply fi<;>intro h)|refine⟨_,rfl,?_⟩|((with_reducible show _=_);rfl))
         all_goals try((with_reducible refine Obl.mk ?_);exact KP)
         refine cg (g) ?_
         repeat' ((conv=>whnf);first|(with_reducible first|apply Wx|apply W6)|apply oi|(apply fi<;>intro h)|refine⟨_,rfl,?_⟩|((with_reducible show _=_);rfl))
         all_goals try((with_reducible refine Obl.mk ?_);exact KP)
         all_goals try exact KX
         all_goals try(exfalso;simp at h;exact hv0 h)
         all_goals try exact⟨⟨by simp <;> omega,by simp <;> omega⟩⟩
         conv=>whnf
         refine⟨⟨(m,k+1,vals,s2),by dsimp only;omega,hI.at (by have:=hI.lo;dsimp only;omega) (by dsimp only;omega),hvl,hV2,hRk⟩,?_,by dsimp only;omega⟩
         repeat' ((conv=>whnf);first|(with_reducible first|apply Wx|apply W6)|apply oi|(apply fi<;>intro h)|refine⟨_,rfl,?_⟩|((with_reducible show _=_);rfl))
         all_goals try((with_reducible refine Obl.mk ?_);exact KP)
         all_goals try exact⟨KW⟩
         all_goals try exact⟨by dsimp only;rw[hwn,List.map_append];rfl⟩
       ·rw[if_pos rfl]at hRk
        subst hRk
        dsimp only[Rr.val,Rr.st,Rr.code]
        repeat' ((conv=>whnf);first|(with_reducible first|apply Wx|apply W6)|apply oi|(apply fi<;>intro h)|refine⟨k,(TLine.tr ⟨_,nm,ag,ex⟩),rfl,map_get hk,?_⟩|refine⟨_,rfl,?_⟩|((with_reducible show _=_);rfl))
        all_goals try((with_reducible refine Obl.mk ?_);exact KP)
        all_goals try exact KX
        refine cg (gv) ?_
        repeat' ((conv=>whnf);first|(with_reducible first|apply Wx|apply W6)|apply oi|(apply fi<;>intro h)|refine⟨_,rfl,?_⟩|((with_reducible show _=_);rfl))
        all_goals try((with_reducible refine Obl.mk ?_);exact KP)
        refine cg (g) ?_
        repeat' ((conv=>whnf);first|(with_reducible first|apply Wx|apply W6)|apply oi|(apply fi<;>intro h)|refine⟨_,rfl,?_⟩|((with_reducible show _=_);rfl))
        all_goals try((with_reducible refine Obl.mk ?_);exact KP)
        all_goals try exact KX
   ·have hke':k=en:=by have:=hI.hi;omega
    have h7:ln.fKind=7:=by omega
    have how:ownOf p k=f:=by obtain⟨_,h|h⟩:=hI.own7 hp hk h7;exact h.2;omega
    rw[linesV_end hk h7,if_pos how]at hRk
    subst hRk
    dsimp only[Rr.val,Rr.st,Rr.code]
    repeat' ((conv=>whnf);first|(with_reducible first|apply Wx|apply W6)|apply oi|(apply fi<;>intro h)|refine⟨_,rfl,?_⟩|((with_reducible show _=_);rfl))
    all_goals try((with_reducible refine Obl.mk ?_);exact KP)
    all_goals try exact KX
end Go.Proofs.Ytjmplnfiabmalaa
namespace Go.Proofs.Ytjmplnfiabmalaa
open Go.Sim
set_option maxRecDepth 100000
set_option maxHeartbeats 4000000
abbrev is0:IS:=⟨[],[]⟩
noncomputable def runP (p:List TLine) (lim:Int):Rr Int:=open Classical in
 if h:∃n,linesV p lim n [] 0 1 (padV (localsOf p 0).length []) is0≠.fuel then linesV p lim (Classical.choose h) [] 0 1 (padV (localsOf p 0).length []) is0 else .fuel
theorem runP_eq {p:List TLine}{lim:Int}{n:Nat}(h:linesV p lim n [] 0 1 (padV (localsOf p 0).length []) is0≠.fuel):runP p lim=linesV p lim n [] 0 1 (padV (localsOf p 0).length []) is0:=by
 have hx:∃n,linesV p lim n [] 0 1 (padV (localsOf p 0).length []) is0≠.fuel:=⟨n,h⟩
 rw[runP,dif_pos hx]
 have h2:=Classical.choose_spec hx
 rcases Nat.le_total n (Classical.choose hx)with hle|hle
 ·exact linesV_mono h hle
 ·exact(linesV_mono h2 hle).symm
theorem main_of {p:List TLine}(h:programOk p=true):∃y,p[0]?=some y∧y.fKind=0∧y.fName=mainName∧y.fArgs=[]:=by
 unfold programOk at h
 simp only[Bool.and_eq_true,decide_eq_true_eq]at h
 have h4:=h.2.2.2.1
 unfold headOk at h4
 match p,h4 with
 | y::q,h4=>
  simp only[Bool.and_eq_true,beq_iff_eq]at h4
  exact⟨y,rfl,h4.1,h4.2.1,List.length_eq_zero_iff.1 h4.2.2⟩
theorem runP_total {p:List TLine}(hp:PgOk p)(h:programOk p=true){lim:Int}(h0:0≤lim):∃n,linesV p lim n [] 0 1 (padV (localsOf p 0).length []) is0≠.fuel:=by
 obtain⟨y,hy,hy0,_⟩:=main_of h
 obtain⟨e,hI⟩:=InF.start hp ⟨y,hy,hy0⟩
 exact linesV_total hp 6 [] rfl 0 e 1 _ is0 (by simpa using h0) hI
theorem g_spec_Interpret (p:List TLine)(hs:smallT 1048576 (.lst 4 (p.map TLine.tr)))(hpo:programOk p=true)(lim:Int)(h0:0≤lim)(h1:lim≤1000):
  SpecG Try.prog 8 [.r (.c (.t (.lst 4 (p.map TLine.tr)))),tI .i64 lim] [] (.r (.agg [.own (1,0,1),.own (1,0,2),.t (.int .i64 (runP p lim).val),.t (.int .i64 (runP p lim).code)])) [((1,0,1),.arr false 1 ((runP p lim).st.out.map intRow)),((1,0,2),.dar 1 (deepRows ((runP p lim).st.visits.map visRow)) none)]:=by
 have hp:=PgOk_of hs hpo
 obtain⟨n,hn⟩:=runP_total hp hpo h0
 have hP:=s_spec_ProgramOk p hs
 rw[hpo]at hP
 have gl:=s_spec_l01In lim 0 1000
 rw[show within lim 0 1000=true by rw[within_iff];exact⟨h0,h1⟩]at gl
 obtain⟨y,hy,hy0,_,hya⟩:=main_of hpo
 have hA:argsN p 0=0:=by rw[argsN,hy];dsimp only;rw[hya];rfl
 have gp:=perfC_of hp hpo (lim:=lim) n [] 0 [] is0 ⟨y,hy,hy0⟩ (by rw[hA];rfl) ⟨h1,by simpa using h0,by simp,by simp⟩ hn
 rw[show(((0:Nat):Int))=0 from rfl,show(0:Nat)+1=1 from rfl,←runP_eq hn]at gp
 have hcode:(∃v s,runP p lim= .ok v s)∨(∃c s,runP p lim= .stop c s∧(c=1∨c=2)):=by
  have hx:=linesV_ext (p:=p) (lim:=lim) n [] 0 1 (padV (localsOf p 0).length []) is0
  rw[runP_eq hn]
  cases hr:linesV p lim n [] 0 1 (padV (localsOf p 0).length []) is0 with
  | ok v s=>exact .inl ⟨v,s,rfl⟩
  | stop c s=>rw[hr]at hx;exact .inr ⟨c,s,rfl,hx.2⟩
  | fuel=>exact absurd hr hn
 generalize runP p lim=R at *
 refine specG_of_Wo hΓ hmix Try.func8 rfl (by decide) rfl rfl ?_
 repeat' ((conv=>whnf);first|(with_reducible apply W1;fail_if_success (with_reducible show Wo _ _ _ _ (Code.region 4 _ _) _ _))|(with_reducible first|apply W2|apply W3|apply W4|apply W5|apply W6|apply W7|apply W8|apply W9)|apply reg_inl|apply oi|(apply fi<;>intro h)|refine cl hP ?_|refine cl gl ?_|refine⟨_,rfl,?_⟩|((with_reducible show _=_);rfl))
 all_goals try((with_reducible refine Obl.mk ?_);exact KP)
 all_goals try exact KX
 conv=>whnf
 refine leq_rule ⟨[(4,.r (.c (.ptr (4,0,0) 0))),(5,.r (.c (.ptr (19,0,0) 0)))],[((4,0,0),some (.box [.nils 1,.nils 1,.t (.int .i64 0),.t (.int .i64 0)])),((19,0,0),some (.box [.t (.lst 4 (p.map TLine.tr)),.t (.int .i64 lim),.own (19,0,1),.own (19,0,2),.t (.int .i64 0),.t (.int .i64 0),.own (19,0,3)])),((19,0,1),some (.arr false 1 [])),((19,0,2),some (.dar 1 [] none)),((19,0,3),some (.arr false 1 []))],[19,4,0]⟩ ?_ ?_
 ·skip
  repeat' ((conv=>whnf);first|(with_reducible first|apply Wx|apply W6)|apply oi|(apply fi<;>intro h)|refine⟨_,rfl,?_⟩|((with_reducible show _=_);rfl))
  all_goals try((with_reducible refine Obl.mk ?_);exact KP)
 rcases hcode with⟨v,s,rfl⟩|⟨c,s,rfl,hc⟩
 ·dsimp only[Rr.val,Rr.st,Rr.code]at gp ⊢
  repeat' ((conv=>whnf);first|(with_reducible first|apply Wx|apply W6)|apply oi|(apply fi<;>intro h)|refine⟨_,rfl,?_⟩|((with_reducible show _=_);rfl))
  all_goals try((with_reducible refine Obl.mk ?_);exact KP)
  refine cg (gp) ?_
  repeat' ((conv=>whnf);first|(with_reducible first|apply Wx|apply W6)|apply oi|(apply fi<;>intro h)|refine⟨_,rfl,?_⟩|((with_reducible show _=_);rfl))
  all_goals try((with_reducible refine Obl.mk ?_);exact KP)
  all_goals try exact⟨⟨_,rfl⟩⟩
 ·dsimp only[Rr.val,Rr.st,Rr.code]at gp ⊢
  repeat' ((conv=>whnf);first|(with_reducible first|apply Wx|apply W6)|apply oi|(apply fi<;>intro h)|refine⟨_,rfl,?_⟩|((with_reducible show _=_);rfl))
  all_goals try((with_reducible refine Obl.mk ?_);exact KP)
  refine cg (gp) ?_
  repeat' ((conv=>whnf);first|(with_reducible first|apply Wx|apply W6)|apply oi|(apply fi<;>intro h)|refine⟨_,rfl,?_⟩|((with_reducible show _=_);rfl))
  all_goals try((with_reducible refine Obl.mk ?_);exact KP)
  all_goals try(exfalso;simp at h;omega)
  all_goals try exact⟨⟨_,rfl⟩⟩
end Go.Proofs.Ytjmplnfiabmalaa
namespace Go.Proofs.Ytjmplnfiabmalaa
open Go.Sim
set_option maxRecDepth 100000
set_option maxHeartbeats 4000000
def InvR (Φ:IS→Prop){α:Type}(r:Rr α):Prop:=match r with
 | .ok _ s=>Φ s
 | .stop _ s=>Φ s
 | .fuel=>True
section
variable {p:List TLine} {locals:List (List UInt8)} {vals:List Int} {call:CallF} {Φ:IS→Prop}
mutual
theorem evE_inv (h:∀g av s,Φ s→InvR Φ (call g av s)):∀(e:Ex) (s:IS),Φ s→InvR Φ (evE p locals vals call e s)
 | .node t es,s,hs=>by
  have h1:=evEs_inv h es s hs
  rw[evE]
  cases hr:evEs p locals vals call es s with
  | ok av s1=>
   rw[hr]at h1
   rw[Rr.bnd_ok,finV]
   split
   ·exact h1
   ·split
    ·exact h1
    ·split
     ·exact h _ _ _ h1
     ·exact h1
  | stop c s1=>rw[hr]at h1;exact h1
  | fuel=>trivial
theorem evEs_inv (h:∀g av s,Φ s→InvR Φ (call g av s)):∀(es:List Ex) (s:IS),Φ s→InvR Φ (evEs p locals vals call es s)
 | [],s,hs=>by rw[evEs];exact hs
 | a::es,s,hs=>by
  have h1:=evE_inv h a s hs
  rw[evEs]
  cases hr:evE p locals vals call a s with
  | ok v s1=>
   rw[hr]at h1
   rw[Rr.bnd_ok]
   have h2:=evEs_inv h es s1 h1
   cases hr2:evEs p locals vals call es s1 with
   | ok vs s2=>rw[hr2]at h2;exact h2
   | stop c s2=>rw[hr2]at h2;exact h2
   | fuel=>trivial
  | stop c s1=>rw[hr]at h1;exact h1
  | fuel=>trivial
end
theorem linesV_inv {lim:Int}(hvis:∀(calls:List Int) (k:Nat) (s:IS),calls.length≤6→Φ s→Φ ⟨s.out,s.visits++[calls++[(k:Int)]]⟩)(hout:∀(s:IS) (v:Int),Φ s→Φ ⟨s.out++[v],s.visits⟩):
  ∀(n:Nat) (calls:List Int) (f k:Nat) (vals:List Int) (s:IS),calls.length≤6→Φ s→InvR Φ (linesV p lim n calls f k vals s)
 | 0,_,_,_,_,_,_,_=>trivial
 | n+1,calls,f,k,vals,s,hc,hs=>by
  cases hk:p[k]? with
  | none=>rw[linesV_none hk];exact hs
  | some ln=>
   by_cases h7:ln.fKind=7
   ·rw[linesV_end hk h7]
    split
    ·exact hs
    ·exact linesV_inv hvis hout n _ _ _ _ _ hc hs
   by_cases h4:ln.fKind=4
   ·rw[linesV_else hk h4]
    exact linesV_inv hvis hout n _ _ _ _ _ hc hs
   by_cases hv:(s.visits.length:Int)=lim
   ·rw[linesV_full hk h7 h4 hv];exact hs
   ·rw[linesV_at hk h7 h4 hv]
    have hcall:∀g av s,Φ s→InvR Φ (callV p lim n calls k g av s):=by
     intro g av s' hs'
     unfold callV
     split
     ·exact hs'
     ·exact linesV_inv hvis hout n _ _ _ _ _ (by rw[List.length_append];simp;omega) hs'
    have he:=evE_inv (p:=p) (locals:=localsOf p (f:Int)) (vals:=vals) hcall (exL ln.fExpr) _ (hvis calls k s hc hs)
    cases hr:evE p (localsOf p (f:Int)) vals (callV p lim n calls k) (exL ln.fExpr) ⟨s.out,s.visits++[calls++[(k:Int)]]⟩with
    | ok v s1=>
     rw[hr]at he
     rw[Rr.bnd_ok]
     split
     ·exact he
     ·refine linesV_inv hvis hout n _ _ _ _ _ hc ?_
      unfold outV
      split
      ·exact hout _ _ he
      ·exact he
    | stop c s1=>rw[hr]at he;exact he
    | fuel=>trivial
end
structure RunOk (lim:Int) (R:Rr Int):Prop where
 nf:R≠.fuel
 vis:(R.st.visits.length:Int)≤lim
 out:R.st.out.length≤R.st.visits.length
 rows:∀x∈R.st.visits,x.length≤7
 code:R.code=0∨R.code=1∨R.code=2
theorem runP_ok {p:List TLine}(hp:PgOk p)(h:programOk p=true){lim:Int}(h0:0≤lim):RunOk lim (runP p lim):=by
 obtain⟨n,hn⟩:=runP_total hp h h0
 rw[runP_eq hn]
 have hx:=linesV_ext (p:=p) (lim:=lim) n [] 0 1 (padV (localsOf p 0).length []) is0
 have hr:=linesV_inv (p:=p) (lim:=lim) (Φ:=fun s=>∀x∈s.visits,x.length≤7) (fun calls k s hc hs x hx=>by
  rcases List.mem_append.1 hx with hx|hx
  ·exact hs x hx
  ·rw[List.mem_singleton]at hx;subst hx;rw[List.length_append];simp;omega) (fun s v hs=>hs) n [] 0 1 (padV (localsOf p 0).length []) is0 (by simp) (fun x hx=>by cases hx)
 cases hR:linesV p lim n [] 0 1 (padV (localsOf p 0).length []) is0 with
 | fuel=>exact absurd hR hn
 | ok v s=>
  rw[hR]at hx hr
  have h1:=hx.le (by simpa using h0)
  have h2:=hx.ol
  exact⟨(fun e=>by cases e),h1,(show s.out.length≤s.visits.length by simpa using h2),hr,.inl rfl⟩
 | stop c s=>
  rw[hR]at hx hr
  have h1:=hx.1.le (by simpa using h0)
  have h2:=hx.1.ol
  exact⟨(fun e=>by cases e),h1,(show s.out.length≤s.visits.length by simpa using h2),hr,.inr hx.2⟩
theorem runP_fold {p:List TLine}(h:programOk p=true){lim:Int}:runP (p.map foldLine) lim=runP p lim:=by
 unfold programOk at h
 simp only[Bool.and_eq_true,decide_eq_true_eq]at h
 have h3:=List.all_eq_true.1 h.2.2.1
 have hl:∀n,linesV (p.map foldLine) lim n [] 0 1 (padV (localsOf (p.map foldLine) 0).length []) is0=linesV p lim n [] 0 1 (padV (localsOf p 0).length []) is0:=fun n=>by
  rw[linesV_fold (fun x hx=>lineOk_expr (h3 x hx)),(foldLine_alike p).localsOf]
 by_cases hx:∃n,linesV p lim n [] 0 1 (padV (localsOf p 0).length []) is0≠.fuel
 ·obtain⟨n,hn⟩:=hx
  rw[runP_eq hn,runP_eq (p:=p.map foldLine) (n:=n) (by rw[hl];exact hn),hl]
 ·have hy:¬∃n,linesV (p.map foldLine) lim n [] 0 1 (padV (localsOf (p.map foldLine) 0).length []) is0≠.fuel:=fun⟨n,hn⟩=>hx ⟨n,by rw[←hl];exact hn⟩
  rw[runP,runP,dif_neg hx,dif_neg hy]
end Go.Proofs.Ytjmplnfiabmalaa
namespace Go.Proofs.Ytjmplnfiabmalaa
open Go.Sim Go.ChangeShapes Go.WideShapes Go.ChangeAt Go.RowKit
set_option maxRecDepth 100000
set_option maxHeartbeats 4000000
theorem s_laws_FnFolded (code:List UInt8):Sim.Spec Try.prog 4 [tvL 1 (code.map byteRow)] (rB true):=by
 refine spec_of_Wo hΓ hmix Try.func4 rfl (by decide) rfl ?_
 repeat' ((conv=>whnf);first|(with_reducible first|apply Wx|apply W6)|apply oi|(apply fi<;>intro h)|refine cl ((s_laws_big code)) ?_|refine⟨_,rfl,?_⟩|((with_reducible show _=_);rfl))
 all_goals try((with_reducible refine Obl.mk ?_);exact KP)
 have hl:code.length≤1048576:=by have:=of_decide_eq_false h;omega
 obtain⟨p,hPL,hlen,hs,g0⟩:=g_spec_DrawProgram code hl
 have hP:=s_spec_ProgramOk p hs
 have hF:=s_impl_FoldProgram p hs
 cases hpo:programOk p with
 | false=>
  rw[hpo]at hP
  rw[show foldProg p=[] by rw[foldProg,if_neg (by rw[hpo];simp)]]at hF
  refine cg (g0) ?_
  repeat' ((conv=>whnf);first|(with_reducible first|apply Wx|apply W6)|apply oi|(apply fi<;>intro h)|refine cl hP ?_|refine cl hF ?_|refine⟨_,rfl,?_⟩|((with_reducible show _=_);rfl))
  all_goals try((with_reducible refine Obl.mk ?_);exact KP)
  all_goals try exact KX
 | true=>
  rw[hpo]at hP
  have hp:=PgOk_of hs hpo
  have hpf:=programOk_fold hpo
  have hsf:=hp.fold.small
  have gI:=g_spec_Interpret p hs hpo 60 (by omega) (by omega)
  have gJ:=g_spec_Interpret (p.map foldLine) hsf hpf 60 (by omega) (by omega)
  have hrn:=runP_ok hp hpo (lim:=60) (by omega)
  rw[runP_fold hpo]at gJ
  have hF2:=s_impl_FoldProgram (p.map foldLine) hsf
  have hmf:=map_fold hpo
  rw[foldProg_ok hpf,hmf]at hF2
  rw[foldProg_ok hpo]at hF
  have hSL:=s_laws_sameLines (p.map foldLine) hsf
  have hSv:=s_impl_SavedTokens p hs hpo
  have hSf:=s_impl_SavedTokens (p.map foldLine) hsf hpf
  rw[savedF_zero hmf]at hSf
  have hge:=(savedF_ge p (fun x hx=>(line_small (smallRs_map hs hx)).2.2.2.1) p.length).1
  generalize savedF p p.length=sv at *
  generalize p.map foldLine=f at *
  generalize runP p 60=R at *
  have r1:=hrn.vis
  have r2:=hrn.out
  have hSI:=s_laws_sameIntsR R.st.out (by omega)
  have hSV:=s_laws_sameVisits R.st.visits (by omega) (fun x hx=>by have:=hrn.rows x hx;omega)
  refine cg (g0) ?_
  repeat' ((conv=>whnf);first|(with_reducible first|apply Wx|apply W6)|apply oi|(apply fi<;>intro h)|refine cl hP ?_|refine cl hF ?_|refine⟨_,rfl,?_⟩|((with_reducible show _=_);rfl))
  all_goals try((with_reducible refine Obl.mk ?_);exact KP)
  all_goals try exact KX
  refine cg (gI) ?_
  repeat' ((conv=>whnf);first|(with_reducible apply W1;fail_if_success (with_reducible show Wo _ _ _ _ (Code.region 8 _ _) _ _))|(with_reducible first|apply W2|apply W3|apply W4|apply W5|apply W6|apply W7|apply W8|apply W9)|apply reg_inl|apply oi|(apply fi<;>intro h)|refine⟨_,rfl,?_⟩|((with_reducible show _=_);rfl))
  all_goals try((with_reducible refine Obl.mk ?_);exact KP)
  conv=>whnf
  refine view_rule ⟨[(3,vP p),(4,vP f),(5,.r (.c (.ptr (5,0,0) 0)))],[((5,0,0),some (.box [.own (21,0,1),.own (21,0,2),.t (.int .i64 R.val),.t (.int .i64 R.code)])),((21,0,1),some (.arr false 1 (R.st.out.map intRow))),((21,0,2),some (.dar 1 (deepRows (R.st.visits.map visRow)) none))],_⟩ ?_ ?_ rfl ?_
  ·refine⟨.inl rfl,.inr ⟨_,_,rfl,rfl,rfl,?_⟩,.inl rfl,trivial⟩
   intro q hq;simp only[AC.ids,List.mem_cons,List.not_mem_nil,or_false]at hq;subst hq;rfl
  ·exact⟨.inr rfl,.inr rfl,.inr rfl,trivial⟩
  repeat' ((conv=>whnf);first|(with_reducible first|apply Wx|apply W6)|apply oi|(apply fi<;>intro h)|refine⟨_,rfl,?_⟩|((with_reducible show _=_);rfl))
  all_goals try((with_reducible refine Obl.mk ?_);exact KP)
  refine cg (gJ) ?_
  repeat' ((conv=>whnf);first|(with_reducible first|apply Wx|apply W6)|apply oi|(apply fi<;>intro h)|refine cl hSI ?_|refine .inl (ci hSV (ai (deep_eq _ _) (ai (deep_eq _ _) trivial)) ?_)|refine cl hF2 ?_|refine cl hSL ?_|refine cl hSv ?_|refine cl hSf ?_|refine⟨_,rfl,?_⟩|((with_reducible show _=_);rfl))
  all_goals try((with_reducible refine Obl.mk ?_);exact KP)
  all_goals(exfalso;first|(simp at h;done)|(simp at h;omega)|(simp_all;done)|(simp_all;omega))
theorem fnFolded_lifted (os:Os)(started:os.Started)(H:Type)(enc:TypeId×Value→H):
  ReturnsInHanded {} Try.checked os 4 .any (Rows.fnFoldedSpec.pre6 enc Try.prog Try.f4 Rows.fnFoldedRow.domain false) (Rows.fnFoldedSpec.post enc Try.prog Try.f4 false true false false):=by
 refine returnsInHanded_of_change (C:=Try.checked) own started (by kernel_rfl) Try.func4
  (ChangeSpec.witness6 (enc:=enc) (C:=Try.checked) false ⟨#[],#[.slice none 0 0],[]⟩ 8 (by kernel_rfl) (by kernel_rfl) (by kernel_rfl) (by kernel_rfl)) ?_
 intro W base args ds gs before hval hW _ _
 have hW0:=hW
 obtain⟨p,q,hA,_,_,_,_⟩:=hW0
 have hlen:=trodAll_len hA
 obtain⟨xs,hx,hty⟩:=args_typed (n:=8) hΓ (by kernel_rfl) (fun j t v h1 h2=>hval j t v (by simpa using h1) (by simpa using h2)) hA
 rw[Try.params4]at hty hlen
 obtain⟨_,xs0,rfl,hx0,hty0⟩:=typedVs_cons hty
 obtain⟨_,rfl,rows,⟨⟩,hl,hr⟩:=hx0
 obtain rfl:=typedVs_nil hty0
 obtain⟨d0,rfl⟩:=len1 hlen
 obtain⟨bs,rfl⟩:=byte_rows (rows:=rows) (fun r hr'=>hr r hr')
 exact law_calls laidOut rfl Try.underlying4 rfl (by kernel_rfl) rfl hx (s_laws_FnFolded bs) hW
theorem fnFolded_holds:Rows.FnFoldedSaid:=
 OpenClaim.holds_of_wide 4 Try.f4 rfl rfl rfl rfl rfl rfl rfl ⟨rfl,rfl,rfl,rfl,rfl⟩ rfl rfl rfl rfl rfl (by kernel_rfl) Try.func4 (by kernel_rfl)
  (of_decide_eq_true (by kernel_rfl)) (by unfold Func.isWrapper;first|(rw[if_pos (by decide+kernel)];kernel_rfl)|(rw[if_neg (by decide+kernel)];exact⟨rfl,rfl⟩))
  (fun os started H enc _=>fnFolded_lifted os started H enc)
end Go.Proofs.Ytjmplnfiabmalaa
