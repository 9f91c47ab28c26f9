import Derived.Test.YtogdbgmiigfmfaaGreatGa
namespace Go.Sim
open Go.RowKit
section
variable {P:Program} {Γ:Env} {N B:Nat} {M:Nat→Prop} {w0:Start} {ρ:Rho} {s:F_} {a:Act} {w:World} {o:Oper} {ev:Operand→AV} {H:Id→Option AO} {K:Eff→Prop} {KV:AV→Prop}
theorem updH_other:∀(us:List (Id×Option AO)) (H:Id→Option AO) (o:Id),o∉us.map (·.1)→updH H us o=H o
 | [],_,_,_=>rfl
 | p::r,H,o,h=>by
  simp only[List.map_cons,List.mem_cons,not_or]at h
  rw[updH,updH_other r _ o h.2,if_neg h.1]
theorem updH_rm:∀(rm:List Id) (H:Id→Option AO) (q:Id) (x:Option AO),updH H (rm.map (fun r=>(r,none))++[(q,x)])=fun o=>if o=q then x else if o∈rm then none else H o
 | [],H,q,x=>by simp[updH]
 | r::rm,H,q,x=>by
  rw[List.map_cons,List.cons_append,updH,updH_rm rm]
  funext o
  by_cases h1:o=q
  ·simp[h1]
  ·by_cases h2:o∈rm
   ·simp[h1,h2]
   ·by_cases h3:o=r <;> simp[h1,h2,h3]
theorem Conc.make (h:Conc N B M w0 ρ s a w){d:Nat}(hd:d < N)(hU:¬s.U d){w':World}{D:Nat→Prop}(rm:List Id)(hT:Turn D w w'){v vv:Value}{x:AO}{av:AV}{R:List Id}(F:Nat→Prop)
  (hD:∀b,D b→∃o x',o∈rm∧s.H o=some x'∧Own ρ o b)
  (hv:∀b,blk v=some b→b < w'.heap.size∧(w.heap.size≤b∨∃o x',o∈rm∧s.H o=some x'∧Own ρ o b))
  (hF:∀b,F b→∃o x',o∈rm∧s.H o=some x'∧Own ρ o b)
  (hxi:∀id∈x.ids,s.U id.1) (havi:∀id∈av.ids,id.1=d∨s.U id.1)
  (hobj:∀(ρ':Rho) (ok':Nat→Prop),(∀b,okB ρ s.H w b→w'.heap[b]?=w.heap[b]?∧ok' b)→(∀o x' b,o∈rm→s.H o=some x'→Own ρ o b→blk v≠some b→¬F b→ok' b)→
   (∀o,s.U o.1→ρ' o=ρ o)→ρ' (d,0,0)=v→(∀b,F b→ρ'.fp (d,0,0) b)→RO B ρ' w' ok' (d,0,0) x∧RV B ρ' w' ok' vv av):
  ∃ρ',Conc N B M w0 ρ' (s.app (some d) ⟨av,rm.map (fun r=>(r,none))++[((d,0,0),some x)],some d,R⟩) (a.put (some d) vv) w':=by
 let q:Id:=(d,0,0)
 let ρ':Rho:=⟨fun o=>if o.1=d then v else ρ o,fun o c=>if o=q then F c else ρ.fp o c,ρ.al⟩
 have hρ:∀o:Id,s.U o.1→ρ' o=ρ o:=fun o ho=>by
  show(if o.1=d then v else ρ o)=ρ o
  exact if_neg (fun e:o.1=d=>hU (by rw[←e];exact ho))
 have hq:ρ' q=v:=by show(if d=d then v else _)=v;simp
 have hfq:∀c,ρ'.fp q c↔F c:=fun c=>by show(if q=q then _ else _)↔_;simp
 have hfo:∀o c,o≠q→(ρ'.fp o c↔ρ.fp o c):=fun o c ho=>by show(if o=q then _ else _)↔_;simp[ho]
 have hown:∀o c,o≠q→s.U o.1→(Own ρ' o c↔Own ρ o c):=fun o c h1 h2=>by unfold Own;rw[hρ o h2,hfo o c h1]
 have hHe:=updH_rm rm s.H q (some x)
 have hkr:∀o x' b,o∈rm→s.H o=some x'→Own ρ o b→blk v≠some b→¬F b→okB ρ' (updH s.H (rm.map (fun r=>(r,none))++[(q,some x)])) w' b:=by
  intro o x' b h1 h2 h3 h4 h4'
  refine⟨⟨Nat.lt_of_lt_of_le (h.rng o x' b h2 h3).1 hT.size,h.alw b (h.rng o x' b h2 h3).2⟩,fun o1 x1 h5 h6=>?_⟩
  rw[hHe]at h5
  by_cases e:o1=q
  ·subst e
   rcases h6 with h6|h6
   ·rw[hq]at h6;exact h4 h6
   ·exact h4' ((hfq b).1 h6)
  ·simp only[if_neg e]at h5
   by_cases e2:o1∈rm
   ·simp[e2]at h5
   ·simp only[if_neg e2]at h5
    rw[hown o1 b e (h.usedH o1 x1 h5).1]at h6
    exact h.sep o o1 x' x1 b h2 h5 (fun e3=>e2 (e3 ▸ h1)) h3 h6
 refine⟨ρ',?_⟩
 have hnq:∀o x',s.H o=some x'→o≠q:=fun o x' h1 e=>hU (by have:=(h.usedH o x' h1).1;rw[e]at this;exact this)
 have:=h.step D (q::rm) (w':=w') (ρ':=ρ') (H':=updH s.H (rm.map (fun r=>(r,none))++[(q,some x)])) (U':=fun n=>s.U n∨n=d) (a':=a.put (some d) vv) (L':=putL s.L (some d) av) hT
  (by rw[put_size];exact h.size) (by rw[put_defers];exact h.defers) hρ
  (fun o x' h1 h2=>by funext c;exact propext (hfo o c (hnq o x' h2))) rfl
  (fun o ho=>by
   rw[hHe]
   simp only[List.mem_cons,not_or]at ho
   simp only[if_neg ho.1,if_neg ho.2])
  (fun n hn=> .inl hn)
  (fun b hb hDb=>by obtain⟨o,x',_,h2,h3⟩:=hD b hDb;exact hb.2 o x' h2 h3)
  (fun o x1 b h1 h2 h3 hDb=>by
   obtain⟨o',x',g1,g2,g3⟩:=hD b hDb
   exact h.sep o o' x1 x' b h1 g2 (fun e=>h2 (by rw[e];simp[g1])) h3 g3)
  (fun b hb hM hDb=>by
   obtain⟨o',x',g1,g2,g3⟩:=hD b hDb
   rcases(h.rng o' x' b g2 g3).2 with g|g
   ·omega
   ·exact hM g)
  (fun o x1 b h1 h2 h3=>by
   rw[hHe]at h2
   by_cases e:o=q
   ·subst e
    have h3:(b < w'.heap.size∧(w.heap.size≤b∨∃o x',o∈rm∧s.H o=some x'∧Own ρ o b)):=by
     rcases h3 with h3|h3
     ·rw[hq]at h3;exact hv b h3
     ·obtain⟨o',x',g1,g2,g3⟩:=hF b ((hfq b).1 h3)
      exact⟨Nat.lt_of_lt_of_le (h.rng o' x' b g2 g3).1 hT.size,.inr ⟨o',x',g1,g2,g3⟩⟩
    obtain⟨g1,g2⟩:=h3
    refine⟨g1,?_,?_⟩
    ·rcases g2 with g|⟨o',x',_,g3,g4⟩
     ·exact .inl (Nat.le_trans h.base g)
     ·exact(h.rng o' x' b g3 g4).2
    ·rcases g2 with g|⟨o',x',g2,g3,g4⟩
     ·exact .inl g
     ·exact .inr ⟨o',x',g3,by simp[g2],g4⟩
   ·simp only[List.mem_cons,e,false_or]at h1
    simp only[if_neg e,if_pos h1]at h2
    cases h2)
  (fun o o' x1 x2 b h1 h2 h3 h4 hne=>by
   rw[hHe]at h3 h4
   exfalso
   by_cases e:o=q
   ·have e':o'≠q:=fun e2=>hne (e.trans e2.symm)
    simp only[List.mem_cons,e',false_or]at h2
    simp only[if_neg e',if_pos h2]at h4
    cases h4
   ·simp only[List.mem_cons,e,false_or]at h1
    simp only[if_neg e,if_pos h1]at h3
    cases h3)
  (fun hk o x1 h1 h2=>by
   rw[hHe]at h2
   by_cases e:o=q
   ·subst e
    simp only[if_true,Option.some.injEq]at h2
    subst h2
    exact⟨(hobj ρ' _ hk hkr hρ hq (fun b hb=>(hfq b).2 hb)).1,.inr rfl,fun id hid=> .inl (hxi id hid)⟩
   ·simp only[List.mem_cons,e,false_or]at h1
    simp only[if_neg e,if_pos h1]at h2
    cases h2)
  (fun hk t=>h.slots (dst:=some d) (fun d' e=>by injection e with e;omega) (U':=fun n=>s.U n∨n=d) (hobj ρ' _ hk hkr hρ hq (fun b hb=>(hfq b).2 hb)).2 (fun id hid=>(havi id hid).symm) t)
 exact this.congr (fun _=>rfl) (fun _=>rfl) (fun n=>by simp[F_.app,eq_comm])
theorem heap_new (w:World)(o:Obj):(w.alloc o).heap[w.heap.size]?=some o:=heap_alloc_new w o
theorem unfrozen_zero (n:Nat):unfrozen n (0,0):=fun p _ h=>by simp at h
theorem Conc.newBox (h:Conc N B M w0 ρ s a w){d:Nat}(hd:d < N)(hU:¬s.U d){us:Array Value}{t:TypeId}{cells:List AC}(hr:RCs B ρ w (okB ρ s.H w) us.toList cells)(hi:∀id∈cells.flatMap AC.ids,s.U id.1)(R:List Id):
  ∃ρ',Conc N B M w0 ρ' (s.app (some d) ⟨.r (.c (.ptr (d,0,0) 0)),[((d,0,0),some (.box cells))],some d,R⟩) (a.put (some d) (.pointer (some ⟨w.heap.size,0,none⟩))) (w.alloc (.cells us t)):=by
 refine h.make hd hU (D:=fun _=>False) [] (Turn.alloc _ _ _) (v:= .pointer (some ⟨w.heap.size,0,none⟩)) (fun _=>False) (fun _ h=>h.elim) (fun b hb=>?_) (fun _ h=>h.elim) hi (fun id hid=>?_) (fun ρ' ok' hk _ hρ hq _=>⟨?_,?_⟩)
 ·injection hb with hb;subst hb;exact⟨by simp,.inl (Nat.le_refl _)⟩
 ·simp[AV.ids,AR.ids,AC.ids]at hid;left;rw[hid]
 ·refine⟨w.heap.size,us,t,(0,0),hq,heap_new w _,unfrozen_zero _,hr.keep hk fun o ho=>hρ o (hi o ho)⟩
 ·exact⟨w.heap.size,hq,rfl⟩
theorem run_newRow (e:TypeId)(cs:Array Value):(newRow e cs).run P w= .ok ⟨w.heap.size,0,none⟩ (w.alloc (.cells cs e)):=rfl
theorem sound_alloc {T:TypeId}{d:Nat}{ti:TI}(hΓ:Γ.chk P=true)(hT:Γ.get T=some ti)(hdst:o.dst=some d)(ho:o.op= .alloc T):
  Good P o ev H ⟨.r (.c (.ptr (d,0,0) 0)),[((d,0,0),some (.box ti.zero))],some d,[]⟩:=by
 obtain⟨i,dd,fit⟩:=Env.fit hΓ hT
 obtain⟨z,hz,hm⟩:=fit.zero
 intro N B M w0 ρ s a w Q K hc hop hR hn hd hK
 rw[hdst]at hd hK
 obtain⟨ρ',h'⟩:=hc.newBox (hd d rfl) (hn d rfl) (us:=z.cells) (t:=T) (zMatches_ok (B:=B) (ρ:=ρ) (w:=w) (ok:=okB ρ s.H w) hm) (by rw[zMatches_ids hm];simp) []
 have hrun:(execOp a.eval o).run P w= .ok (.value (.pointer (some ⟨w.heap.size,0,none⟩))) (w.alloc (.cells z.cells T)):=by
  simp[execOp,ho,Instr.alloc,run_zeroValue fit.info hz,newVar,run_newRow]
 unfold Oper.wp
 rw[hrun]
 show K (a.put o.dst _) _
 rw[hdst]
 exact hK _ _ ρ' h'
theorem sound_box {T:TypeId}{d:Nat}{x:Operand}{ar:AR}(hdst:o.dst=some d)(ho:o.op= .box T x)(hx:ev x= .r ar):
  Good P o ev H ⟨.r (.c (.ptr (d,0,0) 0)),[((d,0,0),some (.box ar.cells))],some d,[]⟩:=by
 intro N B M w0 ρ s a w Q K hc hop hR hn hd hK
 rw[hdst]at hd hK
 have hv:=hc.eval x
 rw[hop x (by simp[ho,Op.operands]),hx]at hv
 obtain⟨ρ',h'⟩:=hc.newBox (hd d rfl) (hn d rfl) (us:=(a.eval x).cells) (t:=T) (RR.cells hv.1) (by
  have:=hv.2
  cases ar with
  | c y=>intro id hid;exact this id (by simpa [AR.cells,AV.ids,AR.ids]using hid)
  | agg cs=>exact this) []
 have hrun:(execOp a.eval o).run P w= .ok (.value (.pointer (some ⟨w.heap.size,0,none⟩))) (w.alloc (.cells (a.eval x).cells T)):=by
  simp[execOp,ho,Instr.box,newVar,run_newRow]
 unfold Oper.wp
 rw[hrun]
 show K (a.put o.dst _) _
 rw[hdst]
 exact hK _ _ ρ' h'
theorem Conc.newArr (h:Conc N B M w0 ρ s a w){d:Nat}(hd:d < N)(hU:¬s.U d)(rm:List Id){w':World}(hT:Turn (fun _=>False) w w'){b cap sz:Nat}{us:Array Value}{e:TypeId}{fz:Nat×Nat}{rows:List (List Tr)}{fr:Bool}
  (hb:w.heap.size≤b) (hh:w'.heap[b]?=some (.cells us e fz)) (hf:unfrozen us.size fz) (hu:∀r∈rows,r.length=sz) (h1:rows.length≤cap) (h2:cap≤maxLen) (h3:us.size=cap * sz)
  (hr:∀ok':Nat→Prop,(∀c,okB ρ s.H w c→ok' c)→(∀o x c,o∈rm→s.H o=some x→Own ρ o c→ok' c)→RTs w (okF B ok' fr) (us.toList.take (rows.length * sz)) rows.flatten) (R:List Id):
  ∃ρ',Conc N B M w0 ρ' (s.app (some d) ⟨.r (.c (.own (d,0,0))),rm.map (fun r=>(r,none))++[((d,0,0),some (.arr fr sz rows))],some d,R⟩) (a.put (some d) (.slice (some ⟨b,0,none⟩) rows.length cap)) w':=by
 have hlt:b < w'.heap.size:=(Array.getElem?_eq_some_iff.1 hh).1
 refine h.make hd hU (D:=fun _=>False) rm hT (v:= .slice (some ⟨b,0,none⟩) rows.length cap) (fun _=>False) (fun _ h=>h.elim) (fun b' hb'=>?_) (fun _ h=>h.elim) (fun id hid=>by simp[AO.ids]at hid) (fun id hid=>?_) (fun ρ' ok' hk hkr hρ hq _=>⟨?_,?_⟩)
 ·injection hb' with hb';subst hb';exact⟨hlt,.inl hb⟩
 ·simp[AV.ids,AR.ids,AC.ids]at hid;left;rw[hid]
 ·have hold:∀c,okB ρ s.H w c∨(∃o x,o∈rm∧s.H o=some x∧Own ρ o c)→w'.heap[c]?=w.heap[c]?∧ok' c:=by
   rintro c (hc|⟨o,x,g1,g2,g3⟩)
   ·exact hk c hc
   ·have hr:=(h.rng o x c g2 g3).1
    refine⟨hT.block c hr (fun h=>h),hkr o x c g1 g2 g3 ?_ (fun h=>h)⟩
    intro e
    have e':b=c:=by simpa [blk]using e
    omega
  refine⟨hu,.inr ⟨b,cap,us,e,fz,hq,hh,hf,h1,h2,h3,?_,fun _=>Nat.le_trans h.base hb⟩⟩
  have:=hr (fun c=>okB ρ s.H w c∨(∃o x,o∈rm∧s.H o=some x∧Own ρ o c)) (fun c hc=> .inl hc) (fun o x c g1 g2 g3=> .inr ⟨o,x,g1,g2,g3⟩)
  exact this.keep (okF_keep hold)
 ·exact⟨⟨_,_,_,hq⟩,hq.symm⟩
theorem arr_tree {ok':Nat→Prop}{fr:Bool}{sz:Nat}{rows:List (List Tr)}{o:Id}(hc:Conc N B M w0 ρ s a w)(ho:s.H o=some (.arr fr sz rows))(hok:∀c,okB ρ s.H w c→ok' c)(hb:∀c,Own ρ o c→ok' c):
  RT w (okF B ok' fr) (ρ o) (.lst sz rows):=by
 obtain⟨hu,g⟩:=hc.arr ho
 rcases g with⟨g1,g2⟩|⟨b,cap,cur,e,fz,g1,g2,g3,g4,g5,g6,g7,g8,g9⟩
 ·subst g2;rw[g1];exact .emp _ _ _ (Nat.zero_le _)
 ·rw[g1]
  have hb':=hb b (.inl (by rw[g1];rfl))
  refine .lst _ _ _ _ _ (cur.toList.take (rows.length * sz)) rfl g4 g5 hu ⟨hb',g9⟩ (by rw[g7.length]) g8 fun p v u hv hu'=>?_
  exact(g7.get p v u hv hu').keep fun c hc'=>⟨rfl,hok c hc'.1,hc'.2⟩
theorem frz_ok {ok':Nat→Prop}(hc:Conc N B M w0 ρ s a w)(hok:∀c,okB ρ s.H w c→ok' c):∀{vs:List Value} {cs:List AC} {ts:List Tr} {fr:Bool} {ids:List Id},frz H cs=some (ts,fr,ids)→(∀o∈ids,s.H o=H o)→RCs B ρ w (okB ρ s.H w) vs cs→
  (∀o x c,o∈ids→s.H o=some x→Own ρ o c→ok' c)→RTs w (okF B ok' fr) vs ts
 | [],[],ts,fr,ids,h,_,_,_=>by simp only[frz,Option.some.injEq,Prod.mk.injEq]at h;obtain⟨rfl,_⟩:=h;trivial
 | v::vs,c::cs,ts,fr,ids,h,hH,hr,hb=>by
  cases c with
  | t x=>
   simp only[frz]at h
   cases hf:frz H cs with
   | none=>rw[hf]at h;simp at h
   | some p=>
    obtain⟨ts',fr',ids'⟩:=p
    rw[hf]at h
    have hx:RT w (okB ρ s.H w) v x:=hr.1
    cases x with
    | lst sz rows=>
     simp only[Option.some.injEq,Prod.mk.injEq]at h
     obtain⟨rfl,rfl,rfl⟩:=h
     have ih:=frz_ok (ok':=ok') hc hok hf hH hr.2 hb
     exact⟨hx.keep fun c hc'=>⟨rfl,hok c hc',fun e=>by cases e⟩,ih.keep (okF_weak fun e=>by cases e)⟩
    | int=>
     simp only[Option.some.injEq,Prod.mk.injEq]at h
     obtain⟨rfl,rfl,rfl⟩:=h
     exact⟨by cases hx;exact .int _ _,frz_ok hc hok hf hH hr.2 hb⟩
    | bool=>
     simp only[Option.some.injEq,Prod.mk.injEq]at h
     obtain⟨rfl,rfl,rfl⟩:=h
     exact⟨by cases hx;exact .bool _,frz_ok hc hok hf hH hr.2 hb⟩
    | str=>
     simp only[Option.some.injEq,Prod.mk.injEq]at h
     obtain⟨rfl,rfl,rfl⟩:=h
     exact⟨by cases hx;exact .str _,frz_ok hc hok hf hH hr.2 hb⟩
  | f x=>
   simp only[frz]at h
   cases hf:frz H cs with
   | none=>rw[hf]at h;simp at h
   | some p=>
    obtain⟨ts',fr',ids'⟩:=p
    rw[hf]at h
    simp only[Option.some.injEq,Prod.mk.injEq]at h
    obtain⟨rfl,rfl,rfl⟩:=h
    have hx:RT w (okF B (okB ρ s.H w) true) v x:=hr.1
    exact⟨hx.keep fun c hc'=>⟨rfl,hok c hc'.1,fun _=>hc'.2 rfl⟩,frz_ok hc hok hf hH hr.2 hb⟩
  | nils sz=>
   simp only[frz]at h
   cases hf:frz H cs with
   | none=>rw[hf]at h;simp at h
   | some p=>
    obtain⟨ts',fr',ids'⟩:=p
    rw[hf]at h
    simp only[Option.some.injEq,Prod.mk.injEq]at h
    obtain⟨rfl,rfl,rfl⟩:=h
    have hx:v= .slice none 0 0:=hr.1
    subst hx
    exact⟨.emp _ _ _ (Nat.zero_le _),frz_ok hc hok hf hH hr.2 hb⟩
  | own o=>
   simp only[frz]at h
   split at h
   ·rename_i fr1 sz rows ts' fr' ids' ho hf
    simp only[Option.some.injEq,Prod.mk.injEq]at h
    obtain⟨rfl,rfl,rfl⟩:=h
    have ho':s.H o=some (.arr fr1 sz rows):=by rw[hH o (by simp)];exact ho
    obtain⟨_,hx⟩:=hr.1
    have h1:=arr_tree (ok':=ok') hc ho' hok (fun c hcb=>hb o _ c (by simp) ho' hcb)
    rw[hx]
    exact⟨h1.keep (okF_weak fun e=>by simp at e;exact e.1),(frz_ok hc hok hf (fun o ho=>hH o (by simp[ho])) hr.2 (fun o x c h1 h2 h3=>hb o x c (by simp[h1]) h2 h3)).keep (okF_weak fun e=>by simp at e;exact e.2)⟩
   ·cases h
  | nilp=>simp[frz]at h
  | sub=>simp[frz]at h
  | ptr=>simp[frz]at h
  | opq=>simp[frz]at h
  | mpv=>simp[frz]at h
 | [],_::_,_,_,_,_,_,h,_=>h.elim
 | _::_,[],_,_,_,_,_,h,_=>h.elim
theorem fill_rows (sz:Nat):∀(parts:List (Nat×Value)) (n0:Nat) (pre:List Value) (rest:List Value),pre.length=n0 * sz→(∀(j:Nat) (p:Nat×Value),parts[j]?=some p→p.1=n0+j∧p.2.cells.size=sz)→rest.length=parts.length * sz→
  Instr.fill (fun i=>some (i * sz,sz)) (pre++rest).toArray parts=some (pre++parts.flatMap (fun p=>p.2.cells.toList)).toArray
 | [],n0,pre,rest,_,_,hr=>by
  have:rest=[]:=List.eq_nil_of_length_eq_zero (by simpa using hr)
  subst this
  simp[Instr.fill]
 |(i,v)::parts,n0,pre,rest,hp,hps,hr=>by
  obtain⟨h1,h2⟩:=hps 0 (i,v) (by simp)
  simp only[Nat.add_zero]at h1 h2
  subst h1
  have hrl:rest.length=sz+parts.length * sz:=by rw[hr,List.length_cons,Nat.add_mul];omega
  have hfold:v.cells.zipIdx.foldl (fun cs (x:Value×Nat)=>cs.setIfInBounds (i * sz+x.2) x.1) (pre++rest).toArray=(pre++v.cells.toList++rest.drop sz).toArray:=by
   have key:∀(vs:List Value) (k:Nat) (pre rest:List Value),vs.length≤rest.length→
     (vs.zipIdx k).foldl (fun(cs:Array Value) (x:Value×Nat)=>cs.setIfInBounds (pre.length - k+x.2) x.1) (pre++rest).toArray=(pre++vs++rest.drop vs.length).toArray∨pre.length < k:=by
    intro vs
    induction vs with
    | nil=>intro k pre rest _;left;simp
    | cons u vs ih=>
     intro k pre rest hl
     rcases Nat.lt_or_ge pre.length k with hk|hk
     ·exact .inr hk
     left
     cases rest with
     | nil=>simp at hl
     | cons r rest=>
      simp only[List.zipIdx_cons,List.foldl_cons]
      have e1:(pre++r::rest).toArray.setIfInBounds (pre.length - k+k) u=((pre++[u])++rest).toArray:=by
       rw[Nat.sub_add_cancel hk]
       simp
      rw[e1]
      have:=ih (k+1) (pre++[u]) rest (by simpa using hl)
      rcases this with this|this
      ·have e2:(pre++[u]).length - (k+1)=pre.length - k:=by simp
       rw[e2]at this
       rw[this]
       simp
      ·simp at this;omega
   have:=key v.cells.toList 0 pre rest (by simp;omega)
   rcases this with this|this
   ·rw[←Array.foldl_toList,Array.toList_zipIdx]
    simp only[Nat.sub_zero,hp]at this
    rw[this]
    simp[h2]
   ·omega
  simp only[Instr.fill]
  rw[if_neg (by simp[h2];omega),hfold]
  have:=fill_rows sz parts (i+1) (pre++v.cells.toList) (rest.drop sz) (by simp[hp,h2,Nat.add_mul]) (fun j p hj=>by
   obtain⟨g1,g2⟩:=hps (j+1) p (by simpa using hj)
   exact⟨by omega,g2⟩) (by rw[List.length_drop];omega)
  rw[this]
  simp
theorem semRows_spec:∀(parts:List (Nat×Operand)) (n:Nat) (K:Bool→List (List Tr)→List Id→Prop),semRows H n (parts.map fun p=>(p.1,ev p.2)) K→
  ∃fr rows ids,K fr rows ids∧rows.length=parts.length∧(∀(j:Nat) (p:Nat×Operand),parts[j]?=some p→p.1=n+j)∧
   ∀(N B:Nat) (M:Nat→Prop) (w0:Start) (ρ:Rho) (s:F_) (a:Act) (w:World) (ok':Nat→Prop),Conc N B M w0 ρ s a w→(∀c,okB ρ s.H w c→ok' c)→(∀o∈ids,s.H o=H o)→(∀o x c,o∈ids→s.H o=some x→Own ρ o c→ok' c)→
    (∀p∈parts,RV B ρ w (okB ρ s.H w) (a.eval p.2) (ev p.2))→∀(j:Nat) (p:Nat×Operand) (row:List Tr),parts[j]?=some p→rows[j]?=some row→RTs w (okF B ok' fr) (a.eval p.2).cells.toList row
 | [],n,K,h=>⟨true,[],[],h,rfl,by simp,by simp⟩
 |(i,x)::parts,n,K,h=>by
  simp only[List.map_cons,semRows]at h
  cases hx:ev x with
  | r ar=>
   rw[hx]at h
   simp only[semRows]at h
   split at h
   ·rename_i ts fr0 ids0 hn hts
    have hin:i=n:=by simpa using hn
    obtain⟨fr,rows,ids,h1,h2,h3,h4⟩:=semRows_spec parts (n+1) _ h
    refine⟨_,ts::rows,_,h1,by simp[h2],fun j p hj=>?_,fun N B M w0 ρ s a w ok' hc hok hH hb hf j p row hj hr=>?_⟩
    ·cases j with
     | zero=>simp at hj;subst hj;simpa using hin
     | succ j=>have:=h3 j p (by simpa using hj);omega
    ·cases j with
     | zero=>
      simp at hj hr
      subst hj;subst hr
      have:=hf (i,x) (by simp)
      simp only at this
      rw[hx]at this
      exact(frz_ok hc hok hts (fun o ho=>hH o (by simp[ho])) (RR.cells this) (fun o x c g1 g2 g3=>hb o x c (by simp[g1]) g2 g3)).keep (okF_weak fun e=>by simp at e;exact e.1)
     | succ j=>
      exact(h4 N B M w0 ρ s a w ok' hc hok (fun o ho=>hH o (by simp[ho])) (fun o x c g1 g2 g3=>hb o x c (by simp[g1]) g2 g3) (fun p hp=>hf p (by simp[hp])) j p row (by simpa using hj) (by simpa using hr)).keep (okF_weak fun e=>by simp at e;exact e.2)
   ·exact h.elim
  | tup=>rw[hx]at h;exact h.elim
  | el=>rw[hx]at h;exact h.elim
  | ro=>rw[hx]at h;exact h.elim
  | unk=>rw[hx]at h;exact h.elim
 termination_by parts=>parts.length
theorem flat_RTs {ok:Nat→Prop}:∀(vss:List (List Value)) (rows:List (List Tr)),vss.length=rows.length→(∀(j:Nat) (vs:List Value) (row:List Tr),vss[j]?=some vs→rows[j]?=some row→RTs w ok vs row)→RTs w ok vss.flatten rows.flatten
 | [],[],_,_=>trivial
 | vs::vss,row::rows,hl,h=>RTs.append (h 0 vs row (by simp) (by simp)) (flat_RTs vss rows (by simpa using hl) fun j vs row h1 h2=>h (j+1) vs row (by simpa using h1) (by simpa using h2))
 | [],_::_,hl,_=>by simp at hl
 | _::_,[],hl,_=>by simp at hl
theorem run_buildSlice {T e:TypeId}{n:Nat}{i ie:TypeInfo}{z:Value}(hu:P.underlying T=some (.slice e))(hi:P.info? e=some ie)(hz:ie.zero=some z)(hsz:n * ie.size≤16777216)(vals:Array (Nat×Value))(cs:Array Value)
  (hf:Instr.fill (fun i=>some (i * ie.size,ie.size)) ((Array.range (n * ie.size)).map (fun i=>(if n * ie.size=0 then #[]else z.cells)[i % (if n * ie.size=0 then #[]else z.cells).size]!)) vals.toList=some cs):
  (Instr.buildSlice T n vals).run P w= .ok (.slice (some ⟨w.heap.size,0,none⟩) n n) (w.alloc (.cells cs e)):=by
 have hlt:¬n * ie.size > 2 ^ 24:=by omega
 unfold Instr.buildSlice
 by_cases h0:n * ie.size=0
 ·rw[if_pos h0]at hf
  simp only[Sem.run_bind,run_underlying hu,Result.andThen_ok,run_sizeOf hi,if_neg hlt,if_pos h0,Sem.run_pure]
  rw[hf]
  simp[run_newRow]
 ·rw[if_neg h0]at hf
  simp only[Sem.run_bind,run_underlying hu,Result.andThen_ok,run_sizeOf hi,if_neg hlt,if_neg h0,Sem.run_pure,run_zeroValue hi hz]
  rw[hf]
  simp[run_newRow]
theorem sound_buildSlice {T e:TypeId}{d n:Nat}{parts:Array (Nat×Operand)}{ti te:TI}(hΓ:Γ.chk P=true)(hT:Γ.get T=some ti)(he:ti.elem=some e)(hE:Γ.get e=some te)(hdst:o.dst=some d)(ho:o.op= .buildSlice T n parts)
  (hn:parts.toList.length=n)
  (h:semRows H 0 (parts.toList.map fun p=>(p.1,ev p.2)) fun fr rows ids=>(∀r∈rows,r.length=te.size)∧n * te.size≤16777216∧K ⟨.r (.c (.own (d,0,0))),ids.map (fun r=>(r,none))++[((d,0,0),some (.arr fr te.size rows))],some d,ids⟩):
  ∃ef,K ef∧Good P o ev H ef:=by
 obtain⟨ii,dd,fit⟩:=Env.fit hΓ hT
 obtain⟨ie,de,fite⟩:=Env.fit hΓ hE
 have hd:=dslice fit he
 subst hd
 obtain⟨z,hz,hm⟩:=fite.zero
 obtain⟨fr,rows,ids,⟨hu,hsz,hK⟩,hrl,hidx,hrows⟩:=semRows_spec parts.toList 0 _ h
 refine⟨_,hK,?_⟩
 intro N B M w0 ρ s a w Q K hc hop hR hnew hd hK
 rw[hdst]at hd hK
 have hval:∀p∈parts.toList,RV B ρ w (okB ρ s.H w) (a.eval p.2) (ev p.2):=fun p hp=>by
  have:=(hc.eval p.2).1
  rwa [hop p.2 (by simp only[ho,Op.operands];exact List.mem_map.2 ⟨p,hp,rfl⟩)]at this
 let vss:List (List Value):=parts.toList.map fun p=>(a.eval p.2).cells.toList
 have hvl:vss.length=rows.length:=by simp[vss,hrl]
 have hflat:∀ok':Nat→Prop,(∀c,okB ρ s.H w c→ok' c)→(∀o x c,o∈ids→s.H o=some x→Own ρ o c→ok' c)→RTs w (okF B ok' fr) vss.flatten rows.flatten:=by
  intro ok' hok hb
  have hRT:=hrows N B M w0 ρ s a w ok' hc hok hR hb hval
  refine flat_RTs vss rows hvl fun j vs row h1 h2=>?_
  simp only[vss,List.getElem?_map,Option.map_eq_some_iff]at h1
  obtain⟨p,g1,rfl⟩:=h1
  exact hRT j p row g1 h2
 have hRT:=hrows N B M w0 ρ s a w (fun _=>True) hc (fun _ _=>trivial) hR (fun _ _ _ _ _ _=>trivial) hval
 have hcell:∀(j:Nat) (p:Nat×Operand),parts.toList[j]?=some p→p.1=j∧(a.eval p.2).cells.size=te.size:=by
  intro j p hj
  have hjl:j < parts.toList.length:=by
   rcases Nat.lt_or_ge j parts.toList.length with h'|h'
   ·exact h'
   ·rw[List.getElem?_eq_none h']at hj;cases hj
  have hjr:rows[j]?=some (rows[j]'(by omega)):=List.getElem?_eq_getElem (by omega)
  have:=(hRT j p _ hj hjr).length
  rw[hu _ (List.mem_of_getElem? hjr)]at this
  exact⟨by simpa using hidx j p hj,by simpa using this⟩
 let init:Array Value:=(Array.range (n * te.size)).map (fun i=>(if n * te.size=0 then #[]else z.cells)[i % (if n * te.size=0 then #[]else z.cells).size]!)
 have hinit:init.size=n * te.size:=by simp[init]
 have hfill:Instr.fill (fun i=>some (i * te.size,te.size)) init ((parts.map fun p=>(p.1,a.eval p.2)).toList)=some vss.flatten.toArray:=by
  have:=fill_rows te.size ((parts.map fun p=>(p.1,a.eval p.2)).toList) 0 [] init.toList (by simp) (fun j p hj=>by
   simp only[Array.toList_map,List.getElem?_map,Option.map_eq_some_iff]at hj
   obtain⟨q,g1,rfl⟩:=hj
   obtain⟨g2,g3⟩:=hcell j q g1
   exact⟨by simp[g2],g3⟩) (by simp only[Array.length_toList,hinit,Array.toList_map,List.length_map];rw[←hn];simp)
  simp only[List.nil_append,Array.toArray_toList]at this
  rw[this]
  simp[vss,List.flatMap_def];rfl
 have hrun:(execOp a.eval o).run P w= .ok (.value (.slice (some ⟨w.heap.size,0,none⟩) n n)) (w.alloc (.cells vss.flatten.toArray e)):=by
  have:=run_buildSlice (w:=w) (n:=n) (i:=ii) fit.und fite.info hz (by rw[fite.size];exact hsz) (parts.map fun p=>(p.1,a.eval p.2)) vss.flatten.toArray (by rw[fite.size];exact hfill)
  simp only[execOp,ho,Sem.run_bind,this,Result.andThen_ok,Sem.run_pure]
 have hlen:rows.length=n:=by rw[hrl,hn]
 have hnmax:n≤maxLen:=by
  have:=fite.pos
  have h1:n * 1≤n * te.size:=Nat.mul_le_mul_left _ (by omega)
  unfold maxLen;omega
 have hfl:vss.flatten.length=n * te.size:=by rw[(hflat (fun _=>True) (fun _ _=>trivial) (fun _ _ _ _ _ _=>trivial)).length,flatten_length te.size rows hu,hlen]
 obtain⟨ρ',h'⟩:=hc.newArr (hd d rfl) (hnew d rfl) ids (w':=w.alloc (.cells vss.flatten.toArray e)) (Turn.alloc _ _ _) (b:=w.heap.size) (cap:=n) (sz:=te.size) (us:=vss.flatten.toArray) (e:=e) (fz:=(0,0)) (rows:=rows) (fr:=fr)
  (Nat.le_refl _) (heap_new _ _) (unfrozen_zero _) hu (by omega) hnmax (by simp only[List.size_toArray,hfl]) (fun ok' hok hb=>by rw[hlen,List.take_of_length_le (by simp only[hfl];omega)];exact hflat ok' hok hb) ids
 rw[hlen]at h'
 unfold Oper.wp
 rw[hrun]
 show K (a.put o.dst _) _
 rw[hdst]
 exact hK _ _ ρ' h'
theorem setCells_heap (b:Nat)(e:TypeId)(fz:Nat×Nat):∀(vs:List Value) (o:Nat) (w:World) (cur:Array Value),w.heap[b]?=some (.cells cur e fz)→o+vs.length≤cur.size→
  ∃cur',(w.setCells b o vs).heap[b]?=some (.cells cur' e fz)∧cur'.size=cur.size∧cur'.toList=cur.toList.take o++vs++cur.toList.drop (o+vs.length)
 | [],o,w,cur,h,_=>⟨cur,h,rfl,by simp⟩
 | v::vs,o,w,cur,h,hl=>by
  simp only[List.length_cons]at hl
  have h1:(w.setCell ⟨b,o,none⟩ v).heap[b]?=some (.cells (cur.setIfInBounds o v) e fz):=by
   simp[World.setCell,Array.getElem?_modify,h]
  obtain⟨cur',g1,g2,g3⟩:=setCells_heap b e fz vs (o+1) _ _ h1 (by simp;omega)
  refine⟨cur',g1,by simpa using g2,?_⟩
  rw[g3]
  have hlt:o < cur.toList.length:=by simp;omega
  simp only[Array.toList_setIfInBounds,List.length_cons]
  have e1:(cur.toList.set o v).take (o+1)=cur.toList.take o++[v]:=by
   rw[List.take_succ_eq_append_getElem (by simp;omega)]
   simp[List.take_set_of_le]
  have e2:(cur.toList.set o v).drop (o+1+vs.length)=cur.toList.drop (o+(vs.length+1)):=by
   rw[List.drop_set_of_lt (by omega)]
   congr 1;omega
  rw[e1,e2]
  simp
theorem setCells_turn (b:Nat):∀(vs:List Value) (o:Nat) (w:World),Turn (fun k=>k=b) w (w.setCells b o vs)
 | [],_,w=>Turn.refl _ w
 | v::vs,o,w=>(Turn.setCell w ⟨b,o,none⟩ v).trans (setCells_turn b vs (o+1) _)
theorem run_append_in {t u ty e:TypeId}{i:TypeInfo}{du:TypeDesc}(ht:P.underlying t=some (.slice e))(hu:P.underlying u=some du)(hk:dKind du=none)(hi:P.info? e=some i)
  (x:Value) (b sLen sCap n:Nat) (news:List Value) (hl:∀w,(Builtin.lenOf x).run P w= .ok n w) (hf:(Builtin.firstCells i.size n x).run P w= .ok news.toArray w) (hroom:sLen+n≤sCap)
  {cur:Array Value} {e':TypeId} {fz:Nat×Nat} (hb:w.heap[b]?=some (.cells cur e' fz)) (hz:unfrozen cur.size fz) (hfit:sLen * i.size+news.length≤cur.size) (h1:∀v∈news,v.oneCell'=true):
  (Builtin.append_ #[t,u] ty #[.slice (some ⟨b,0,none⟩) sLen sCap,x]).run P w= .ok (.slice (some ⟨b,0,none⟩) (sLen+n) sCap) (w.setCells b (sLen * i.size) news):=by
 have hst:=run_storeCells_cells (P:=P) b (sLen * i.size) news 0 w (fun j hj=>by
   rw[cell_of_row w b _ cur e' fz hb]
   simp only[Nat.add_zero]
   rw[Array.getElem?_eq_getElem (by omega)];rfl) (fun j hj=>by
   simp only[World.frozen?,hb,Nat.add_zero]
   have:=hz (sLen * i.size+j) (by omega)
   simp only[Bool.and_eq_false_iff,decide_eq_false_iff_not,Nat.not_le,Nat.not_lt]
   omega) h1
 simp only[Nat.add_zero]at hst
 unfold Builtin.append_
 simp only[List.getElem?_toArray,List.getElem?_cons_zero,List.getElem?_cons_succ,Sem.run_bind,run_underlying ht,run_underlying hu,Result.andThen_ok,run_sizeOf hi,Sem.run_pure]
 cases du
 case int=>simp[dKind]at hk
 all_goals simp only[Bool.false_eq_true,if_false,hl,if_pos hroom,Bool.not_false,if_true,hf,add_head,hst,Sem.run_bind,Result.andThen_ok,Sem.run_pure]
theorem run_append_new {t u ty e:TypeId}{i:TypeInfo}{z:Value}{du:TypeDesc}(ht:P.underlying t=some (.slice e))(hu:P.underlying u=some du)(hk:dKind du=none)(hi:P.info? e=some i)(hz:i.zero=some z)
  (x:Value) (A:Option Addr) (sLen sCap n:Nat) (olds news:List Value) (hl:∀w,(Builtin.lenOf x).run P w= .ok n w) (hf:(Builtin.firstCells i.size n x).run P w.drew= .ok news.toArray w.drew)
  (hfo:(Builtin.firstCells i.size sLen (.slice A sLen sCap)).run P w.drew= .ok olds.toArray w.drew)
  (hg:sCap < sLen+n) (h63:sLen+n≤9223372036854775807) (hfit:(sLen+n) * i.bytes≤140737488355328):
  (Builtin.append_ #[t,u] ty #[.slice A sLen sCap,x]).run P w=
   .ok (.slice (some ⟨w.heap.size,0,none⟩) (sLen+n) (grownCap w (sLen+n) sCap e))
    (w.drew.alloc (.cells (olds.toArray++news.toArray++Builtin.zeroCells z.cells (grownCap w (sLen+n) sCap e - (sLen+n))) e)):=by
 have hn:¬(sLen+n≤sCap):=by omega
 have h63':¬(((sLen+n:Nat):Int) > IntKind.i64.max):=by
  have:IntKind.i64.max=9223372036854775807:=by decide
  omega
 have h48':¬(Builtin.nextslicecap (sLen+n) sCap * i.bytes > 2 ^ 48):=by
  have:=growslice_fits hg hfit
  omega
 unfold Builtin.append_
 simp only[List.getElem?_toArray,List.getElem?_cons_zero,List.getElem?_cons_succ,Sem.run_bind,run_underlying ht,run_underlying hu,Result.andThen_ok,run_sizeOf hi,Sem.run_pure]
 cases du
 case int=>simp[dKind]at hk
 all_goals simp only[Bool.false_eq_true,if_false,hl,if_neg hn,Bool.not_false,if_true,run_typeInfo hi,if_neg h48',h63',false_and,Sem.run_bind,Result.andThen_ok,Sem.run_pure]
 all_goals
  simp[Question.forced,hf,hfo,run_zeroValue hi hz,run_newRow,grownCap]
  congr 2
  apply Array.ext'
  simp[List.append_assoc]
theorem lst_len {ok:Nat→Prop}{v:Value}{sz:Nat}{rows:List (List Tr)}(h:RT w ok v (.lst sz rows)):∃news,(∀(P:Program) (w':World),(Builtin.lenOf v).run P w'= .ok rows.length w')∧
  (∀(P:Program) (w':World),(∀b,ok b→w'.heap[b]?=w.heap[b]?)→(Builtin.firstCells sz rows.length v).run P w'= .ok news.toArray w')∧RTs w ok news rows.flatten∧∀r∈rows,r.length=sz:=by
 obtain⟨A,c,rfl,h1,h2,hu,hne⟩:=h.slice_inv
 by_cases h0:rows=[]
 ·subst h0
  refine⟨[],fun P w'=>by simp[Builtin.lenOf],fun P w' _=>?_,trivial,hu⟩
  cases A with
  | none=>simp[Builtin.firstCells]
  | some ad=>simp[Builtin.firstCells,loadCells,loadCellsFrom]
 ·obtain⟨ad,us,rfl,hok,hl,hcell,hr⟩:=hne h0
  refine⟨us,fun P w'=>by simp[Builtin.lenOf],fun P w' hk=>?_,hr,hu⟩
  exact run_firstCells_some w' sz rows.length ad rows.length c us (by rw[hl,flatten_length sz rows hu]) fun j v hv=>(World.cell?_of_block (w:=w) (by rw[add_block];exact hk _ hok)).trans (hcell j v hv)
theorem src_ok {esz:Nat}{x:Operand}{K2:Bool→List (List Tr)→List Id→Prop}(h:srcRows esz (ev x) H K2):∃fr rows R,K2 fr rows R∧
  ∀(N B:Nat) (M:Nat→Prop) (w0:Start) (ρ:Rho) (s:F_) (a:Act) (w:World),Conc N B M w0 ρ s a w→evL s.L x=ev x→(∀id∈R,s.H id=H id)→
   ∃news,(∀(P:Program) (w':World),(Builtin.lenOf (a.eval x)).run P w'= .ok rows.length w')∧(∀(P:Program) (w':World),w'.heap=w.heap→(Builtin.firstCells esz rows.length (a.eval x)).run P w'= .ok news.toArray w')∧
    RTs w (okF B (okB ρ s.H w) fr) news rows.flatten∧∀r∈rows,r.length=esz:=by
 unfold srcRows at h
 split at h
 ·rename_i b hx
  obtain⟨rfl,h⟩:=h
  refine⟨_,_,_,h,fun N B M w0 ρ s a w hc hop _=>?_⟩
  have hv:=(hc.eval x).1
  rw[hop,hx]at hv
  have e1:=inv_str hv
  rw[e1]
  have hsz:(⟨b.toArray⟩:ByteArray).size=b.length:=by simp[ByteArray.size]
  refine⟨b.map fun u=> .int .u8 u.toNat,fun P w'=>by simp[Builtin.lenOf,hsz],fun P w' _=>?_,?_,by simp[byteRow]⟩
  ·simp only[Builtin.firstCells,List.length_map,Sem.run_pure]
   congr 1
   have:(⟨b.toArray⟩:ByteArray).extract 0 b.length=⟨b.toArray⟩:=by rw[←hsz];simp
   rw[this]
   simp
  ·clear h e1 hv hx hsz
   induction b with
   | nil=>trivial
   | cons u b ih=>exact⟨.int _ _,ih⟩
 ·rename_i sz hx
  refine⟨_,_,_,h,fun N B M w0 ρ s a w hc hop _=>?_⟩
  have hv:=(hc.eval x).1
  rw[hop,hx]at hv
  have e1:a.eval x= .slice none 0 0:=hv
  rw[e1]
  exact⟨[],fun P w'=>by simp[Builtin.lenOf],fun P w' _=>by simp[Builtin.firstCells],trivial,by simp⟩
 ·rename_i sz rows hx
  obtain⟨rfl,h⟩:=h
  refine⟨_,_,_,h,fun N B M w0 ρ s a w hc hop _=>?_⟩
  have hv:=(hc.eval x).1
  rw[hop,hx]at hv
  obtain⟨news,g1,g2,g3,g4⟩:=lst_len hv
  exact⟨news,g1,fun P w' e=>g2 P w' fun b _=>by rw[e],g3.keep fun b hb=>⟨rfl,hb,fun e=>by cases e⟩,g4⟩
 ·rename_i sz rows hx
  obtain⟨rfl,h⟩:=h
  refine⟨_,_,_,h,fun N B M w0 ρ s a w hc hop _=>?_⟩
  have hv:=(hc.eval x).1
  rw[hop,hx]at hv
  have hv:RT w (okF B (okB ρ s.H w) true) (a.eval x) (.lst sz rows):=hv
  obtain⟨news,g1,g2,g3,g4⟩:=lst_len hv
  exact⟨news,g1,fun P w' e=>g2 P w' fun b _=>by rw[e],g3,g4⟩
 ·rename_i q hx
  split at h
  ·rename_i fr sz rows hq
   obtain⟨rfl,h⟩:=h
   refine⟨_,_,_,h,fun N B M w0 ρ s a w hc hop hR=>?_⟩
   have hv:=(hc.eval x).1
   rw[hop,hx]at hv
   obtain⟨_,e1⟩:=hv
   rw[e1]
   have hq':s.H q=some (.arr fr sz rows):=by rw[hR q (by simp)];exact hq
   obtain⟨hu,g⟩:=hc.arr hq'
   rcases g with⟨g1,g2⟩|⟨b,cap,cur,e,fz,g1,g2,g3,g4,g5,g6,g7,g8,g9⟩
   ·subst g2
    rw[g1]
    exact⟨[],fun P w'=>by simp[Builtin.lenOf],fun P w' _=>by simp[Builtin.firstCells],trivial,by simp⟩
   ·rw[g1]
    refine⟨_,fun P w'=>by simp[Builtin.lenOf],fun P w' he=>?_,g7,hu⟩
    exact run_firstCells_some w' sz rows.length ⟨b,0,none⟩ rows.length cap _ (by rw[g7.length,flatten_length sz rows hu]) fun j v hv=>by
     rw[World.cell?_of_block (w:=w) (by rw[he])];exact g8 j v hv
  ·exact h.elim
 ·rename_i q k hx
  split at h
  ·rename_i fr sz rows hq
   obtain⟨rfl,hkl,h⟩:=h
   refine⟨_,_,_,h,fun N B M w0 ρ s a w hc hop hR=>?_⟩
   have hv:=(hc.eval x).1
   rw[hop,hx]at hv
   obtain⟨A,n,c,e0,e1,e2⟩:=hv
   rw[e1]
   have hq':s.H q=some (.arr fr sz rows):=by rw[hR q (by simp)];exact hq
   obtain⟨hu,g⟩:=hc.arr hq'
   have hut:∀r∈rows.take k,r.length=sz:=fun r hr=>hu r (List.mem_of_mem_take hr)
   have hkk:(rows.take k).length=k:=by rw[List.length_take];omega
   rcases g with⟨g1,g2⟩|⟨b,cap,cur,e,fz,g1,g2,g3,g4,g5,g6,g7,g8,g9⟩
   ·subst g2
    have:k=0:=by simpa using hkl
    subst this
    rw[g1]at e0
    injection e0 with e01
    subst e01
    exact⟨[],fun P w'=>by simp[Builtin.lenOf],fun P w' _=>by simp[Builtin.firstCells],trivial,by simp⟩
   ·rw[g1]at e0
    injection e0 with e01 e02 e03
    subst e01;subst e02;subst e03
    have hfl:(rows.take k).flatten=rows.flatten.take (k * sz):=(flatten_take sz rows k hu hkl).symm
    have hts:=g7.take (k * sz)
    rw[←hfl]at hts
    refine⟨_,fun P w'=>by simp[Builtin.lenOf,hkk],fun P w' he=>?_,hts,hut⟩
    rw[hkk]
    refine run_firstCells_some w' sz k ⟨b,0,none⟩ k cap _ ?_ fun j v hv=>?_
    ·rw[hts.length,flatten_length sz _ hut,hkk]
    ·rw[List.getElem?_take]at hv
     split at hv
     ·rw[World.cell?_of_block (w:=w) (by rw[he])];exact g8 j v hv
     ·cases hv
  ·exact h.elim
 ·exact h.elim
theorem Conc.append (h:Conc N B M w0 ρ s a w){T U e:TypeId}{d:Nat}{te:TI}{i ie:TypeInfo}{de du:TypeDesc}(hu:P.underlying T=some (.slice e))(fite:te.Fit P e ie de)(huU:P.underlying U=some du)(hk:dKind du=none)
  (hd:d < N) (hU:¬s.U d) (rm:List Id) (rows news:List (List Tr)) (fr fr':Bool) (ty:TypeId) (sv x:Value) (hun:∀r∈news,r.length=te.size) (hur:∀r∈rows,r.length=te.size)
  (hs:(sv= .slice none 0 0∧rows=[])∨∃b cap cur e' fz,sv= .slice (some ⟨b,0,none⟩) rows.length cap∧w.heap[b]?=some (.cells cur e' fz)∧unfrozen cur.size fz∧rows.length≤cap∧cap≤maxLen∧cur.size=cap * te.size∧
   RTs w (okF B (okB ρ s.H w) fr) (cur.toList.take (rows.length * te.size)) rows.flatten∧(fr=true→B≤b)∧∃o x',o∈rm∧s.H o=some x'∧Own ρ o b)
  (nv:List Value) (hl:∀w',(Builtin.lenOf x).run P w'= .ok news.length w') (hf:∀w',w'.heap=w.heap→(Builtin.firstCells te.size news.length x).run P w'= .ok nv.toArray w') (hn:RTs w (okF B (okB ρ s.H w) fr') nv news.flatten)
  (hfit:fits (rows.length+news.length) te.bytes) (R:List Id):
  ∃v w' ρ',(Builtin.append_ #[T,U] ty #[sv,x]).run P w= .ok v w'∧Conc N B M w0 ρ' (s.app (some d) ⟨.r (.c (.own (d,0,0))),rm.map (fun r=>(r,none))++[((d,0,0),some (.arr (fr && fr') te.size (rows++news)))],some d,R⟩) (a.put (some d) v) w':=by
 obtain⟨z,hz,hm⟩:=fite.zero
 have hzs:z.cells.size=te.size:=by
  have h1:=(zMatches_ok (B:=B) (ρ:=⟨fun _=>default,fun _ _=>False,fun _=>True⟩) (w:=w) (ok:=fun _=>True) hm).length
  rw[fite.zlen]at h1
  simpa using h1
 have huu:∀r∈rows++news,r.length=te.size:=fun r hr=>(List.mem_append.1 hr).elim (hur r) (hun r)
 have hnl:nv.length=news.length * te.size:=by rw[hn.length,flatten_length te.size news hun]
 have hrl:rows.flatten.length=rows.length * te.size:=flatten_length te.size rows hur
 have hmax:rows.length+news.length≤maxLen:=by have:=hfit.2;unfold maxLen;omega
 have hfl:(rows++news).flatten=rows.flatten++news.flatten:=by simp
 have wk1:∀{vs:List Value} {ts:List Tr},RTs w (okF B (okB ρ s.H w) fr) vs ts→RTs w (okF B (okB ρ s.H w) (fr && fr')) vs ts:=fun h=>h.keep (okF_weak fun e=>by simp at e;exact e.1)
 have wk2:∀{vs:List Value} {ts:List Tr},RTs w (okF B (okB ρ s.H w) fr') vs ts→RTs w (okF B (okB ρ s.H w) (fr && fr')) vs ts:=fun h=>h.keep (okF_weak fun e=>by simp at e;exact e.2)
 have grow:∀(A:Option Addr) (sCap:Nat) (olds:List Value),sCap < rows.length+news.length→olds.length=rows.length * te.size→RTs w (okF B (okB ρ s.H w) fr) olds rows.flatten→
   (Builtin.firstCells te.size rows.length (.slice A rows.length sCap)).run P w.drew= .ok olds.toArray w.drew→sv= .slice A rows.length sCap→
   ∃v w' ρ',(Builtin.append_ #[T,U] ty #[sv,x]).run P w= .ok v w'∧Conc N B M w0 ρ' (s.app (some d) ⟨.r (.c (.own (d,0,0))),rm.map (fun r=>(r,none))++[((d,0,0),some (.arr (fr && fr') te.size (rows++news)))],some d,R⟩) (a.put (some d) v) w':=by
  intro A sCap olds hlt hol hor hfo hsv
  subst hsv
  have hrun:=run_append_new (w:=w) (ty:=ty) hu huU hk fite.info hz x A rows.length sCap news.length olds nv hl (by rw[fite.size];exact hf _ rfl) (by rw[fite.size];exact hfo) hlt hfit.2 (by rw[fite.bytes];exact hfit.1)
  have hge:=grownCap_ge w (rows.length+news.length) sCap e
  have hle:=grownCap_le_maxLen w (rows.length+news.length) sCap e hmax
  generalize grownCap w (rows.length+news.length) sCap e=gc at hrun hge hle
  have hrr:RTs w (okF B (okB ρ s.H w) (fr && fr')) (olds++nv) (rows.flatten++news.flatten):=(wk1 hor).append (wk2 hn)
  obtain⟨ρ',h'⟩:=h.newArr hd hU rm (w':=w.drew.alloc (.cells (olds.toArray++nv.toArray++Builtin.zeroCells z.cells (gc - (rows.length+news.length))) e)) ((Turn.drew _ w).trans (Turn.alloc _ _ _)) (b:=w.heap.size) (cap:=gc) (sz:=te.size)
   (us:=olds.toArray++nv.toArray++Builtin.zeroCells z.cells (gc - (rows.length+news.length))) (e:=e) (fz:=(0,0)) (rows:=rows++news) (fr:=fr && fr') (Nat.le_refl _) (heap_alloc_new w.drew _) (unfrozen_zero _) huu (by simp;omega) hle
   (by simp only[Array.size_append,List.size_toArray,size_zeroCells,hzs,hol,hnl];rw[←Nat.add_mul,←Nat.add_mul];congr 1;omega)
   (fun ok' hok _=>by
    rw[hfl,List.length_append,Nat.add_mul,←hol,←hnl,←List.length_append]
    simp only[Array.toList_append,List.append_assoc]
    rw[←List.append_assoc,List.take_left]
    exact hrr.keep fun c hc'=>⟨rfl,hok c hc'.1,hc'.2⟩) R
  exact⟨_,_,ρ',hrun,by simpa using h'⟩
 rcases hs with⟨rfl,rfl⟩|⟨b,cap,cur,e',fz,rfl,hb,hfz,hle,hcm,hcs,hrt,hfB,hob⟩
 ·by_cases h0:news=[]
  ·subst h0
   refine⟨.slice none 0 0,w,?_⟩
   have hnv:nv=[]:=List.eq_nil_of_length_eq_zero (by simpa using hnl)
   subst hnv
   have hrun:(Builtin.append_ #[T,U] ty #[.slice none 0 0,x]).run P w= .ok (.slice none 0 0) w:=by
    unfold Builtin.append_
    simp only[List.getElem?_toArray,List.getElem?_cons_zero,List.getElem?_cons_succ,Sem.run_bind,run_underlying hu,run_underlying huU,Result.andThen_ok,run_sizeOf fite.info,Sem.run_pure]
    have hf':=hf w rfl
    cases du
    case int=>simp[dKind]at hk
    all_goals simp[hl,fite.size]at hf' ⊢;simp[hf']
   obtain⟨ρ',h'⟩:=h.make hd hU (D:=fun _=>False) rm (Turn.refl _ w) (v:= .slice none 0 0) (vv:= .slice none 0 0) (x:= .arr (fr && fr') te.size []) (av:= .r (.c (.own (d,0,0)))) (R:=R) (fun _=>False) (fun _ h=>h.elim) (fun b hb=>by cases hb) (fun _ h=>h.elim) (fun id hid=>by simp[AO.ids]at hid)
    (fun id hid=>by simp[AV.ids,AR.ids,AC.ids]at hid;left;rw[hid]) (fun ρ' ok' hk _ hρ hq _=>⟨⟨by simp,.inl ⟨hq,rfl⟩⟩,⟨_,_,_,hq⟩,hq.symm⟩)
   exact⟨ρ',hrun,by simpa using h'⟩
  ·exact grow none 0 [] (by simp;exact List.length_pos_iff.2 h0) (by simp) trivial (by simp[Builtin.firstCells]) rfl
 ·by_cases hroom:rows.length+news.length≤cap
  ·have hrun:=run_append_in (w:=w) (ty:=ty) hu huU hk fite.info x b rows.length cap news.length nv hl (by rw[fite.size];exact hf w rfl) hroom hb hfz (by rw[fite.size,hnl,hcs,←Nat.add_mul];exact Nat.mul_le_mul_right _ hroom) hn.one
   obtain⟨cur',g1,g2,g3⟩:=setCells_heap b e' fz nv (rows.length * ie.size) w cur hb (by rw[fite.size,hnl,hcs,←Nat.add_mul];exact Nat.mul_le_mul_right _ hroom)
   rw[fite.size]at g1 g3 hrun
   obtain⟨ρ',h'⟩:=h.make hd hU (D:=fun k=>k=b) rm (setCells_turn b nv (rows.length * te.size) w) (v:= .slice (some ⟨b,0,none⟩) (rows.length+news.length) cap) (vv:= .slice (some ⟨b,0,none⟩) (rows.length+news.length) cap) (x:= .arr (fr && fr') te.size (rows++news)) (av:= .r (.c (.own (d,0,0)))) (R:=R) (fun _=>False)
    (fun b' hb'=>by subst hb';exact hob) (fun b' hb'=>by
     injection hb' with hb';subst hb'
     exact⟨(Array.getElem?_eq_some_iff.1 g1).1,.inr hob⟩) (fun _ h=>h.elim) (fun id hid=>by simp[AO.ids]at hid)
    (fun id hid=>by simp[AV.ids,AR.ids,AC.ids]at hid;left;rw[hid]) (fun ρ' ok' hk _ hρ hq _=>by
     refine⟨⟨huu,.inr ⟨b,cap,cur',e',fz,by rw[hq];simp,g1,by rw[g2];exact hfz,by simp;omega,hcm,by rw[g2,hcs],?_,fun e=>hfB (by simp at e;exact e.1)⟩⟩,⟨_,_,_,hq⟩,hq.symm⟩
     have hlen:(cur.toList.take (rows.length * te.size)).length=rows.length * te.size:=by rw[hrt.length,hrl]
     rw[g3,hfl,List.length_append,Nat.add_mul,List.append_assoc,←List.append_assoc,←hnl]
     have e0:rows.length * te.size+nv.length=(cur.toList.take (rows.length * te.size)++nv).length:=by rw[List.length_append,hlen]
     rw[e0,List.take_left]
     exact((wk1 hrt).append (wk2 hn)).keep (okF_keep hk))
   exact⟨_,_,ρ',hrun,h'⟩
  ·refine grow (some ⟨b,0,none⟩) cap (cur.toList.take (rows.length * te.size)) (by omega) (by rw[hrt.length,hrl]) hrt ?_ rfl
   refine run_firstCells_some w.drew te.size rows.length ⟨b,0,none⟩ rows.length cap _ (by rw[hrt.length,hrl]) fun j v hv=>?_
   rw[add_head,World.cell?_drew,cell_of_row w b j cur e' fz hb]
   rw[List.getElem?_take]at hv
   split at hv
   ·simpa using hv
   ·cases hv
end
end Go.Sim
namespace Go.Sim
open Go.RowKit
section
variable {P:Program} {Γ:Env} {N B:Nat} {M:Nat→Prop} {w0:Start} {ρ:Rho} {s:F_} {a:Act} {w:World} {o:Oper} {ev:Operand→AV} {H:Id→Option AO} {K:Eff→Prop} {KV:AV→Prop}
theorem memI_iff {t:Id}{l:List Id}:memI t l=true↔t∈l:=by
 simp only[memI,List.any_eq_true]
 constructor
 ·rintro⟨x,h1,h2⟩;rw[idEq_iff]at h2;exact h2 ▸ h1
 ·intro h;exact⟨t,h,idEq_iff.2 rfl⟩
theorem nodupI_iff:∀{l:List Id},nodupI l=true↔l.Nodup
 | []=>by simp[nodupI]
 | o::l=>by
  simp only[nodupI,Bool.and_eq_true,Bool.not_eq_true',List.nodup_cons,nodupI_iff (l:=l)]
  constructor
  ·rintro⟨h1,h2⟩
   exact⟨fun h=>(by rw[memI_iff.2 h]at h1;cases h1),h2⟩
  ·rintro⟨h1,h2⟩
   refine⟨?_,h2⟩
   cases hb:memI o l with
   | false=>rfl
   | true=>exact absurd (memI_iff.1 hb) h1
def Cells (ρ:Rho)(s:F_)(w:World)(ids:List Id)(bad:Nat→Prop)(us:List Value)(ds:List DC):Prop:=
 ∃Fp:Nat→Nat→Prop,us.length=ds.length∧(∀(p:Nat) (v:Value) (d:DC),us[p]?=some v→ds[p]?=some d→RD w (okB ρ s.H w) (Fp p) v d)∧
  (∀p c,Fp p c→(∃o x,o∈ids∧s.H o=some x∧Own ρ o c)∧¬bad c)∧∀p q c,p≠q→Fp p c→¬Fp q c
theorem Cells.mono {ids ids':List Id}{bad bad':Nat→Prop}{us:List Value}{ds:List DC}(h:Cells ρ s w ids bad us ds)(hi:∀o∈ids,o∈ids')(hb:∀c,bad' c→bad c):Cells ρ s w ids' bad' us ds:=by
 obtain⟨Fp,h1,h2,h3,h4⟩:=h
 exact⟨Fp,h1,h2,fun p c hc=>by
  obtain⟨⟨o,x,g1,g2,g3⟩,g4⟩:=h3 p c hc
  exact⟨⟨o,x,hi o g1,g2,g3⟩,fun hx=>g4 (hb c hx)⟩,h4⟩
theorem Cells.append (hc:Conc N B M w0 ρ s a w){ids ids':List Id}{bad:Nat→Prop}{us us':List Value}{ds ds':List DC}(h:Cells ρ s w ids bad us ds)(h':Cells ρ s w ids' bad us' ds')(hne:∀o∈ids,o∉ids'):
  Cells ρ s w (ids++ids') bad (us++us') (ds++ds'):=by
 obtain⟨Fp,h1,h2,h3,h4⟩:=h
 obtain⟨Fp',h1',h2',h3',h4'⟩:=h'
 refine⟨fun p c=>(p < us.length∧Fp p c)∨(us.length≤p∧Fp' (p - us.length) c),by simp[h1,h1'],fun p v d hv hd=>?_,fun p c hcc=>?_,fun p q c hpq hp hq=>?_⟩
 ·rcases Nat.lt_or_ge p us.length with hlt|hge
  ·rw[List.getElem?_append_left hlt]at hv
   rw[List.getElem?_append_left (by omega)]at hd
   have:=h2 p v d hv hd
   exact this.keep (fun b hb=>⟨rfl,hb⟩) fun b hb=>⟨rfl,.inl ⟨hlt,hb⟩⟩
  ·rw[List.getElem?_append_right hge]at hv
   rw[List.getElem?_append_right (by omega),←h1]at hd
   have:=h2' _ v d hv hd
   exact this.keep (fun b hb=>⟨rfl,hb⟩) fun b hb=>⟨rfl,.inr ⟨hge,hb⟩⟩
 ·rcases hcc with⟨_,hcc⟩|⟨_,hcc⟩
  ·obtain⟨⟨o,x,g1,g2,g3⟩,g4⟩:=h3 p c hcc
   exact⟨⟨o,x,by simp[g1],g2,g3⟩,g4⟩
  ·obtain⟨⟨o,x,g1,g2,g3⟩,g4⟩:=h3' _ c hcc
   exact⟨⟨o,x,by simp[g1],g2,g3⟩,g4⟩
 ·rcases hp with⟨p1,hp⟩|⟨p1,hp⟩
  ·rcases hq with⟨q1,hq⟩|⟨q1,hq⟩
   ·exact h4 p q c hpq hp hq
   ·obtain⟨⟨o,x,g1,g2,g3⟩,_⟩:=h3 p c hp
    obtain⟨⟨o',x',g1',g2',g3'⟩,_⟩:=h3' _ c hq
    exact hc.sep o o' x x' c g2 g2' (fun e=>hne o g1 (e ▸ g1')) g3 g3'
  ·rcases hq with⟨q1,hq⟩|⟨q1,hq⟩
   ·obtain⟨⟨o,x,g1,g2,g3⟩,_⟩:=h3 q c hq
    obtain⟨⟨o',x',g1',g2',g3'⟩,_⟩:=h3' _ c hp
    exact hc.sep o o' x x' c g2 g2' (fun e=>hne o g1 (e ▸ g1')) g3 g3'
   ·exact h4' _ _ c (by omega) hp hq
theorem Cells.nil {bad:Nat→Prop}:Cells ρ s w [] bad [] []:=⟨fun _ _=>False,rfl,by simp,fun _ _ h=>h.elim,fun _ _ _ _ h=>h.elim⟩
theorem arr_DT (hc:Conc N B M w0 ρ s a w){q:Id}{fr:Bool}{sz:Nat}{rows:List (List Tr)}(hq:s.H q=some (.arr fr sz rows))(hfl:flat rows):DT w (Own ρ q) (ρ q) (.lst sz rows):=by
 obtain⟨hu,g⟩:=hc.arr hq
 rcases g with⟨g1,g2⟩|⟨b,cap,cur,e,fz,g1,g2,g3,g4,g5,g6,g7,g8,g9⟩
 ·subst g2;rw[g1];exact .nil _ _
 ·have hb:Own ρ q b:= .inl (by rw[g1];rfl)
  rw[g1]
  refine .arr _ b _ cap sz cur e fz rows (fun _ _=>False) hb g2 g3 rfl g4 g5 g6 hu g7.length (fun _ _ h=>h.elim) (fun _ _ _ _ h=>h.elim) fun p v u hv hu'=>?_
  have h4:=g7.get p v u hv hu'
  obtain⟨row,k1,k2⟩:=List.mem_flatten.1 (List.mem_of_getElem? hu')
  have h5:=hfl row k1 u k2
  cases h4 with
  | int=>exact .int _ _ _
  | bool=>exact .bool _ _
  | str=>exact .str _ _
  | emp=>exact absurd rfl (h5 _ _)
  | lst=>exact absurd rfl (h5 _ _)
theorem dar_DT (hc:Conc N B M w0 ρ s a w){q:Id}{sz:Nat}{rows:List (List Tr)}(hq:s.H q=some (.dar sz (deepRows rows) none)):DT w (Own ρ q) (ρ q) (.lst sz rows):=by
 obtain⟨hu,g⟩:=hc.dar hq
 have hlen:(deepRows rows).length=rows.length:=by simp[deepRows]
 have hu':∀r∈rows,r.length=sz:=fun r hr=>by
  have:=hu (r.map .d) (List.mem_map.2 ⟨r,hr,rfl⟩)
  simpa using this
 rcases g with⟨g1,g2,_⟩|⟨b,cap,cur,e,fz,Fp,g1,g2,g3,g4,g5,g6,g7,g8,g9,g10⟩
 ·have:rows=[]:=by simpa [deepRows]using g2
  subst this;rw[g1];exact .nil _ _
 ·have hb:Own ρ q b:= .inl (by rw[g1];rfl)
  rw[hlen]at g1 g4 g9
  rw[deep_flatten]at g9
  rw[g1]
  refine .arr _ b _ cap sz cur e fz rows Fp hb g2 g3 rfl g4 g5 g6 hu' (by rw[g9.1,List.length_map]) (fun p c h=>⟨.inr (g7 p c h).1,(g7 p c h).2⟩) g8 fun p v u hv hu1=>?_
  have:=g9.2 p v (.d u) hv (by rw[List.getElem?_map,hu1];rfl)
  simp only[holeAt]at this
  exact this
theorem frzD_spec:∀(cs:List AC) (K:List DC→List Id→Prop),frzD H cs K→∃ds ids,K ds ids∧∀{N B:Nat} {M:Nat→Prop} {w0:Start} {ρ:Rho} {s:F_} {a:Act} {w:World},Conc N B M w0 ρ s a w→(∀o∈ids,s.H o=H o)→ids.Nodup→
  ∀vs:List Value,RCs B ρ w (okB ρ s.H w) vs cs→Cells ρ s w ids (fun _=>False) vs ds
 | [],K,h=>⟨[],[],h,fun _ _ _ vs hv=>by
   cases vs with
   | nil=>exact Cells.nil
   | cons=>exact hv.elim⟩
 | c::r,K,h=>by
  have one:∀(d:DC) (ids0:List Id) (rest:frzD H r fun cs ids=>K (d::cs) (ids0++ids)),
    (∀{N B:Nat} {M:Nat→Prop} {w0:Start} {ρ:Rho} {s:F_} {a:Act} {w:World},Conc N B M w0 ρ s a w→(∀o∈ids0,s.H o=H o)→∀v,RC B ρ w (okB ρ s.H w) v c→Cells ρ s w ids0 (fun _=>False) [v] [d])→
    ∃ds ids,K ds ids∧∀{N B:Nat} {M:Nat→Prop} {w0:Start} {ρ:Rho} {s:F_} {a:Act} {w:World},Conc N B M w0 ρ s a w→(∀o∈ids,s.H o=H o)→ids.Nodup→
     ∀vs:List Value,RCs B ρ w (okB ρ s.H w) vs (c::r)→Cells ρ s w ids (fun _=>False) vs ds:=by
   intro d ids0 rest h1
   obtain⟨ds,ids,hK,hrest⟩:=frzD_spec r _ rest
   refine⟨d::ds,ids0++ids,hK,fun hc hH hnd vs hv=>?_⟩
   cases vs with
   | nil=>exact hv.elim
   | cons v vs=>
    have g1:=h1 hc (fun o ho=>hH o (by simp[ho])) v hv.1
    have g2:=hrest hc (fun o ho=>hH o (by simp[ho])) (List.nodup_append.1 hnd).2.1 vs hv.2
    exact g1.append hc g2 fun o ho ho'=>(List.nodup_append.1 hnd).2.2 o ho o ho' rfl
  have flatC:∀(x:Tr),(∀sz rows,x≠.lst sz rows)→∀{w:World} {ok F:Nat→Prop} {v:Value},RT w ok v x→DT w F v x:=by
   intro x hx w ok F v hv
   cases hv with
   | int=>exact .int _ _ _
   | bool=>exact .bool _ _
   | str=>exact .str _ _
   | emp=>exact absurd rfl (hx _ _)
   | lst=>exact absurd rfl (hx _ _)
  have plain:∀(d:DC),(∀{B:Nat} {ρ:Rho} {s:F_} {w:World} (v:Value),RC B ρ w (okB ρ s.H w) v c→RD w (okB ρ s.H w) (fun _=>False) v d)→
    ∀{N B:Nat} {M:Nat→Prop} {w0:Start} {ρ:Rho} {s:F_} {a:Act} {w:World},Conc N B M w0 ρ s a w→(∀o∈([]:List Id),s.H o=H o)→∀v,RC B ρ w (okB ρ s.H w) v c→Cells ρ s w [] (fun _=>False) [v] [d]:=by
   intro d hd N B M w0 ρ s a w hc _ v hv
   refine⟨fun _ _=>False,rfl,fun p v' d' h1 h2=>?_,fun _ _ h=>h.elim,fun _ _ _ _ h=>h.elim⟩
   cases p with
   | zero=>simp at h1 h2;subst h1;subst h2;exact hd v hv
   | succ p=>simp at h1
  have owned:∀(q:Id) (t:Tr),c= .own q→(∀{N B:Nat} {M:Nat→Prop} {w0:Start} {ρ:Rho} {s:F_} {a:Act} {w:World},Conc N B M w0 ρ s a w→s.H q=H q→DT w (Own ρ q) (ρ q) t∧∃x,s.H q=some x)→
    ∀{N B:Nat} {M:Nat→Prop} {w0:Start} {ρ:Rho} {s:F_} {a:Act} {w:World},Conc N B M w0 ρ s a w→(∀o∈[q],s.H o=H o)→∀v,RC B ρ w (okB ρ s.H w) v c→Cells ρ s w [q] (fun _=>False) [v] [.d t]:=by
   intro q t hcq hdt N B M w0 ρ s a w hc hH v hv
   subst hcq
   obtain⟨g1,x,g2⟩:=hdt hc (hH q (by simp))
   obtain⟨_,rfl⟩:=hv
   refine⟨fun p c=>p=0∧Own ρ q c,rfl,fun p v' d' h1 h2=>?_,fun p c h=>⟨⟨q,x,by simp,g2,h.2⟩,fun h=>h⟩,fun p p' c hne h1 h2=>hne (h1.1.trans h2.1.symm)⟩
   cases p with
   | zero=>simp at h1 h2;subst h1;subst h2;exact g1.mono fun c hc=>⟨rfl,hc⟩
   | succ p=>simp at h1
  cases c with
  | t x=>
   simp only[frzD]at h
   cases x with
   | lst sz rows=>exact one _ [] h (plain (.t (.lst sz rows)) fun v hv=>hv)
   | int k n=>exact one _ [] h (plain (.d (.int k n)) fun v hv=>flatC _ (by simp) hv)
   | bool b=>exact one _ [] h (plain (.d (.bool b)) fun v hv=>flatC _ (by simp) hv)
   | str b=>exact one _ [] h (plain (.d (.str b)) fun v hv=>flatC _ (by simp) hv)
  | f x=>
   simp only[frzD]at h
   cases x with
   | lst sz rows=>exact one _ [] h (plain (.t (.lst sz rows)) fun v hv=>RT.keep (show RT _ _ v _ from hv) okF_drop)
   | int k n=>exact one _ [] h (plain (.d (.int k n)) fun v hv=>flatC _ (by simp) hv)
   | bool b=>exact one _ [] h (plain (.d (.bool b)) fun v hv=>flatC _ (by simp) hv)
   | str b=>exact one _ [] h (plain (.d (.str b)) fun v hv=>flatC _ (by simp) hv)
  | nils sz=>
   simp only[frzD]at h
   exact one _ [] h (plain (.d (.lst sz [])) fun v hv=>by
    have:v= .slice none 0 0:=hv
    subst this;exact .nil _ _)
  | own q=>
   simp only[frzD]at h
   split at h
   ·rename_i fr sz rows hq
    exact one _ [q] h.2 (owned q _ rfl fun hc hH=>⟨arr_DT hc (hH.trans hq) h.1,_,hH.trans hq⟩)
   ·rename_i sz rows hq
    obtain⟨rows',rfl,h⟩:=h
    exact one _ [q] h (owned q _ rfl fun hc hH=>⟨dar_DT hc (hH.trans hq),_,hH.trans hq⟩)
   ·exact h.elim
  | nilp=>simp[frzD]at h
  | sub=>simp[frzD]at h
  | ptr=>simp[frzD]at h
  | opq=>simp[frzD]at h
  | mpv=>simp[frzD]at h
theorem Conc.newDar (h:Conc N B M w0 ρ s a w){d:Nat}(hd:d < N)(hU:¬s.U d)(rm:List Id){w':World}{D:Nat→Prop}(hT:Turn D w w'){b cap sz:Nat}{us:Array Value}{e:TypeId}{fz:Nat×Nat}{rows:List (List DC)}
  (hD:∀k,D k→k=b∧∃o x',o∈rm∧s.H o=some x'∧Own ρ o k) (hb:w.heap.size≤b∨∃o x',o∈rm∧s.H o=some x'∧Own ρ o b)
  (hh:w'.heap[b]?=some (.cells us e fz)) (hf:unfrozen us.size fz) (hu:∀r∈rows,r.length=sz) (h1:rows.length≤cap) (h2:cap≤maxLen) (h3:us.size=cap * sz)
  (hcells:Cells ρ s w rm (fun c=>c=b) (us.toList.take (rows.length * sz)) rows.flatten) (R:List Id):
  ∃ρ',Conc N B M w0 ρ' (s.app (some d) ⟨.r (.c (.own (d,0,0))),rm.map (fun r=>(r,none))++[((d,0,0),some (.dar sz rows none))],some d,R⟩) (a.put (some d) (.slice (some ⟨b,0,none⟩) rows.length cap)) w':=by
 have hlt:b < w'.heap.size:=(Array.getElem?_eq_some_iff.1 hh).1
 obtain⟨Fp,c1,c2,c3,c4⟩:=hcells
 refine h.make hd hU (D:=D) rm hT (v:= .slice (some ⟨b,0,none⟩) rows.length cap) (fun c=>∃p,Fp p c) (fun k hk=>(hD k hk).2) (fun b' hb'=>?_) (fun c hc=>by obtain⟨p,hp⟩:=hc;exact(c3 p c hp).1) (fun id hid=>by simp[AO.ids]at hid) (fun id hid=>?_) (fun ρ' ok' hk hkr hρ hq hF=>⟨?_,?_⟩)
 ·injection hb' with hb';subst hb';exact⟨hlt,hb⟩
 ·simp[AV.ids,AR.ids,AC.ids]at hid;left;rw[hid]
 ·refine⟨hu,.inr ⟨b,cap,us,e,fz,Fp,hq,hh,hf,h1,h2,h3,fun p c hc=>⟨hF c ⟨p,hc⟩,(c3 p c hc).2⟩,c4,c1,fun p v dd hv hdd=>?_⟩⟩
  simp only[holeAt]
  refine(c2 p v dd hv hdd).keep hk fun c hc=>⟨?_,hc⟩
  obtain⟨⟨o,x,g1,g2,g3⟩,g4⟩:=c3 p c hc
  exact hT.block c (h.rng o x c g2 g3).1 fun hDc=>g4 (hD c hDc).1
 ·exact⟨⟨_,_,_,hq⟩,hq.symm⟩
end
end Go.Sim
namespace Go.Sim
open Go.RowKit
section
variable {P:Program} {Γ:Env} {N B:Nat} {M:Nat→Prop} {w0:Start} {ρ:Rho} {s:F_} {a:Act} {w:World} {o:Oper} {ev:Operand→AV} {H:Id→Option AO} {K:Eff→Prop} {KV:AV→Prop}
theorem append_mem {T U ty e:TypeId}{i:TypeInfo}{z:Value}{du:TypeDesc}(hu:P.underlying T=some (.slice e))(huU:P.underlying U=some du)(hk:dKind du=none)(hi:P.info? e=some i)(hz:i.zero=some z)(hzs:z.cells.size=i.size)
  (sv x:Value) (n m:Nat) (olds nv:List Value)
  (hs:(sv= .slice none 0 0∧n=0∧olds=[])∨∃b cap cur e' fz,sv= .slice (some ⟨b,0,none⟩) n cap∧w.heap[b]?=some (.cells cur e' fz)∧unfrozen cur.size fz∧n≤cap∧cap≤maxLen∧cur.size=cap * i.size∧olds=cur.toList.take (n * i.size))
  (hl:∀w',(Builtin.lenOf x).run P w'= .ok m w') (hf:∀w',w'.heap=w.heap→(Builtin.firstCells i.size m x).run P w'= .ok nv.toArray w') (hnl:nv.length=m * i.size) (hone:∀v∈nv,v.oneCell'=true)
  (hmx:n+m≤9223372036854775807) (hby:(n+m) * i.bytes≤140737488355328):
  ∃v w',(Builtin.append_ #[T,U] ty #[sv,x]).run P w= .ok v w'∧
   ((
    v= .slice none 0 0∧w'=w∧n=0∧m=0∧sv= .slice none 0 0)∨∃b' cap' cur' e'' fz' D,v= .slice (some ⟨b',0,none⟩) (n+m) cap'∧Turn D w w'∧w'.heap[b']?=some (.cells cur' e'' fz')∧unfrozen cur'.size fz'∧n+m≤cap'∧cap'≤maxLen∧cur'.size=cap' * i.size∧
    cur'.toList.take ((n+m) * i.size)=olds++nv∧((w.heap.size≤b'∧∀k,¬D k)∨(blk sv=some b'∧∀k,D k→k=b'))):=by
 have hmax:n+m≤maxLen:=by unfold maxLen;omega
 have grow:∀(A:Option Addr) (sCap:Nat),sCap < n+m→olds.length=n * i.size→(Builtin.firstCells i.size n (.slice A n sCap)).run P w.drew= .ok olds.toArray w.drew→sv= .slice A n sCap→
   ∃v w',(Builtin.append_ #[T,U] ty #[sv,x]).run P w= .ok v w'∧
   ((
    v= .slice none 0 0∧w'=w∧n=0∧m=0∧sv= .slice none 0 0)∨∃b' cap' cur' e'' fz' D,v= .slice (some ⟨b',0,none⟩) (n+m) cap'∧Turn D w w'∧w'.heap[b']?=some (.cells cur' e'' fz')∧unfrozen cur'.size fz'∧n+m≤cap'∧cap'≤maxLen∧cur'.size=cap' * i.size∧
    cur'.toList.take ((n+m) * i.size)=olds++nv∧((w.heap.size≤b'∧∀k,¬D k)∨(blk sv=some b'∧∀k,D k→k=b'))):=by
  intro A sCap hlt hol hfo hsv
  have hrun:=run_append_new (w:=w) (ty:=ty) hu huU hk hi hz x A n sCap m olds nv hl (hf _ rfl) hfo hlt hmx hby
  have hge:=grownCap_ge w (n+m) sCap e
  have hle:=grownCap_le_maxLen w (n+m) sCap e hmax
  generalize grownCap w (n+m) sCap e=gc at hrun hge hle
  rw[hsv]
  refine⟨_,_,hrun,.inr ⟨w.heap.size,gc,olds.toArray++nv.toArray++Builtin.zeroCells z.cells (gc - (n+m)),e,(0,0),fun _=>False,by simp,(Turn.drew _ w).trans (Turn.alloc _ _ _),heap_alloc_new w.drew _,unfrozen_zero _,hge,hle,?_,?_,.inl ⟨Nat.le_refl _,fun _ h=>h⟩⟩⟩
  ·simp only[Array.size_append,List.size_toArray,size_zeroCells,hzs,hol,hnl];rw[←Nat.add_mul,←Nat.add_mul];congr 1;omega
  ·rw[Nat.add_mul,←hol,←hnl,←List.length_append]
   simp only[Array.toList_append,List.append_assoc]
   rw[←List.append_assoc,List.take_left]
 rcases hs with⟨rfl,rfl,rfl⟩|⟨b,cap,cur,e',fz,rfl,hb,hfz,hle,hcm,hcs,rfl⟩
 ·by_cases h0:m=0
  ·subst h0
   have hnv:nv=[]:=List.eq_nil_of_length_eq_zero (by simpa using hnl)
   subst hnv
   refine⟨.slice none 0 0,w,?_,.inl ⟨rfl,rfl,rfl,rfl,rfl⟩⟩
   unfold Builtin.append_
   simp only[List.getElem?_toArray,List.getElem?_cons_zero,List.getElem?_cons_succ,Sem.run_bind,run_underlying hu,run_underlying huU,Result.andThen_ok,run_sizeOf hi,Sem.run_pure]
   have hf':=hf w rfl
   cases du
   case int=>simp[dKind]at hk
   all_goals simp[hl]at hf' ⊢;simp[hf']
  ·exact grow none 0 (by omega) (by simp) (by simp[Builtin.firstCells]) rfl
 ·have hol:(cur.toList.take (n * i.size)).length=n * i.size:=by
   rw[List.length_take,Array.length_toList,hcs]
   exact Nat.min_eq_left (Nat.mul_le_mul_right _ hle)
  by_cases hroom:n+m≤cap
  ·have hrun:=run_append_in (w:=w) (ty:=ty) hu huU hk hi x b n cap m nv hl (hf w rfl) hroom hb hfz (by rw[hnl,hcs,←Nat.add_mul];exact Nat.mul_le_mul_right _ hroom) hone
   obtain⟨cur',g1,g2,g3⟩:=setCells_heap b e' fz nv (n * i.size) w cur hb (by rw[hnl,hcs,←Nat.add_mul];exact Nat.mul_le_mul_right _ hroom)
   refine⟨_,_,hrun,.inr ⟨b,cap,cur',e',fz,fun k=>k=b,rfl,setCells_turn b nv (n * i.size) w,g1,by rw[g2];exact hfz,hroom,hcm,by rw[g2,hcs],?_,.inr ⟨rfl,fun _ h=>h⟩⟩⟩
   rw[g3,Nat.add_mul,List.append_assoc,←List.append_assoc,←hnl]
   have e0:n * i.size+nv.length=(cur.toList.take (n * i.size)++nv).length:=by rw[List.length_append,hol]
   rw[e0,List.take_left]
  ·refine grow (some ⟨b,0,none⟩) cap (by omega) hol ?_ rfl
   refine run_firstCells_some w.drew i.size n ⟨b,0,none⟩ n cap _ hol fun j v hv=>?_
   rw[add_head,World.cell?_drew,cell_of_row w b j cur e' fz hb]
   rw[List.getElem?_take]at hv
   split at hv
   ·simpa using hv
   ·cases hv
theorem RTs.cellsT {ok:Nat→Prop}{us:List Value}{ts:List Tr}{bad:Nat→Prop}(h:RTs w ok us ts)(hok:∀b,ok b→okB ρ s.H w b):Cells ρ s w [] bad us (ts.map .t):=by
 refine⟨fun _ _=>False,by rw[List.length_map];exact h.length,fun p v d hv hd=>?_,fun _ _ h=>h.elim,fun _ _ _ _ h=>h.elim⟩
 rw[List.getElem?_map,Option.map_eq_some_iff]at hd
 obtain⟨u,hu,rfl⟩:=hd
 exact(h.get p v u hv hu).keep fun b hb=>⟨rfl,hok b hb⟩
theorem srcD_spec {esz:Nat}{x:Operand}{K2:List (List DC)→List Id→List Id→Prop}(h:srcD esz (ev x) H K2):∃news rm R,K2 news rm R∧
  ∀(N B:Nat) (M:Nat→Prop) (w0:Start) (ρ:Rho) (s:F_) (a:Act) (w:World),Conc N B M w0 ρ s a w→evL s.L x=ev x→(∀id∈rm++R,s.H id=H id)→
   ∃nv,(∀(P:Program) (w':World),(Builtin.lenOf (a.eval x)).run P w'= .ok news.length w')∧(∀(P:Program) (w':World),w'.heap=w.heap→(Builtin.firstCells esz news.length (a.eval x)).run P w'= .ok nv.toArray w')∧
    (∀r∈news,r.length=esz)∧(∀v∈nv,v.oneCell'=true)∧∀bad:Nat→Prop,(∀o x c,o∈rm→s.H o=some x→Own ρ o c→¬bad c)→Cells ρ s w rm bad nv news.flatten:=by
 have plain:∀(y:AV),ev x=y→(srcRows esz y H fun _ rows R=>K2 (rows.map (·.map .t)) [] R)→∃news rm R,K2 news rm R∧
  ∀(N B:Nat) (M:Nat→Prop) (w0:Start) (ρ:Rho) (s:F_) (a:Act) (w:World),Conc N B M w0 ρ s a w→evL s.L x=ev x→(∀id∈rm++R,s.H id=H id)→
   ∃nv,(∀(P:Program) (w':World),(Builtin.lenOf (a.eval x)).run P w'= .ok news.length w')∧(∀(P:Program) (w':World),w'.heap=w.heap→(Builtin.firstCells esz news.length (a.eval x)).run P w'= .ok nv.toArray w')∧
    (∀r∈news,r.length=esz)∧(∀v∈nv,v.oneCell'=true)∧∀bad:Nat→Prop,(∀o x c,o∈rm→s.H o=some x→Own ρ o c→¬bad c)→Cells ρ s w rm bad nv news.flatten:=by
  intro y hy h
  rw[←hy]at h
  obtain⟨fr,rows,R,hK,hsrc⟩:=src_ok h
  refine⟨_,[],R,hK,fun N B M w0 ρ s a w hc hev hR=>?_⟩
  obtain⟨nv,g1,g2,g3,g4⟩:=hsrc N B M w0 ρ s a w hc hev (fun id hid=>hR id (by simpa using hid))
  refine⟨nv,by simpa using g1,by simpa using g2,fun r hr=>?_,g3.one,fun bad _=>?_⟩
  ·obtain⟨r',h1,rfl⟩:=List.mem_map.1 hr
   simpa using g4 r' h1
  ·rw[←List.map_flatten]
   exact g3.cellsT fun b hb=>hb.1
 unfold srcD at h
 split at h
 ·rename_i q hx
  split at h
  ·rename_i sz rows hq
   obtain⟨rfl,hK⟩:=h
   refine⟨rows,[q],[],hK,fun N B M w0 ρ s a w hc hev hR=>?_⟩
   have hq':s.H q=some (.dar sz rows none):=by rw[hR q (by simp)];exact hq
   have hv:=(hc.eval x).1
   rw[hev,hx]at hv
   obtain⟨_,e1⟩:=hv
   obtain⟨hu,g⟩:=hc.dar hq'
   rcases g with⟨g1,g2,_⟩|⟨b,cap,cur,e,fz,Fp,g1,g2,g3,g4,g5,g6,g7,g8,g9,g10⟩
   ·subst g2
    rw[e1,g1]
    exact⟨[],fun P w'=>by simp[Builtin.lenOf],fun P w' _=>by simp[Builtin.firstCells],by simp,by simp,fun bad _=>Cells.nil.mono (by simp) (fun _ h=>h)⟩
   ·rw[e1,g1]
    have hfl:=flatten_length sz rows hu
    refine⟨cur.toList.take (rows.length * sz),fun P w'=>by simp[Builtin.lenOf],fun P w' e=>?_,hu,fun v hv=>?_,fun bad hbad=>?_⟩
    ·refine run_firstCells_some w' sz rows.length ⟨b,0,none⟩ rows.length cap _ (by rw[g9.1,hfl]) fun j v hv=>?_
     have:=g10 j v hv
     unfold World.cell? at this ⊢
     rw[e];exact this
    ·obtain⟨p,hp⟩:=List.getElem?_of_mem hv
     have hlt:p < rows.flatten.length:=by
      rw[←g9.1]
      rcases Nat.lt_or_ge p (cur.toList.take (rows.length * sz)).length with h|h
      ·exact h
      ·rw[List.getElem?_eq_none h]at hp;cases hp
     have:=g9.2 p v _ hp (List.getElem?_eq_getElem hlt)
     simp only[holeAt]at this
     generalize rows.flatten[p]=dd at this
     cases dd with
     | t x=>exact RT.one this
     | d x=>exact DT.one this
    ·refine⟨Fp,g9.1,fun p v d hv hd=>?_,fun p c hc'=>⟨⟨q,_,by simp,hq',.inr (g7 p c hc').1⟩,hbad q _ c (by simp) hq' (.inr (g7 p c hc').1)⟩,g8⟩
     have:=g9.2 p v d hv hd
     simpa only[holeAt]using this
  ·exact plain (ev x) rfl h
 ·exact plain _ rfl h
theorem Conc.appendD (h:Conc N B M w0 ρ s a w){T U e ty:TypeId}{d:Nat}{te:TI}{ie:TypeInfo}{de du:TypeDesc}(hu:P.underlying T=some (.slice e))(fite:te.Fit P e ie de)(huU:P.underlying U=some du)(hk:dKind du=none)
  (hd:d < N) (hU:¬s.U d) (rm rm':List Id) (rows news:List (List DC)) (sv x:Value) (hun:∀r∈news,r.length=te.size) (hur:∀r∈rows,r.length=te.size) (hne:∀o∈rm,o∉rm')
  (hs:(sv= .slice none 0 0∧rows=[])∨∃b cap cur e' fz,sv= .slice (some ⟨b,0,none⟩) rows.length cap∧w.heap[b]?=some (.cells cur e' fz)∧unfrozen cur.size fz∧rows.length≤cap∧cap≤maxLen∧cur.size=cap * te.size∧
   Cells ρ s w rm (fun c=>c=b) (cur.toList.take (rows.length * te.size)) rows.flatten∧∃o x',o∈rm∧s.H o=some x'∧blk (ρ o)=some b)
  (nv:List Value) (hl:∀w',(Builtin.lenOf x).run P w'= .ok news.length w') (hf:∀w',w'.heap=w.heap→(Builtin.firstCells te.size news.length x).run P w'= .ok nv.toArray w') (hone:∀v∈nv,v.oneCell'=true)
  (hnc:∀bad:Nat→Prop,(∀o x c,o∈rm'→s.H o=some x→Own ρ o c→¬bad c)→Cells ρ s w rm' bad nv news.flatten)
  (hfit:fits (rows.length+news.length) te.bytes) (R:List Id):
  ∃v w' ρ',(Builtin.append_ #[T,U] ty #[sv,x]).run P w= .ok v w'∧Conc N B M w0 ρ' (s.app (some d) ⟨.r (.c (.own (d,0,0))),(rm++rm').map (fun r=>(r,none))++[((d,0,0),some (.dar te.size (rows++news) none))],some d,R⟩) (a.put (some d) v) w':=by
 obtain⟨z,hz,hm⟩:=fite.zero
 have hzs:z.cells.size=te.size:=by
  have h1:=(zMatches_ok (B:=B) (ρ:=ρ) (w:=w) (ok:=fun _=>True) hm).length
  rw[fite.zlen]at h1
  simpa using h1
 have hnl:nv.length=news.length * te.size:=by
  obtain⟨Fp,h1,_⟩:=hnc (fun _=>False) (fun _ _ _ _ _ _ h=>h)
  rw[h1,flatten_length te.size news hun]
 have hcl:∀bad:Nat→Prop,(∀c,bad c→¬∃o x,o∈rm'∧s.H o=some x∧Own ρ o c)→Cells ρ s w rm' bad nv news.flatten:=fun bad hb=>hnc bad fun o x c h1 h2 h3 h4=>hb c h4 ⟨o,x,h1,h2,h3⟩
 obtain⟨olds,hs⟩:∃olds,(sv= .slice none 0 0∧rows=[]∧olds=[])∨∃b cap cur e' fz,sv= .slice (some ⟨b,0,none⟩) rows.length cap∧w.heap[b]?=some (.cells cur e' fz)∧unfrozen cur.size fz∧rows.length≤cap∧cap≤maxLen∧cur.size=cap * te.size∧
   Cells ρ s w rm (fun c=>c=b) olds rows.flatten∧(∃o x',o∈rm∧s.H o=some x'∧blk (ρ o)=some b)∧olds=cur.toList.take (rows.length * te.size):=by
  rcases hs with⟨h1,h2⟩|⟨b,cap,cur,e',fz,h1,h2,h3,h4,h5,h6,h7,h8⟩
  ·exact⟨[],.inl ⟨h1,h2,rfl⟩⟩
  ·exact⟨_,.inr ⟨b,cap,cur,e',fz,h1,h2,h3,h4,h5,h6,h7,h8,rfl⟩⟩
 obtain⟨v,w',hrun,hres⟩:=append_mem (w:=w) (ty:=ty) hu huU hk fite.info hz (by rw[fite.size];exact hzs) sv x rows.length news.length olds nv
  (by
   rcases hs with⟨h1,h2,h3⟩|⟨b,cap,cur,e',fz,h1,h2,h3,h4,h5,h6,_,_,h9⟩
   ·exact .inl ⟨h1,by rw[h2];rfl,h3⟩
   ·exact .inr ⟨b,cap,cur,e',fz,h1,h2,h3,h4,h5,by rw[fite.size];exact h6,by rw[fite.size];exact h9⟩) hl (by rw[fite.size];exact hf) (by rw[fite.size];exact hnl) hone hfit.2 (by rw[fite.bytes];exact hfit.1)
 refine⟨v,w',?_⟩
 have huu:∀r∈rows++news,r.length=te.size:=fun r hr=>(List.mem_append.1 hr).elim (hur r) (hun r)
 have hfl:(rows++news).flatten=rows.flatten++news.flatten:=by simp
 rcases hres with⟨rfl,rfl,hn0,hm0,_⟩|⟨b',cap',cur',e'',fz',D,rfl,hT,g1,g2,g3,g4,g5,g6,g7⟩
 ·have e1:rows=[]:=List.eq_nil_of_length_eq_zero hn0
  have e2:news=[]:=List.eq_nil_of_length_eq_zero hm0
  subst e1;subst e2
  obtain⟨ρ',h'⟩:=h.make hd hU (D:=fun _=>False) (rm++rm') (Turn.refl _ w') (v:= .slice none 0 0) (vv:= .slice none 0 0) (x:= .dar te.size ([]++[]) none) (av:= .r (.c (.own (d,0,0)))) (R:=R) (fun _=>False) (fun _ h=>h.elim) (fun b hb=>by cases hb) (fun _ h=>h.elim) (fun id hid=>by simp[AO.ids]at hid)
   (fun id hid=>by simp[AV.ids,AR.ids,AC.ids]at hid;left;rw[hid]) (fun ρ' ok' hk _ hρ hq _=>⟨⟨by simp,.inl ⟨hq,rfl,rfl⟩⟩,⟨_,_,_,hq⟩,hq.symm⟩)
  exact⟨ρ',hrun,h'⟩
 ·rw[fite.size]at g5 g6
  have hcells:∀bad:Nat→Prop,(∀c,bad c→c=b')→Cells ρ s w (rm++rm') bad (cur'.toList.take ((rows++news).length * te.size)) (rows++news).flatten:=by
   intro bad hbad
   rw[List.length_append,g6,hfl]
   rcases hs with⟨h1,h2,h0⟩|⟨b,cap,cur,e',fz,h1,h2,h3,h4,h5,h6,h7,⟨o,x',k1,k2,k3⟩,h0⟩
   ·subst h1;subst h2;subst h0
    rcases g7 with⟨g7,_⟩|⟨g7,_⟩
    ·refine Cells.append h (Cells.nil.mono (by simp) (fun _ h=>h)) (hcl bad fun c hb' ⟨o1,x1,m1,m2,m3⟩=>?_) hne
     have:=(h.rng o1 x1 c m2 m3).1
     rw[hbad c hb']at this
     omega
    ·cases g7
   ·subst h1
    have hbb:blk (ρ o)=some b:=k3
    have hb1:∀c,bad c→c=b∨w.heap.size≤c:=fun c hc=>by
     rw[hbad c hc]
     rcases g7 with⟨g7,_⟩|⟨g7,_⟩
     ·exact .inr g7
     ·have:b=b':=by simpa [blk]using g7
      exact .inl this.symm
    obtain⟨Fp,c1,c2,c3,c4⟩:=h7
    refine Cells.append h ⟨Fp,c1,c2,fun p c hc=>⟨(c3 p c hc).1,fun hx=>?_⟩,c4⟩ (hcl bad fun c hb' ⟨o1,x1,m1,m2,m3⟩=>?_) hne
    ·rcases hb1 c hx with e|e
     ·exact(c3 p c hc).2 e
     ·obtain⟨⟨o2,x2,m1,m2,m3⟩,_⟩:=c3 p c hc
      have:=(h.rng o2 x2 c m2 m3).1
      omega
    ·rcases hb1 c hb' with e|e
     ·subst e
      exact h.sep o o1 x' x1 c k2 m2 (fun e=>hne o k1 (e ▸ m1)) (.inl k3) m3
     ·have:=(h.rng o1 x1 c m2 m3).1
      omega
  obtain⟨ρ',h'⟩:=h.newDar hd hU (rm++rm') hT (b:=b') (cap:=cap') (sz:=te.size) (us:=cur') (e:=e'') (fz:=fz') (rows:=rows++news)
   (fun k hk=>by
    rcases g7 with⟨_,g7⟩|⟨g7,g8⟩
    ·exact absurd hk (g7 k)
    ·refine⟨g8 k hk,?_⟩
     rw[g8 k hk]
     rcases hs with⟨h1,h2,h0⟩|⟨b,cap,cur,e',fz,h1,h2,h3,h4,h5,h6,h7,⟨o,x',k1,k2,k3⟩,h0⟩
     ·subst h1;cases g7
     ·subst h1
      have:b=b':=by simpa [blk]using g7
      subst this
      exact⟨o,x',by simp[k1],k2,.inl k3⟩)
   (by
    rcases g7 with⟨g7,_⟩|⟨g7,_⟩
    ·exact .inl g7
    ·rcases hs with⟨h1,h2,h0⟩|⟨b,cap,cur,e',fz,h1,h2,h3,h4,h5,h6,h7,⟨o,x',k1,k2,k3⟩,h0⟩
     ·subst h1;cases g7
     ·subst h1
      have:b=b':=by simpa [blk]using g7
      subst this
      exact .inr ⟨o,x',by simp[k1],k2,.inl k3⟩) g1 g2 huu (by simpa using g3) g4 g5 (hcells _ fun _ h=>h) R
  exact⟨ρ',hrun,by simpa using h'⟩
theorem sound_append {T U e:TypeId}{d:Nat}{sx x:Operand}{ti tu te:TI}(hΓ:Γ.chk P=true)(hT:Γ.get T=some ti)(hTU:Γ.get U=some tu)(he:ti.elem=some e)(hk:tu.kind=none)(hE:Γ.get e=some te)(hdst:o.dst=some d)
  (ho:o.op= .call {callee:= .builtin .append,args:=#[sx,x],argTypes:=#[T,U]}) (h:semAppend d te.size te.bytes (ev sx) (ev x) H K):∃ef,K ef∧Good P o ev H ef:=by
 obtain⟨ii,dd,fit⟩:=Env.fit hΓ hT
 obtain⟨iu,du,fitu⟩:=Env.fit hΓ hTU
 obtain⟨ie,de,fite⟩:=Env.fit hΓ hE
 have hd:=dslice fit he
 subst hd
 have hopx:x∈o.op.operands.toList:=by simp[ho,Op.operands,Call.operands]
 have hops:sx∈o.op.operands.toList:=by simp[ho,Op.operands,Call.operands]
 have hkk:dKind du=none:=fitu.kind.trans hk
 have fin:∀(rm:List Id) (rows news:List (List Tr)) (fr fr':Bool) (R R':List Id),
   (∀(N B:Nat) (M:Nat→Prop) (w0:Start) (ρ:Rho) (s:F_) (a:Act) (w:World),Conc N B M w0 ρ s a w→evL s.L sx=ev sx→(∀id∈R',s.H id=H id)→
    (∀r∈rows,r.length=te.size)∧((a.eval sx= .slice none 0 0∧rows=[])∨∃b cap cur e' fz,a.eval sx= .slice (some ⟨b,0,none⟩) rows.length cap∧w.heap[b]?=some (.cells cur e' fz)∧unfrozen cur.size fz∧rows.length≤cap∧cap≤maxLen∧cur.size=cap * te.size∧
     RTs w (okF B (okB ρ s.H w) fr) (cur.toList.take (rows.length * te.size)) rows.flatten∧(fr=true→B≤b)∧∃o x',o∈rm∧s.H o=some x'∧Own ρ o b))→
   (∀(N B:Nat) (M:Nat→Prop) (w0:Start) (ρ:Rho) (s:F_) (a:Act) (w:World),Conc N B M w0 ρ s a w→evL s.L x=ev x→(∀id∈R,s.H id=H id)→
    ∃nv,(∀(P:Program) (w':World),(Builtin.lenOf (a.eval x)).run P w'= .ok news.length w')∧(∀(P:Program) (w':World),w'.heap=w.heap→(Builtin.firstCells te.size news.length (a.eval x)).run P w'= .ok nv.toArray w')∧
    RTs w (okF B (okB ρ s.H w) fr') nv news.flatten∧∀r∈news,r.length=te.size)→fits (rows.length+news.length) te.bytes→(∀id∈R,id∈R')→
   Good P o ev H ⟨.r (.c (.own (d,0,0))),rm.map (fun r=>(r,none))++[((d,0,0),some (.arr (fr && fr') te.size (rows++news)))],some d,R'⟩:=by
  intro rm rows news fr fr' R R' h1 h2 hfit hsub N B M w0 ρ s a w Q K hc hop hR hnew hd hK
  rw[hdst]at hd hK
  obtain⟨g1,g2⟩:=h1 N B M w0 ρ s a w hc (hop sx hops) hR
  obtain⟨nv,f1,f2,f3,f4⟩:=h2 N B M w0 ρ s a w hc (hop x hopx) (fun id hid=>hR id (hsub id hid))
  obtain⟨v,w',ρ',r1,r2⟩:=hc.append fit.und fite fitu.und hkk (hd d rfl) (hnew d rfl) rm rows news fr fr' o.type (a.eval sx) (a.eval x) f4 g1 g2 nv (f1 P) (f2 P) f3 hfit R' (i:=ii)
  have hrun:(execOp a.eval o).run P w= .ok (.value v) w':=by
   simp[execOp,ho,resolve,invoke,builtin,r1]
  unfold Oper.wp
  rw[hrun]
  show K (a.put o.dst _) _
  rw[hdst]
  exact hK _ _ ρ' r2
 have finD:∀(rm rm':List Id) (rows news:List (List DC)) (R R':List Id),(∀o∈rm,o∉rm')→
   (∀(N B:Nat) (M:Nat→Prop) (w0:Start) (ρ:Rho) (s:F_) (a:Act) (w:World),Conc N B M w0 ρ s a w→evL s.L sx=ev sx→(∀id∈R',s.H id=H id)→
    (∀r∈rows,r.length=te.size)∧((a.eval sx= .slice none 0 0∧rows=[])∨∃b cap cur e' fz,a.eval sx= .slice (some ⟨b,0,none⟩) rows.length cap∧w.heap[b]?=some (.cells cur e' fz)∧unfrozen cur.size fz∧rows.length≤cap∧cap≤maxLen∧cur.size=cap * te.size∧
     Cells ρ s w rm (fun c=>c=b) (cur.toList.take (rows.length * te.size)) rows.flatten∧∃o x',o∈rm∧s.H o=some x'∧blk (ρ o)=some b))→
   (∀(N B:Nat) (M:Nat→Prop) (w0:Start) (ρ:Rho) (s:F_) (a:Act) (w:World),Conc N B M w0 ρ s a w→evL s.L x=ev x→(∀id∈rm'++R,s.H id=H id)→
    ∃nv,(∀(P:Program) (w':World),(Builtin.lenOf (a.eval x)).run P w'= .ok news.length w')∧(∀(P:Program) (w':World),w'.heap=w.heap→(Builtin.firstCells te.size news.length (a.eval x)).run P w'= .ok nv.toArray w')∧
    (∀r∈news,r.length=te.size)∧(∀v∈nv,v.oneCell'=true)∧∀bad:Nat→Prop,(∀o x c,o∈rm'→s.H o=some x→Own ρ o c→¬bad c)→Cells ρ s w rm' bad nv news.flatten)→fits (rows.length+news.length) te.bytes→(∀id∈rm'++R,id∈R')→
   Good P o ev H ⟨.r (.c (.own (d,0,0))),(rm++rm').map (fun r=>(r,none))++[((d,0,0),some (.dar te.size (rows++news) none))],some d,R'⟩:=by
  intro rm rm' rows news R R' hne h1 h2 hfit hsub N B M w0 ρ s a w Q K hc hop hR hnew hd hK
  rw[hdst]at hd hK
  obtain⟨g1,g2⟩:=h1 N B M w0 ρ s a w hc (hop sx hops) hR
  obtain⟨nv,f1,f2,f3,f4,f5⟩:=h2 N B M w0 ρ s a w hc (hop x hopx) (fun id hid=>hR id (hsub id hid))
  obtain⟨v,w',ρ',r1,r2⟩:=hc.appendD (ty:=o.type) fit.und fite fitu.und hkk (hd d rfl) (hnew d rfl) rm rm' rows news (a.eval sx) (a.eval x) f3 g1 hne g2 nv (f1 P) (f2 P) f4 f5 hfit R'
  have hrun:(execOp a.eval o).run P w= .ok (.value v) w':=by
   simp[execOp,ho,resolve,invoke,builtin,r1]
  unfold Oper.wp
  rw[hrun]
  show K (a.put o.dst _) _
  rw[hdst]
  exact hK _ _ ρ' r2
 unfold semAppend at h
 split at h
 ·rename_i sz hs
  split at h
  ·obtain⟨news,rm,R,⟨hfit,hK⟩,hsrc⟩:=srcD_spec h
   refine⟨_,hK,?_⟩
   have:=finD [] rm [] news R (rm++R) (by simp) (fun N B M w0 ρ s a w hc hop _=>⟨by simp,.inl ⟨by have:=(hc.eval sx).1;rw[hop,hs]at this;exact this,rfl⟩⟩) hsrc (by simpa using hfit) (fun _ h=>h)
   simpa using this
  ·obtain⟨fr',news,R,⟨hfit,hK⟩,hsrc⟩:=src_ok h
   refine⟨_,hK,?_⟩
   have:=fin [] [] news true fr' R R (fun N B M w0 ρ s a w hc hop _=>⟨by simp,.inl ⟨by have:=(hc.eval sx).1;rw[hop,hs]at this;exact this,rfl⟩⟩) hsrc (by simpa using hfit) (fun _ h=>h)
   simpa using this
 ·rename_i q hs
  split at h
  ·rename_i fr sz rows hq
   obtain⟨rfl,h⟩:=h
   obtain⟨fr',news,R,⟨hfit,hno,hK⟩,hsrc⟩:=src_ok h
   refine⟨_,hK,?_⟩
   have:=fin [q] rows news fr fr' R (q::R) (fun N B M w0 ρ s a w hc hop hR=>by
    have hv:=(hc.eval sx).1
    rw[hop,hs]at hv
    obtain⟨_,e1⟩:=hv
    have hq':s.H q=some (.arr fr te.size rows):=by rw[hR q (by simp)];exact hq
    obtain⟨hu,g⟩:=hc.arr hq'
    refine⟨hu,?_⟩
    rcases g with⟨g1,g2⟩|⟨b,cap,cur,e,fz,g1,g2,g3,g4,g5,g6,g7,g8,g9⟩
    ·exact .inl ⟨e1.trans g1,g2⟩
    ·exact .inr ⟨b,cap,cur,e,fz,e1.trans g1,g2,g3,g4,g5,g6,g7,g9,q,_,by simp,hq',.inl (by rw[g1];rfl)⟩) hsrc hfit (fun id hid=>by simp[hid])
   simpa using this
  ·rename_i sz rows hq
   obtain⟨rfl,h⟩:=h
   obtain⟨news,rm,R,⟨hfit,hno,hK⟩,hsrc⟩:=srcD_spec h
   refine⟨_,hK,?_⟩
   have hno':q∉rm++R:=fun hm=>by rw[memI_iff.2 hm]at hno;cases hno
   have:=finD [q] rm rows news R (q::(rm++R)) (by simpa using fun h=>hno' (by simp[h])) (fun N B M w0 ρ s a w hc hop hR=>by
    have hv:=(hc.eval sx).1
    rw[hop,hs]at hv
    obtain⟨_,e1⟩:=hv
    have hq':s.H q=some (.dar te.size rows none):=by rw[hR q (by simp)];exact hq
    obtain⟨hu,g⟩:=hc.dar hq'
    refine⟨hu,?_⟩
    rcases g with⟨g1,g2,_⟩|⟨b,cap,cur,e,fz,Fp,g1,g2,g3,g4,g5,g6,g7,g8,g9,g10⟩
    ·exact .inl ⟨e1.trans g1,g2⟩
    ·refine .inr ⟨b,cap,cur,e,fz,e1.trans g1,g2,g3,g4,g5,g6,⟨Fp,g9.1,fun p v d hv hd=>?_,fun p c hc'=>⟨⟨q,_,by simp,hq',.inr (g7 p c hc').1⟩,(g7 p c hc').2⟩,g8⟩,q,_,by simp,hq',by rw[g1];rfl⟩
     have:=g9.2 p v d hv hd
     simpa only[holeAt]using this) hsrc hfit (fun id hid=>by simp only[List.mem_cons];exact .inr hid)
   simpa using this
  ·exact h.elim
 ·rename_i q k hs
  split at h
  ·rename_i fr sz rows hq
   obtain⟨rfl,hkl,h⟩:=h
   obtain⟨fr',news,R,⟨hfit,hno,hK⟩,hsrc⟩:=src_ok h
   refine⟨_,hK,?_⟩
   have hkt:(rows.take k).length=k:=by rw[List.length_take];omega
   have:=fin [q] (rows.take k) news fr fr' R (q::R) (fun N B M w0 ρ s a w hc hop hR=>by
    have hv:=(hc.eval sx).1
    rw[hop,hs]at hv
    obtain⟨A,n,c,e0,e1,e2⟩:=hv
    have hq':s.H q=some (.arr fr te.size rows):=by rw[hR q (by simp)];exact hq
    obtain⟨hu,g⟩:=hc.arr hq'
    refine⟨fun r hr=>hu r (List.mem_of_mem_take hr),?_⟩
    rcases g with⟨g1,g2⟩|⟨b,cap,cur,e,fz,g1,g2,g3,g4,g5,g6,g7,g8,g9⟩
    ·subst g2
     have:k=0:=by simpa using hkl
     subst this
     rw[g1]at e0
     injection e0 with x1 x2 x3
     subst x1;subst x3
     exact .inl ⟨e1,by simp⟩
    ·rw[g1]at e0
     injection e0 with x1 x2 x3
     subst x1;subst x2;subst x3
     have hfl:(rows.take k).flatten=rows.flatten.take (k * te.size):=(flatten_take te.size rows k hu hkl).symm
     have hts:=g7.take (k * te.size)
     rw[←hfl,List.take_take]at hts
     have hmin:min (k * te.size) (rows.length * te.size)=k * te.size:=Nat.min_eq_left (Nat.mul_le_mul_right _ hkl)
     rw[hmin]at hts
     exact .inr ⟨b,cap,cur,e,fz,by rw[hkt];exact e1,g2,g3,by omega,g5,g6,by rw[hkt];exact hts,g9,q,_,by simp,hq',.inl (by rw[g1];rfl)⟩) hsrc (by rw[hkt];exact hfit) (fun id hid=>by simp[hid])
   simpa using this
  ·rename_i sz rows hq
   obtain⟨rfl,hkl,h⟩:=h
   obtain⟨news,rm,R,⟨hfit,hno,hK⟩,hsrc⟩:=srcD_spec h
   refine⟨_,hK,?_⟩
   have hno':q∉rm++R:=fun hm=>by rw[memI_iff.2 hm]at hno;cases hno
   have hkt:(rows.take k).length=k:=by rw[List.length_take];omega
   have:=finD [q] rm (rows.take k) news R (q::(rm++R)) (by simpa using fun h=>hno' (by simp[h])) (fun N B M w0 ρ s a w hc hop hR=>by
    have hv:=(hc.eval sx).1
    rw[hop,hs]at hv
    obtain⟨A,n,c,e0,e1,e2⟩:=hv
    have hq':s.H q=some (.dar te.size rows none):=by rw[hR q (by simp)];exact hq
    obtain⟨hu,g⟩:=hc.dar hq'
    refine⟨fun r hr=>hu r (List.mem_of_mem_take hr),?_⟩
    rcases g with⟨g1,g2,_⟩|⟨b,cap,cur,e,fz,Fp,g1,g2,g3,g4,g5,g6,g7,g8,g9,g10⟩
    ·subst g2
     have:k=0:=by simpa using hkl
     subst this
     rw[g1]at e0
     injection e0 with x1 x2 x3
     subst x1;subst x3
     exact .inl ⟨e1,by simp⟩
    ·rw[g1]at e0
     injection e0 with x1 x2 x3
     subst x1;subst x2;subst x3
     have hfl:(rows.take k).flatten=rows.flatten.take (k * te.size):=(flatten_take te.size rows k hu hkl).symm
     have hmin:min (k * te.size) (rows.length * te.size)=k * te.size:=Nat.min_eq_left (Nat.mul_le_mul_right _ hkl)
     have hus:cur.toList.take (k * te.size)=(cur.toList.take (rows.length * te.size)).take (k * te.size):=by rw[List.take_take,hmin]
     refine .inr ⟨b,cap,cur,e,fz,by rw[hkt];exact e1,g2,g3,by omega,g5,g6,⟨Fp,?_,fun p v d hv hd=>?_,fun p c hc'=>⟨⟨q,_,by simp,hq',.inr (g7 p c hc').1⟩,(g7 p c hc').2⟩,g8⟩,q,_,by simp,hq',by rw[g1];rfl⟩
     ·rw[hkt,hus,hfl,List.length_take,g9.1,List.length_take]
     ·rw[hkt,hus,List.getElem?_take]at hv
      rw[hfl,List.getElem?_take]at hd
      split at hv
      ·rename_i hp
       rw[if_pos hp]at hd
       have:=g9.2 p v d hv hd
       simpa only[holeAt]using this
      ·cases hv) hsrc (by rw[hkt];exact hfit) (fun id hid=>by simp only[List.mem_cons];exact .inr hid)
   simpa using this
  ·exact h.elim
 ·exact h.elim
theorem madeCells_eq (z:Array Value)(n:Nat)(h:0 < z.size):(madeCells z (n * z.size)).toList=(List.replicate n z.toList).flatten:=by
 apply List.ext_getElem?
 intro p
 have hl:(List.replicate n z.toList).flatten.length=n * z.size:=by
  rw[flatten_length z.size _ (by intro r hr;rw[(List.mem_replicate.1 hr).2];simp)];simp
 by_cases hp:p < n * z.size
 ·have h1:(madeCells z (n * z.size)).toList[p]?=some (z[p % z.size]'(Nat.mod_lt _ h)):=by
   simp[madeCells,hp]
   rw[getElem!_pos z _ (Nat.mod_lt _ h)]
  rw[h1]
  have hpd:p=(p / z.size) * z.size+p % z.size:=by rw[Nat.mul_comm];exact(Nat.div_add_mod p z.size).symm
  have hlt:p / z.size < n:=(Nat.div_lt_iff_lt_mul h).2 hp
  have:=flatten_get z.size (List.replicate n z.toList) (p / z.size) (p % z.size) z.toList (by intro r hr;rw[(List.mem_replicate.1 hr).2];simp) (by simp[hlt]) (Nat.mod_lt _ h)
  rw[←hpd]at this
  rw[this]
  simp[Nat.mod_lt _ h]
 ·rw[List.getElem?_eq_none (by simp[madeCells];omega),List.getElem?_eq_none (by rw[hl];omega)]
theorem RTs.replicate {ok:Nat→Prop}{vs:List Value}{ts:List Tr}(h:RTs w ok vs ts):∀n:Nat,RTs w ok (List.replicate n vs).flatten (List.replicate n ts).flatten
 | 0=>trivial
 | n+1=>by simp only[List.replicate_succ,List.flatten_cons];exact h.append (RTs.replicate h n)
theorem zfrz_ok {ok':Nat→Prop}:∀{vs:List Value} {cs:List AC} {ts:List Tr} {fr:Bool} {ids:List Id},zMatches vs cs=true→frz (fun _=>none) cs=some (ts,fr,ids)→RTs w ok' vs ts
 | [],[],ts,fr,ids,_,h=>by simp only[frz,Option.some.injEq,Prod.mk.injEq]at h;obtain⟨rfl,_⟩:=h;trivial
 | v::vs,c::cs,ts,fr,ids,hm,h=>by
  have hrc:=zMatches_ok (B:=0) (ρ:=⟨fun _=>default,fun _ _=>False,fun _=>True⟩) (w:=w) (ok:=ok') hm
  simp only[zMatches,Bool.and_eq_true]at hm
  cases c with
  | t x=>
   simp only[frz]at h
   cases hf:frz (fun _=>none) cs with
   | none=>rw[hf]at h;simp at h
   | some p=>
    obtain⟨ts',fr',ids'⟩:=p
    rw[hf]at h
    have ih:=zfrz_ok (ok':=ok') hm.2 hf
    cases x <;> (simp only[Option.some.injEq,Prod.mk.injEq]at h;obtain⟨rfl,rfl,rfl⟩:=h;exact⟨hrc.1,ih⟩)
  | nils sz=>
   simp only[frz]at h
   cases hf:frz (fun _=>none) cs with
   | none=>rw[hf]at h;simp at h
   | some p=>
    obtain⟨ts',fr',ids'⟩:=p
    rw[hf]at h
    simp only[Option.some.injEq,Prod.mk.injEq]at h
    obtain⟨rfl,rfl,rfl⟩:=h
    have hx:v= .slice none 0 0:=hrc.1
    subst hx
    exact⟨.emp _ _ _ (Nat.zero_le _),zfrz_ok hm.2 hf⟩
  | f=>simp[zMatch]at hm
  | own=>simp[frz]at h
  | nilp=>simp[frz]at h
  | sub=>simp[frz]at h
  | ptr=>simp[frz]at h
  | opq=>simp[frz]at h
  | mpv=>simp[frz]at h
 | [],_::_,_,_,_,hm,_=>by simp[zMatches]at hm
 | _::_,[],_,_,_,hm,_=>by simp[zMatches]at hm
theorem zD_ok:∀{vs:List Value} {cs:List AC} {ts:List Tr} {fr:Bool} {ids:List Id},zMatches vs cs=true→frz (fun _=>none) cs=some (ts,fr,ids)→∀(w:World) (F:Nat→Prop) (p:Nat) (v:Value) (t:Tr),vs[p]?=some v→ts[p]?=some t→DT w F v t
 | [],[],ts,fr,ids,_,_,w,F,p,v,t,hv,_=>by simp at hv
 | v0::vs,c::cs,ts,fr,ids,hm,h,w,F,p,v,t,hv,ht=>by
  simp only[zMatches,Bool.and_eq_true]at hm
  have head:∀(t0:Tr) (rest:List Tr),ts=t0::rest→DT w F v0 t0→(∀(q:Nat) (v:Value) (t:Tr),vs[q]?=some v→rest[q]?=some t→DT w F v t)→DT w F v t:=by
   intro t0 rest e h0 hr
   subst e
   cases p with
   | zero=>simp at hv ht;subst hv;subst ht;exact h0
   | succ p=>exact hr p v t (by simpa using hv) (by simpa using ht)
  have h1:=hm.1
  cases hf:frz (fun _=>none) cs with
  | none=>cases c <;> simp[frz,hf]at h
  | some q=>
   obtain⟨ts',fr',ids'⟩:=q
   have hrec:=fun q v t=>zD_ok hm.2 hf w F q v t
   unfold zMatch at h1
   split at h1
   ·simp only[Bool.and_eq_true,decide_eq_true_eq]at h1
    obtain⟨rfl,rfl⟩:=h1
    simp only[frz,hf,Option.some.injEq,Prod.mk.injEq]at h
    exact head _ _ h.1.symm (.int _ _ _) hrec
   ·simp only[beq_iff_eq]at h1;subst h1
    simp only[frz,hf,Option.some.injEq,Prod.mk.injEq]at h
    exact head _ _ h.1.symm (.bool _ _) hrec
   ·rename_i s l
    simp only[Bool.and_eq_true,List.isEmpty_iff]at h1
    obtain⟨h2,rfl⟩:=h1
    have:s=⟨#[]⟩:=by
     obtain⟨d⟩:=s
     have:d=#[]:=by simpa using h2
     rw[this]
    subst this
    simp only[frz,hf,Option.some.injEq,Prod.mk.injEq]at h
    exact head _ _ h.1.symm (.str _ []) hrec
   ·simp only[frz,hf,Option.some.injEq,Prod.mk.injEq]at h
    exact head _ _ h.1.symm (.nil _ _) hrec
   ·simp[frz]at h
   ·simp[frz]at h
   ·simp[frz]at h
   ·simp[frz]at h
   ·cases h1
 | [],_::_,_,_,_,hm,_,_,_,_,_,_,_,_=>by simp[zMatches]at hm
 | _::_,[],_,_,_,hm,_,_,_,_,_,_,_,_=>by simp[zMatches]at hm
theorem Cells.replicate (hc:Conc N B M w0 ρ s a w){bad:Nat→Prop}{vs:List Value}{ds:List DC}(h:Cells ρ s w [] bad vs ds):∀n:Nat,Cells ρ s w [] bad (List.replicate n vs).flatten (List.replicate n ds).flatten
 | 0=>Cells.nil
 | n+1=>by
  simp only[List.replicate_succ,List.flatten_cons]
  exact Cells.append hc h (Cells.replicate hc h n) (by simp)
theorem sound_make {T e:TypeId}{d:Nat}{l c:Operand}{ti te:TI}(hΓ:Γ.chk P=true)(hT:Γ.get T=some ti)(he:ti.elem=some e)(hE:Γ.get e=some te)(hdst:o.dst=some d)
  (ho:o.op= .makeSlice T l c) (h:semMake d te.size te.bytes te.zero (ev l) (ev c) K):∃ef,K ef∧Good P o ev H ef:=by
 obtain⟨ii,dd,fit⟩:=Env.fit hΓ hT
 obtain⟨ie,de,fite⟩:=Env.fit hΓ hE
 have hd:=dslice fit he
 subst hd
 obtain⟨z,hz,hm⟩:=fite.zero
 unfold semMake at h
 split at h
 ·rename_i k n k' m zt _ _ hl hc' hzt
  obtain⟨j,rfl,rfl,hj,hb,hK⟩:=h
  split at hK
  ·refine⟨_,hK,?_⟩
   intro N B M w0 ρ s a w Q K hc hop hR hnew hd hK
   rw[hdst]at hd hK
   have hv1:=(hc.eval l).1
   have hv2:=(hc.eval c).1
   rw[hop l (by simp[ho,Op.operands]),hl]at hv1
   rw[hop c (by simp[ho,Op.operands]),hc']at hv2
   have e1:=inv_int hv1
   have e2:=inv_int hv2
   have hzr:=zMatches_ok (B:=B) (ρ:=ρ) (w:=w) (ok:=okB ρ s.H w) hm
   have hzs:z.cells.size=te.size:=by have h1:=hzr.length;rw[fite.zlen]at h1;simpa using h1
   have hztr:∀ok':Nat→Prop,RTs w ok' z.cells.toList zt:=fun ok'=>zfrz_ok hm hzt
   have hbytes:(ie.bytes:Int) * (j:Int)≤281474976710656:=by
    rw[fite.bytes,Int.mul_comm];omega
   have hrun:=run_make (P:=P) w T e ie z fit.und fite.info hz k k' (j:Int) (j:Int) (by omega) (Int.le_refl _) hbytes (by omega)
   simp only[Int.toNat_natCast,fite.size]at hrun
   have hmc:=madeCells_eq z.cells j (by have:=fite.pos;omega)
   rw[hzs]at hmc
   have hexec:(execOp a.eval o).run P w= .ok (.value (.slice (some ⟨w.heap.size,0,none⟩) j j)) (w.alloc (.cells (madeCells z.cells (j * te.size)) e)):=by
    simp[execOp,ho,e1,e2,hrun]
   have hzl:zt.length=te.size:=by have:=(hztr fun _=>True).length;rw[←this];simpa using hzs
   obtain⟨ρ',h'⟩:=hc.newArr (hd d rfl) (hnew d rfl) [] (w':=w.alloc (.cells (madeCells z.cells (j * te.size)) e)) (Turn.alloc _ _ _) (b:=w.heap.size) (cap:=j) (sz:=te.size) (us:=madeCells z.cells (j * te.size)) (e:=e) (fz:=(0,0)) (rows:=List.replicate j zt) (fr:=true)
    (Nat.le_refl _) (heap_new _ _) (unfrozen_zero _) (by intro r hr;rw[(List.mem_replicate.1 hr).2];exact hzl) (by simp) (by unfold maxLen;omega) (by simp[size_madeCells])
    (fun ok' _ _=>by rw[List.take_of_length_le (by simp[size_madeCells]),hmc];exact(hztr _).replicate j) []
   simp only[List.length_replicate,List.map_nil,List.nil_append]at h'
   unfold Oper.wp
   rw[hexec]
   show K (a.put o.dst _) _
   rw[hdst]
   exact hK _ _ ρ' h'
  ·refine⟨_,hK,?_⟩
   intro N B M w0 ρ s a w Q K hc hop hR hnew hd hK
   rw[hdst]at hd hK
   have hv1:=(hc.eval l).1
   have hv2:=(hc.eval c).1
   rw[hop l (by simp[ho,Op.operands]),hl]at hv1
   rw[hop c (by simp[ho,Op.operands]),hc']at hv2
   have e1:=inv_int hv1
   have e2:=inv_int hv2
   have hzr:=zMatches_ok (B:=B) (ρ:=ρ) (w:=w) (ok:=okB ρ s.H w) hm
   have hzs:z.cells.size=te.size:=by have h1:=hzr.length;rw[fite.zlen]at h1;simpa using h1
   have hztr:∀ok':Nat→Prop,RTs w ok' z.cells.toList zt:=fun ok'=>zfrz_ok hm hzt
   have hbytes:(ie.bytes:Int) * (j:Int)≤281474976710656:=by
    rw[fite.bytes,Int.mul_comm];omega
   have hrun:=run_make (P:=P) w T e ie z fit.und fite.info hz k k' (j:Int) (j:Int) (by omega) (Int.le_refl _) hbytes (by omega)
   simp only[Int.toNat_natCast,fite.size]at hrun
   have hmc:=madeCells_eq z.cells j (by have:=fite.pos;omega)
   rw[hzs]at hmc
   have hexec:(execOp a.eval o).run P w= .ok (.value (.slice (some ⟨w.heap.size,0,none⟩) j j)) (w.alloc (.cells (madeCells z.cells (j * te.size)) e)):=by
    simp[execOp,ho,e1,e2,hrun]
   have hzl:zt.length=te.size:=by have:=(hztr fun _=>True).length;rw[←this];simpa using hzs
   obtain⟨ρ',h'⟩:=hc.newDar (hd d rfl) (hnew d rfl) [] (w':=w.alloc (.cells (madeCells z.cells (j * te.size)) e)) (D:=fun _=>False) (Turn.alloc _ _ _) (b:=w.heap.size) (cap:=j) (sz:=te.size) (us:=madeCells z.cells (j * te.size)) (e:=e) (fz:=(0,0)) (rows:=List.replicate j (zt.map .d))
    (fun _ h=>h.elim) (.inl (Nat.le_refl _)) (heap_new _ _) (unfrozen_zero _) (by intro r hr;rw[(List.mem_replicate.1 hr).2,List.length_map];exact hzl) (by simp) (by unfold maxLen;omega) (by simp[size_madeCells])
    (by
     rw[List.length_replicate,List.take_of_length_le (by simp[size_madeCells]),hmc]
     refine Cells.replicate hc ⟨fun _ _=>False,by rw[List.length_map,hzl];simpa using hzs,fun p v dd hv hdd=>?_,fun _ _ h=>h.elim,fun _ _ _ _ h=>h.elim⟩ j
     rw[List.getElem?_map,Option.map_eq_some_iff]at hdd
     obtain⟨t,ht,rfl⟩:=hdd
     exact zD_ok hm hzt w _ p v t hv ht) []
   simp only[List.length_replicate,List.map_nil,List.nil_append]at h'
   unfold Oper.wp
   rw[hexec]
   show K (a.put o.dst _) _
   rw[hdst]
   exact hK _ _ ρ' h'
 ·exact h.elim
theorem isBytes_ok {ti:TI}(hΓ:Γ.chk P=true)(h:isBytes Γ ti=true):∃e te ie de,ti.elem=some e∧Γ.get e=some te∧te.Fit P e ie de∧de= .int .u8:=by
 unfold isBytes at h
 split at h
 ·rename_i e he
  split at h
  ·rename_i te hE
   obtain⟨ie,de,fite⟩:=Env.fit hΓ hE
   split at h
   ·rename_i hk
    refine⟨e,te,ie,de,he,hE,fite,?_⟩
    have:=fite.kind
    rw[hk]at this
    cases de <;> simp[dKind]at this
    rw[this]
   ·cases h
  ·cases h
 ·cases h
theorem byteRow_flat (bs:List UInt8):(bs.map byteRow).flatten=bs.map fun u=>Tr.int .u8 u.toNat:=by
 induction bs with
 | nil=>rfl
 | cons b bs ih=>simp[byteRow,←ih]
theorem RTs_mkBytes {ok:Nat→Prop}:∀bs:List UInt8,RTs w ok (bs.map fun u=>Value.int .u8 u.toNat) (bs.map fun u=>Tr.int .u8 u.toNat)
 | []=>trivial
 | _::bs=>⟨.int _ _,RTs_mkBytes bs⟩
theorem RTs_bytes {ok:Nat→Prop}:∀{vs:List Value} {bs:List UInt8},RTs w ok vs (bs.map fun u=>Tr.int .u8 u.toNat)→vs=bs.map fun u=>Value.int .u8 u.toNat
 | [],[],_=>rfl
 | v::vs,b::bs,h=>by
  have h1:RT w ok v (.int .u8 b.toNat):=h.1
  have:v= .int .u8 b.toNat:=by cases h1;rfl
  rw[this,RTs_bytes h.2]
  rfl
 | [],_::_,h=>h.elim
 | _::_,[],h=>h.elim
theorem src_slice {esz:Nat}{y:AV}{K2:Bool→List (List Tr)→List Id→Prop}{ok:Nat→Prop}{v:Value}(h:srcRows esz y H K2)(hn:∀t,y≠tS t)(hv:RV B ρ w ok v y):∃A n c,v= .slice A n c:=by
 unfold srcRows at h
 split at h
 ·rename_i b;exact absurd rfl (hn b)
 ·exact⟨_,_,_,hv⟩
 ·have hv:RT w ok v (.lst _ _):=hv
  obtain⟨A,c,e,_⟩:=hv.slice_inv
  exact⟨_,_,_,e⟩
 ·have hv:RT w (okF B ok true) v (.lst _ _):=hv
  obtain⟨A,c,e,_⟩:=hv.slice_inv
  exact⟨_,_,_,e⟩
 ·obtain⟨⟨A,n,c,e⟩,e1⟩:=hv
  exact⟨_,_,_,e1.trans e⟩
 ·obtain⟨A,n,c,_,e1,_⟩:=hv
  exact⟨_,_,_,e1⟩
 ·exact h.elim
theorem sound_convert {Ts Td:TypeId}{d:Nat}{x:Operand}{ts td:TI}(hΓ:Γ.chk P=true)(hTs:Γ.get Ts=some ts)(hTd:Γ.get Td=some td)(hdst:o.dst=some d)
  (ho:o.op= .convert Ts Td x) (h:semConvert Γ ts td d (ev x) H K):∃ef,K ef∧Good P o ev H ef:=by
 obtain⟨is,ds,fits⟩:=Env.fit hΓ hTs
 obtain⟨id,dd,fitd⟩:=Env.fit hΓ hTd
 have hopx:x∈o.op.operands.toList:=by simp[ho,Op.operands]
 unfold semConvert at h
 split at h
 ·rename_i k n hx
  split at h
  ·rename_i k' hk
   have hd:dd= .int k':=by have:=fitd.kind;rw[hk]at this;cases dd <;> simp[dKind]at this;rw[this]
   subst hd
   refine⟨_,h,good_val fun N B M w0 ρ s a w hc hop hR=>?_⟩
   have hv:=(hc.eval x).1
   rw[hop x hopx,hx]at hv
   have e1:=inv_int hv
   refine⟨.int k' (k'.wrap n),?_,.int _ _,by simp[AV.ids,AR.ids,AC.ids]⟩
   have:(convert Ts Td (.int k n)).run P w= .ok (.int k' (k'.wrap n)) w:=by
    simp only[convert,Sem.run_bind,run_underlying fits.und,run_underlying fitd.und,Result.andThen_ok]
    cases ds <;> simp[Conv.intToInt]
   simp only[execOp,ho,e1,Sem.run_bind,this,Result.andThen_ok,Sem.run_pure]
  ·exact h.elim
 ·rename_i t hx
  split at h
  ·rename_i hs
   have hd:dd= .string:=by have:=fitd.str;rw[hs]at this;cases dd <;> simp[dStr]at this ⊢
   subst hd
   refine⟨_,h,good_val fun N B M w0 ρ s a w hc hop hR=>?_⟩
   have hv:=(hc.eval x).1
   rw[hop x hopx,hx]at hv
   have e1:=inv_str hv
   refine⟨.string ⟨t.toArray⟩,?_,.str _,by simp[AV.ids,AR.ids,AC.ids]⟩
   have:(convert Ts Td (.string ⟨t.toArray⟩)).run P w= .ok (.string ⟨t.toArray⟩) w:=by
    simp only[convert,Sem.run_bind,run_underlying fits.und,run_underlying fitd.und,Result.andThen_ok]
    cases ds <;> simp
   simp only[execOp,ho,e1,Sem.run_bind,this,Result.andThen_ok,Sem.run_pure]
  ·split at h
   ·rename_i hbt
    simp only[Bool.and_eq_true]at hbt
    obtain⟨hss,hbt⟩:=hbt
    obtain⟨e,te,ie,de,he,hE,fite,rfl⟩:=isBytes_ok hΓ hbt
    have hsd:ds= .string:=by have:=fits.str;rw[hss]at this;cases ds <;> simp[dStr]at this ⊢
    subst hsd
    have hd:=dslice fitd he
    subst hd
    obtain⟨hlen,hK⟩:=h
    refine⟨_,hK,?_⟩
    intro N B M w0 ρ s a w Q K hc hop hR hnew hd hK
    rw[hdst]at hd hK
    have hv:=(hc.eval x).1
    rw[hop x hopx,hx]at hv
    have e1:=inv_str hv
    have hsz:(⟨t.toArray⟩:ByteArray).size=t.length:=by simp[ByteArray.size]
    have hr:=run_bytes_of_string w Ts Td e ⟨t.toArray⟩ fits.und fitd.und fite.und
    have hge:=grownCap_ge w (⟨t.toArray⟩:ByteArray).size 0 e
    have hle:=grownCap_le_maxLen w (⟨t.toArray⟩:ByteArray).size 0 e (by rw[hsz];unfold maxLen;omega)
    generalize grownCap w (⟨t.toArray⟩:ByteArray).size 0 e=gc at hr hge hle
    rw[hsz]at hr hge
    have hexec:(execOp a.eval o).run P w= .ok (.value (.slice (some ⟨w.heap.size,0,none⟩) t.length gc)) (w.drew.alloc (.cells (bytesRow ⟨t.toArray⟩ gc) e ((bytesRow ⟨t.toArray⟩ gc).size,(bytesRow ⟨t.toArray⟩ gc).size+1))):=by
     simp only[execOp,ho,e1,Sem.run_bind,hr,Result.andThen_ok,Sem.run_pure]
    have hrs:(bytesRow ⟨t.toArray⟩ gc).size=gc:=by simp[bytesRow,ByteArray.size];omega
    have hrl:(bytesRow ⟨t.toArray⟩ gc).toList.take t.length=t.map fun u=>Value.int .u8 u.toNat:=by
     simp only[bytesRow,Array.toList_append]
     rw[List.take_append_of_le_length (by simp)]
     rw[List.take_of_length_le (by simp)]
     simp
    obtain⟨ρ',h'⟩:=hc.newArr (hd d rfl) (hnew d rfl) [] (w':=w.drew.alloc (.cells (bytesRow ⟨t.toArray⟩ gc) e ((bytesRow ⟨t.toArray⟩ gc).size,(bytesRow ⟨t.toArray⟩ gc).size+1))) ((Turn.drew _ w).trans (Turn.alloc _ _ _)) (b:=w.heap.size) (cap:=gc) (sz:=1)
     (us:=bytesRow ⟨t.toArray⟩ gc) (e:=e) (fz:=((bytesRow ⟨t.toArray⟩ gc).size,(bytesRow ⟨t.toArray⟩ gc).size+1)) (rows:=t.map byteRow) (fr:=true) (Nat.le_refl _) (heap_alloc_new w.drew _) (fun p hp h=>by omega) (by intro r hr;obtain⟨u,_,rfl⟩:=List.mem_map.1 hr;rfl) (by simpa using hge) hle
     (by rw[hrs];omega) (fun ok' _ _=>by
      simp only[List.length_map,Nat.mul_one]
      rw[hrl,byteRow_flat]
      exact RTs_mkBytes t) []
    simp only[List.length_map,List.map_nil,List.nil_append]at h'
    unfold Oper.wp
    rw[hexec]
    show K (a.put o.dst _) _
    rw[hdst]
    exact hK _ _ ρ' h'
   ·exact h.elim
 ·rename_i hn1 hn2
  split at h
  ·rename_i hs hbt
   obtain⟨e,te,ie,de,he,hE,fite,rfl⟩:=isBytes_ok hΓ hbt
   have hd:=dslice fits he
   subst hd
   have hd:dd= .string:=by have:=fitd.str;rw[hs]at this;cases dd <;> simp[dStr]at this ⊢
   subst hd
   obtain⟨_,rows,R,⟨bs,rfl,hK⟩,hsrc⟩:=src_ok h
   refine⟨_,hK,good_val fun N B M w0 ρ s a w hc hop hR=>?_⟩
   obtain⟨nv,f1,f2,f3,f4⟩:=hsrc N B M w0 ρ s a w hc (hop x hopx) hR
   rw[byteRow_flat]at f3
   have hnv:=RTs_bytes f3
   subst hnv
   refine⟨.string ⟨bs.toArray⟩,?_,.str _,by simp[AV.ids,AR.ids,AC.ids]⟩
   have hv:=(hc.eval x).1
   rw[hop x hopx]at hv
   obtain⟨A,n,c,e1⟩:=src_slice h (fun t ht=>hn2 t ht) hv
   have hlen:=f1 P w
   rw[e1]at hlen
   simp only[Builtin.lenOf,Sem.run_pure,Result.ok.injEq,and_true,List.length_map]at hlen
   subst hlen
   have hcells:=f2 P w rfl
   rw[e1]at hcells
   have hconv:(convert Ts Td (.slice A bs.length c)).run P w= .ok (.string ⟨bs.toArray⟩) w:=by
    cases A with
    | none=>
     simp only[Builtin.firstCells,Sem.run_pure,Result.ok.injEq,and_true]at hcells
     have:bs=[]:=by
      have:=congrArg Array.size hcells
      simp at this
      exact List.eq_nil_of_length_eq_zero this.symm
     subst this
     rw[run_convert_bytes_string w Ts Td e none _ c fits.und fite.und fitd.und]
     simp[Conv.bytesToString]
     rfl
    | some ad=>
     simp only[Builtin.firstCells,List.length_map,Nat.mul_one]at hcells
     rw[run_convert_bytes_string w Ts Td e (some ad) _ c fits.und fite.und fitd.und]
     rw[run_bytesToString w ad bs.length c (bs.map fun u=>(u.toNat:Int)) (by rw[hcells];simp),foldl_push_byteCells]
     simp
   simp only[execOp,ho,e1,Sem.run_bind,hconv,Result.andThen_ok,Sem.run_pure]
  ·exact h.elim
theorem sound_field {T ft:TypeId}{x:Operand}{f off sz:Nat}{ti to:TI}(hΓ:Γ.chk P=true)(hT:Γ.get T=some ti)(hf:ti.fields[f]?=some (off,sz,ft))(hft:Γ.get ft=some to)
  (ho:o.op= .field T x f) (h:semField off to (ev x) KV):∃v,KV v∧Good P o ev H (.val v []):=by
 obtain⟨i,d,fit⟩:=Env.fit hΓ hT
 obtain⟨fs,F,rfl,h1,h2,h3,_⟩:=fit.field hf
 subst h3
 obtain⟨io,dO,fito⟩:=Env.fit hΓ hft
 have hopx:x∈o.op.operands.toList:=by simp[ho,Op.operands]
 unfold semField at h
 split at h
 ·rename_i cs hx
  have base:∀(N B:Nat) (M:Nat→Prop) (w0:Start) (ρ:Rho) (s:F_) (a:Act) (w:World),Conc N B M w0 ρ s a w→(∀x∈o.op.operands.toList,evL s.L x=ev x)→
    ∃us,a.eval x= .agg us∧RCs B ρ w (okB ρ s.H w) us.toList cs∧∀id∈cs.flatMap AC.ids,s.U id.1:=by
   intro N B M w0 ρ s a w hc hop
   have hv:=hc.eval x
   rw[hop x hopx,hx]at hv
   obtain⟨⟨us,e1,e2⟩,e3⟩:=hv
   exact⟨us,e1,e2,e3⟩
  split at h
  ·rename_i hagg
   split at h
   ·rename_i xs hcut
    obtain⟨g1,g2⟩:=cut_spec hcut
    refine⟨_,h,good_val fun N B M w0 ρ s a w hc hop hR=>?_⟩
    obtain⟨us,e1,e2,e3⟩:=base N B M w0 ρ s a w hc hop
    refine⟨.agg (us.extract off (off+to.size)),?_,⟨_,rfl,?_⟩,?_⟩
    ·simp[execOp,ho,e1,Instr.field,run_underlying fit.und,h1,asAgg,part,run_isAgg fito.und,fito.agg,hagg,run_sizeOf fito.info,fito.size,h2]
    ·rw[g2]
     have:=(e2.drop off).take to.size
     simpa [List.drop_take]using this
    ·rw[g2];exact ids_take_drop e3 off to.size
   ·exact h.elim
  ·rename_i hagg
   split at h
   ·rename_i c hcut
    obtain⟨g1,g2⟩:=cut_spec hcut
    refine⟨_,h,good_val fun N B M w0 ρ s a w hc hop hR=>?_⟩
    obtain⟨us,e1,e2,e3⟩:=base N B M w0 ρ s a w hc hop
    have hc0:cs[off]?=some c:=by
     have:((cs.drop off).take 1)[0]?=some c:=by rw[←g2];rfl
     simpa using this
    obtain⟨u,hu,hru⟩:=e2.get off c hc0
    have hu':us[off]?=some u:=by simpa using hu
    refine⟨u,?_,hru,fun id hid=>e3 id (List.mem_flatMap.2 ⟨c,List.mem_of_getElem? hc0,hid⟩)⟩
    simp[execOp,ho,e1,Instr.field,run_underlying fit.und,h1,asAgg,part,run_isAgg fito.und,fito.agg,hagg,h2,hu']
   ·exact h.elim
 ·exact h.elim
theorem fill_lay (places:Nat→Option (Nat×Nat)){B:Nat}{ρ:Rho}{w:World}{ok:Nat→Prop}{f:Operand→Value}{fs:List (Nat×Nat×TypeId)}(hp:∀i off sz ft,fs[i]?=some (off,sz,ft)→places i=some (off,sz)):
  ∀(parts:List (Nat×Operand)) (zero:List AC) (cells:Array Value) (K:List AC→Prop),(∀p∈parts,RV B ρ w ok (f p.2) (ev p.2))→RCs B ρ w ok cells.toList zero→
   semBuild fs zero (parts.map fun p=>(p.1,ev p.2)) K→∃cs out,K cs∧Instr.fill places cells (parts.map fun p=>(p.1,f p.2))=some out∧RCs B ρ w ok out.toList cs
 | [],zero,cells,K,_,hr,h=>⟨zero,cells,h,by simp[Instr.fill],hr⟩
 |(i,x)::parts,zero,cells,K,hv,hr,h=>by
  simp only[List.map_cons,semBuild]at h
  cases hx:ev x with
  | r ar=>
   rw[hx]at h
   simp only[semBuild]at h
   split at h
   ·rename_i off sz ft hoff
    split at h
    ·rename_i z hbq hlay
     have hs:ar.cells.length=sz:=by simpa using hbq
     have hpl:=hp i off sz ft hoff
     obtain⟨g1,g2⟩:=lay_spec hlay
     have hvx:=hv (i,x) (by simp)
     simp only at hvx
     rw[hx]at hvx
     have hcells:=RR.cells hvx
     have hcl:=hcells.length
     have hrl:=hr.length
     have hfold:(f x).cells.zipIdx.foldl (fun cs (y:Value×Nat)=>cs.setIfInBounds (off+y.2) y.1) cells=(cells.toList.take off++(f x).cells.toList++cells.toList.drop (off+(f x).cells.toList.length)).toArray:=by
      have key:∀(vs:List Value) (k:Nat) (cells:Array Value),off+k+vs.length≤cells.size→
        (vs.zipIdx k).foldl (fun(cs:Array Value) (y:Value×Nat)=>cs.setIfInBounds (off+y.2) y.1) cells=(cells.toList.take (off+k)++vs++cells.toList.drop (off+k+vs.length)).toArray:=by
       intro vs
       induction vs with
       | nil=>intro k cells _;simp
       | cons u vs ih=>
        intro k cells hl
        simp only[List.length_cons]at hl
        simp only[List.zipIdx_cons,List.foldl_cons]
        rw[ih (k+1) _ (by simp;omega)]
        have hlt:off+k < cells.toList.length:=by simp;omega
        have e1:(cells.toList.set (off+k) u).take (off+(k+1))=cells.toList.take (off+k)++[u]:=by
         rw[show off+(k+1)=off+k+1 by omega,List.take_succ_eq_append_getElem (by simp;omega)]
         simp[List.take_set_of_le]
        have e2:(cells.toList.set (off+k) u).drop (off+(k+1)+vs.length)=cells.toList.drop (off+k+(vs.length+1)):=by
         rw[List.drop_set_of_lt (by omega)]
         congr 1;omega
        simp only[Array.toList_setIfInBounds,List.length_cons,e1,e2]
        simp
      have:=key (f x).cells.toList 0 cells (by rw[hcl];simp at hrl;omega)
      rw[←Array.foldl_toList,Array.toList_zipIdx]
      simpa using this
     have hr':RCs B ρ w ok (cells.toList.take off++(f x).cells.toList++cells.toList.drop (off+(f x).cells.toList.length)) z:=by
      rw[g2,hcl]
      exact((hr.take off).append hcells).append (hr.drop _)
     obtain⟨cs,out,k1,k2,k3⟩:=fill_lay places hp parts z (cells.toList.take off++(f x).cells.toList++cells.toList.drop (off+(f x).cells.toList.length)).toArray K (fun p hp'=>hv p (by simp[hp'])) hr' h
     refine⟨cs,out,k1,?_,k3⟩
     simp only[List.map_cons,Instr.fill,hpl]
     have hc1:(f x).cells.size=sz:=by rw[←hs,←hcl];simp
     rw[if_neg (by simp at hrl;simp[hc1];omega),hfold]
     exact k2
    ·exact h.elim
   ·exact h.elim
  | tup=>rw[hx]at h;exact h.elim
  | el=>rw[hx]at h;exact h.elim
  | ro=>rw[hx]at h;exact h.elim
  | unk=>rw[hx]at h;exact h.elim
theorem run_mapM {α β:Type}(g:α→Sem β)(g':α→β)(w:World):∀l:List α,(∀x∈l,(g x).run P w= .ok (g' x) w)→(l.mapM g).run P w= .ok (l.map g') w
 | [],_=>by simp
 | x::l,h=>by
  simp only[List.mapM_cons,Sem.run_bind,h x (by simp),Result.andThen_ok,run_mapM g g' w l (fun y hy=>h y (by simp[hy])),Sem.run_pure,List.map_cons]
theorem sound_build {T:TypeId}{parts:Array (Nat×Operand)}{ti:TI}(hΓ:Γ.chk P=true)(hT:Γ.get T=some ti)(ho:o.op= .build T parts)(hne:ti.fields≠[])
  (h:semBuild ti.fields ti.zero (parts.toList.map fun p=>(p.1,ev p.2)) fun cs=>K (.val (.r (.agg cs)) [])):∃ef,K ef∧Good P o ev H ef:=by
 obtain⟨i,d,fit⟩:=Env.fit hΓ hT
 obtain⟨z,hz,hm⟩:=fit.zero
 have hstruct:∃fs,d= .struct fs∧fs.toList.map (fun f=>(f.offset,P.cellsOf f.type,f.type))=ti.fields∧∀F∈fs.toList,P.cellsOf F.type≠0:=by
  have ho:=fit.fields
  cases d <;> simp only[dFields]at ho <;> try(rw[List.isEmpty_iff]at ho;exact absurd ho hne)
  rename_i fs
  simp only[Bool.and_eq_true,decide_eq_true_eq,List.all_eq_true,Bool.not_eq_true']at ho
  refine⟨fs,rfl,ho.1,fun F hF e=>?_⟩
  have:=ho.2 (F.offset,P.cellsOf F.type,F.type) (by rw[←ho.1];exact List.mem_map.2 ⟨F,hF,rfl⟩)
  simp only[e]at this
  simp at this
 obtain⟨fs,rfl,hfs,hpos⟩:=hstruct
 have hplaces:∀w:World,(fs.mapM (fun f:Field=>(do pure (f.offset,←sizeOf f.type):Sem (Nat×Nat)))).run P w= .ok (fs.map fun f:Field=>(f.offset,P.cellsOf f.type)) w:=by
  intro w
  rw[Array.mapM_eq_mapM_toList]
  have:=run_mapM (P:=P) (fun f:Field=>(do pure (f.offset,←sizeOf f.type):Sem (Nat×Nat))) (fun f:Field=>(f.offset,P.cellsOf f.type)) w fs.toList (fun F hF=>by
   have:=hpos F hF
   unfold Program.cellsOf at this ⊢
   cases hi:P.info? F.type with
   | none=>rw[hi]at this;simp at this
   | some j=>simp[run_sizeOf hi])
  rw[Sem.run_map,this,Result.andThen_ok]
  congr 1
  apply Array.ext'
  simp
 have hpl:∀(i off sz:Nat) (ft:TypeId),ti.fields[i]?=some (off,sz,ft)→(fs.map fun f:Field=>(f.offset,P.cellsOf f.type))[i]?=some (off,sz):=by
  intro i off sz ft hi
  rw[←hfs,List.getElem?_map,Option.map_eq_some_iff]at hi
  obtain⟨F,g1,g2⟩:=hi
  simp only[Prod.mk.injEq]at g2
  have:fs[i]?=some F:=by simpa using g1
  simp[this,g2.1,g2.2.1]
 have key:∀(B:Nat) (ρ:Rho) (w:World) (ok:Nat→Prop) (f:Operand→Value) (K2:List AC→Prop),(∀p∈parts.toList,RV B ρ w ok (f p.2) (ev p.2))→semBuild ti.fields ti.zero (parts.toList.map fun p=>(p.1,ev p.2)) K2→
   ∃cs out,K2 cs∧Instr.fill (fun i=>(fs.map fun f:Field=>(f.offset,P.cellsOf f.type))[i]?) z.cells (parts.toList.map fun p=>(p.1,f p.2))=some out∧RCs B ρ w ok out.toList cs:=by
  intro B ρ w ok f K2 hv h
  exact fill_lay _ hpl parts.toList ti.zero z.cells K2 hv (zMatches_ok hm) h
 have det:∀(l:List (Nat×AV)) (zero:List AC) (K1:List AC→Prop),semBuild ti.fields zero l K1→∃cs,K1 cs∧∀K2:List AC→Prop,K2 cs→semBuild ti.fields zero l K2:=by
  intro l
  induction l with
  | nil=>intro zero K1 h;exact⟨zero,h,fun K2 h=>h⟩
  | cons p l ih=>
   intro zero K1 h
   obtain⟨i,v⟩:=p
   cases v with
   | r ar=>
    simp only[semBuild]at h ⊢
    split at h
    ·rename_i off sz ft hf
     split at h
     ·rename_i z' h1 h2
      obtain⟨cs,g1,g2⟩:=ih _ _ h
      exact⟨cs,g1,fun K2 hk=>g2 K2 hk⟩
     ·exact h.elim
    ·exact h.elim
   | tup=>exact h.elim
   | el=>exact h.elim
   | ro=>exact h.elim
   | unk=>exact h.elim
 obtain⟨cs,hK,hdet⟩:=det _ _ _ h
 refine⟨_,hK,good_val fun N B M w0 ρ s a w hc hop hR=>?_⟩
 have hval:∀p∈parts.toList,RV B ρ w (okB ρ s.H w) (a.eval p.2) (ev p.2)∧∀id∈(ev p.2).ids,s.U id.1:=fun p hp=>by
  have:=hc.eval p.2
  rwa [hop p.2 (by simp only[ho,Op.operands];exact List.mem_map.2 ⟨p,hp,rfl⟩)]at this
 obtain⟨cs',out,rfl,g2,g3⟩:=key B ρ w (okB ρ s.H w) a.eval (fun x=>x=cs) (fun p hp=>(hval p hp).1) (hdet _ rfl)
 refine⟨.agg out,?_,⟨out,rfl,g3⟩,?_⟩
 ·have:(Instr.build T (parts.map fun p=>(p.1,a.eval p.2))).run P w= .ok (.agg out) w:=by
   simp only[Instr.build,Sem.run_bind,run_zeroValue fit.info hz,Result.andThen_ok,run_underlying fit.und,hplaces,Array.toList_map]
   simp only[Array.getElem?_map]at g2 ⊢
   rw[g2]
   rfl
  simp only[execOp,ho,Sem.run_bind,this,Result.andThen_ok,Sem.run_pure]
 ·
  have idsb:∀(l:List (Nat×AV)) (zero cs:List AC),(∀id∈zero.flatMap AC.ids,s.U id.1)→(∀p∈l,∀id∈p.2.ids,s.U id.1)→semBuild ti.fields zero l (fun x=>x=cs)→∀id∈cs.flatMap AC.ids,s.U id.1:=by
   intro l
   induction l with
   | nil=>intro zero cs hz _ h;cases h;exact hz
   | cons p l ih=>
    intro zero cs hz hl h
    obtain⟨i,v⟩:=p
    cases v with
    | r ar=>
     simp only[semBuild]at h
     split at h
     ·split at h
      ·rename_i z' h1 h2
       refine ih z' cs (fun id hid=>?_) (fun p hp=>hl p (by simp[hp])) h
       obtain⟨_,g⟩:=lay_spec h2
       rw[g]at hid
       simp only[List.flatMap_append,List.mem_append]at hid
       rcases hid with(hid|hid)|hid
       ·obtain⟨c,c1,c2⟩:=List.mem_flatMap.1 hid
        exact hz id (List.mem_flatMap.2 ⟨c,List.mem_of_mem_take c1,c2⟩)
       ·refine hl (i,.r ar) (by simp) id ?_
        cases ar with
        | c x=>simpa [AR.cells,AV.ids,AR.ids]using hid
        | agg xs=>exact hid
       ·obtain⟨c,c1,c2⟩:=List.mem_flatMap.1 hid
        exact hz id (List.mem_flatMap.2 ⟨c,List.mem_of_mem_drop c1,c2⟩)
      ·exact h.elim
     ·exact h.elim
    | tup=>exact h.elim
    | el=>exact h.elim
    | ro=>exact h.elim
    | unk=>exact h.elim
  exact idsb _ _ _ (by rw[zMatches_ids hm];simp) (fun p hp=>by
   obtain⟨q,hq,rfl⟩:=List.mem_map.1 hp
   exact(hval q hq).2) (hdet _ rfl)
end
end Go.Sim
namespace Go.Sim
open Go.RowKit
section
variable {P:Program} {Γ:Env} {N B:Nat} {M:Nat→Prop} {w0:Start} {ρ:Rho} {s:F_} {a:Act} {w:World} {o:Oper} {ev:Operand→AV} {H:Id→Option AO} {K:Eff→Prop} {KV:AV→Prop}
theorem semRowsD_spec:∀(parts:List (Nat×Operand)) (n:Nat) (K:List (List DC)→List Id→Prop),semRowsD H n (parts.map fun p=>(p.1,ev p.2)) K→
  ∃rows ids,K rows ids∧rows.length=parts.length∧(∀(j:Nat) (p:Nat×Operand),parts[j]?=some p→p.1=n+j)∧
   ∀(N B:Nat) (M:Nat→Prop) (w0:Start) (ρ:Rho) (s:F_) (a:Act) (w:World),Conc N B M w0 ρ s a w→(∀o∈ids,s.H o=H o)→ids.Nodup→
    (∀p∈parts,RV B ρ w (okB ρ s.H w) (a.eval p.2) (ev p.2))→Cells ρ s w ids (fun _=>False) ((parts.map fun p=>(a.eval p.2).cells.toList).flatten) rows.flatten∧
     ∀(j:Nat) (p:Nat×Operand) (row:List DC),parts[j]?=some p→rows[j]?=some row→(a.eval p.2).cells.size=row.length
 | [],n,K,h=>⟨[],[],h,rfl,by simp,fun N B M w0 ρ s a w _ _ _ _=>⟨Cells.nil,by simp⟩⟩
 |(i,x)::parts,n,K,h=>by
  simp only[List.map_cons,semRowsD]at h
  cases hx:ev x with
  | r ar=>
   rw[hx]at h
   simp only[semRowsD]at h
   split at h
   ·rename_i hn
    have hin:i=n:=by simpa using hn
    obtain⟨ds,ids0,h0,hds⟩:=frzD_spec _ _ h
    obtain⟨rows,ids,h1,h2,h3,h4⟩:=semRowsD_spec parts (n+1) _ h0
    refine⟨ds::rows,ids0++ids,h1,by simp[h2],fun j p hj=>?_,fun N B M w0 ρ s a w hc hH hnd hf=>?_⟩
    ·cases j with
     | zero=>simp at hj;subst hj;simpa using hin
     | succ j=>have:=h3 j p (by simpa using hj);omega
    ·have hv:=hf (i,x) (by simp)
     simp only at hv
     rw[hx]at hv
     have c1:=hds hc (fun o ho=>hH o (by simp[ho])) (List.nodup_append.1 hnd).1 _ (RR.cells hv)
     obtain⟨c2,c3⟩:=h4 N B M w0 ρ s a w hc (fun o ho=>hH o (by simp[ho])) (List.nodup_append.1 hnd).2.1 (fun p hp=>hf p (by simp[hp]))
     refine⟨?_,fun j p row hj hr=>?_⟩
     ·simp only[List.map_cons,List.flatten_cons]
      exact Cells.append hc c1 c2 fun o ho ho'=>(List.nodup_append.1 hnd).2.2 o ho o ho' rfl
     ·cases j with
      | zero=>
       simp at hj hr
       subst hj;subst hr
       obtain⟨_,g,_⟩:=c1
       simpa using g
      | succ j=>exact c3 j p row (by simpa using hj) (by simpa using hr)
   ·exact h.elim
  | tup=>rw[hx]at h;exact h.elim
  | el=>rw[hx]at h;exact h.elim
  | ro=>rw[hx]at h;exact h.elim
  | unk=>rw[hx]at h;exact h.elim
 termination_by parts=>parts.length
theorem sound_buildSliceD {T e:TypeId}{d n:Nat}{parts:Array (Nat×Operand)}{ti te:TI}(hΓ:Γ.chk P=true)(hT:Γ.get T=some ti)(he:ti.elem=some e)(hE:Γ.get e=some te)(hdst:o.dst=some d)(ho:o.op= .buildSlice T n parts)
  (hn:parts.toList.length=n)
  (h:semRowsD H 0 (parts.toList.map fun p=>(p.1,ev p.2)) fun rows ids=>(∀r∈rows,r.length=te.size)∧n * te.size≤16777216∧nodupI ids=true∧K ⟨.r (.c (.own (d,0,0))),ids.map (fun r=>(r,none))++[((d,0,0),some (.dar te.size rows none))],some d,ids⟩):
  ∃ef,K ef∧Good P o ev H ef:=by
 obtain⟨ii,dd,fit⟩:=Env.fit hΓ hT
 obtain⟨ie,de,fite⟩:=Env.fit hΓ hE
 have hd:=dslice fit he
 subst hd
 obtain⟨z,hz,hm⟩:=fite.zero
 obtain⟨rows,ids,⟨hu,hsz,hnd,hK⟩,hrl,hidx,hrows⟩:=semRowsD_spec parts.toList 0 _ h
 refine⟨_,hK,?_⟩
 intro N B M w0 ρ s a w Q K hc hop hR hnew hd hK
 rw[hdst]at hd hK
 have hval:∀p∈parts.toList,RV B ρ w (okB ρ s.H w) (a.eval p.2) (ev p.2):=fun p hp=>by
  have:=(hc.eval p.2).1
  rwa [hop p.2 (by simp only[ho,Op.operands];exact List.mem_map.2 ⟨p,hp,rfl⟩)]at this
 let vss:List (List Value):=parts.toList.map fun p=>(a.eval p.2).cells.toList
 have hvl:vss.length=rows.length:=by simp[vss,hrl]
 obtain⟨hcells,hcs⟩:=hrows N B M w0 ρ s a w hc hR (nodupI_iff.1 hnd) hval
 have hcell:∀(j:Nat) (p:Nat×Operand),parts.toList[j]?=some p→p.1=j∧(a.eval p.2).cells.size=te.size:=by
  intro j p hj
  have hjl:j < parts.toList.length:=by
   rcases Nat.lt_or_ge j parts.toList.length with h'|h'
   ·exact h'
   ·rw[List.getElem?_eq_none h']at hj;cases hj
  have hjr:rows[j]?=some (rows[j]'(by omega)):=List.getElem?_eq_getElem (by omega)
  have:=hcs j p _ hj hjr
  rw[hu _ (List.mem_of_getElem? hjr)]at this
  exact⟨by simpa using hidx j p hj,this⟩
 let init:Array Value:=(Array.range (n * te.size)).map (fun i=>(if n * te.size=0 then #[]else z.cells)[i % (if n * te.size=0 then #[]else z.cells).size]!)
 have hinit:init.size=n * te.size:=by simp[init]
 have hfill:Instr.fill (fun i=>some (i * te.size,te.size)) init ((parts.map fun p=>(p.1,a.eval p.2)).toList)=some vss.flatten.toArray:=by
  have:=fill_rows te.size ((parts.map fun p=>(p.1,a.eval p.2)).toList) 0 [] init.toList (by simp) (fun j p hj=>by
   simp only[Array.toList_map,List.getElem?_map,Option.map_eq_some_iff]at hj
   obtain⟨q,g1,rfl⟩:=hj
   obtain⟨g2,g3⟩:=hcell j q g1
   exact⟨by simp[g2],g3⟩) (by simp only[Array.length_toList,hinit,Array.toList_map,List.length_map];rw[←hn];simp)
  simp only[List.nil_append,Array.toArray_toList]at this
  rw[this]
  simp[vss,List.flatMap_def];rfl
 have hrun:(execOp a.eval o).run P w= .ok (.value (.slice (some ⟨w.heap.size,0,none⟩) n n)) (w.alloc (.cells vss.flatten.toArray e)):=by
  have:=run_buildSlice (w:=w) (n:=n) (i:=ii) fit.und fite.info hz (by rw[fite.size];exact hsz) (parts.map fun p=>(p.1,a.eval p.2)) vss.flatten.toArray (by rw[fite.size];exact hfill)
  simp only[execOp,ho,Sem.run_bind,this,Result.andThen_ok,Sem.run_pure]
 have hlen:rows.length=n:=by rw[hrl,hn]
 have hnmax:n≤maxLen:=by
  have:=fite.pos
  have h1:n * 1≤n * te.size:=Nat.mul_le_mul_left _ (by omega)
  unfold maxLen;omega
 have hfl:vss.flatten.length=n * te.size:=by
  obtain⟨_,g,_⟩:=hcells
  rw[show vss.flatten.length=rows.flatten.length from g,flatten_length te.size rows hu,hlen]
 obtain⟨ρ',h'⟩:=hc.newDar (hd d rfl) (hnew d rfl) ids (w':=w.alloc (.cells vss.flatten.toArray e)) (D:=fun _=>False) (Turn.alloc _ _ _) (b:=w.heap.size) (cap:=n) (sz:=te.size) (us:=vss.flatten.toArray) (e:=e) (fz:=(0,0)) (rows:=rows)
  (fun _ h=>h.elim) (.inl (Nat.le_refl _)) (heap_new _ _) (unfrozen_zero _) hu (by omega) hnmax (by simp only[List.size_toArray,hfl]) (by
   rw[hlen,List.take_of_length_le (by simp only[hfl];omega)]
   obtain⟨Fp,c1,c2,c3,c4⟩:=hcells
   refine⟨Fp,c1,c2,fun p c hcc=>⟨(c3 p c hcc).1,fun e=>?_⟩,c4⟩
   obtain⟨⟨o1,x1,m1,m2,m3⟩,_⟩:=c3 p c hcc
   have:=(hc.rng o1 x1 c m2 m3).1
   omega) ids
 rw[hlen]at h'
 unfold Oper.wp
 rw[hrun]
 show K (a.put o.dst _) _
 rw[hdst]
 exact hK _ _ ρ' h'
end
end Go.Sim
namespace Go.Sim
open Go.RowKit
section
variable {P:Program} {Γ:Env} {N B:Nat} {M:Nat→Prop} {w0:Start} {ρ:Rho} {s:F_} {a:Act} {w:World} {o:Oper} {ev:Operand→AV} {H:Id→Option AO} {K:Eff→Prop} {KV:AV→Prop}
theorem Conc.upd (h:Conc N B M w0 ρ s a w){q:Id}{x x':AO}(hq:s.H q=some x){b:Nat}(hb:blk (ρ q)=some b)(rm:List Id)(hqr:q∉rm)(F:Nat→Prop)(hF:∀c,F c→∃o x,o∈rm∧s.H o=some x∧Own ρ o c){w':World}(hT:Turn (fun k=>k=b) w w')(hxi:∀id∈x'.ids,s.U id.1)
  (hobj:∀(ρ':Rho) (ok':Nat→Prop),(∀o,ρ' o=ρ o)→(∀c,ρ.fp q c∨F c→ρ'.fp q c)→(∀c,okB ρ s.H w c→w'.heap[c]?=w.heap[c]?∧ok' c)→(∀o x c,o∈rm→s.H o=some x→Own ρ o c→¬F c→w'.heap[c]?=w.heap[c]?∧ok' c)→
   (∀c,F c→w'.heap[c]?=w.heap[c]?∧c≠b)→(∀c,ρ.fp q c→c≠b→w'.heap[c]?=w.heap[c]?)→RO B ρ' w' ok' q x') {dst:Option Nat} (hd:∀d,dst=some d→d < N) (vv:Value) (R:List Id):
  ∃ρ',Conc N B M w0 ρ' (s.app dst ⟨.unk,rm.map (fun r=>(r,none))++[(q,some x')],none,R⟩) (a.put dst vv) w':=by
 let ρ':Rho:=⟨ρ.val,fun o c=>ρ.fp o c∨(o=q∧F c),ρ.al⟩
 have hown:∀o c,Own ρ' o c↔(Own ρ o c∨(o=q∧F c)):=fun o c=>by
  show(blk (ρ o)=some c∨(ρ.fp o c∨(o=q∧F c)))↔_
  unfold Own;rw[or_assoc]
 have hob:Own ρ q b:= .inl hb
 have hr:=h.rng q x b hq hob
 have hHe:=updH_rm rm s.H q (some x')
 have hFb:∀c,F c→c≠b:=fun c hc e=>by
  obtain⟨o,x1,g1,g2,g3⟩:=hF c hc
  subst e;exact h.sep o q x1 x c g2 hq (fun e=>hqr (e ▸ g1)) g3 hob
 have hkr:∀o x1 c,o∈rm→s.H o=some x1→Own ρ o c→¬F c→w'.heap[c]?=w.heap[c]?∧okB ρ' (updH s.H (rm.map (fun r=>(r,none))++[(q,some x')])) w' c:=by
  intro o x1 c h1 h2 h3 hnF
  have hlt:=(h.rng o x1 c h2 h3).1
  have hne:c≠b:=fun e=>by subst e;exact h.sep o q x1 x c h2 hq (fun e=>hqr (e ▸ h1)) h3 hob
  refine⟨hT.block c hlt hne,⟨Nat.lt_of_lt_of_le hlt hT.size,h.alw c (h.rng o x1 c h2 h3).2⟩,fun o1 x2 h5 h6=>?_⟩
  rw[hHe]at h5
  rw[hown]at h6
  rcases h6 with h6|⟨_,h6⟩
  ·by_cases e:o1=q
   ·subst e;exact h.sep o o1 x1 x c h2 hq (fun e3=>hqr (e3 ▸ h1)) h3 h6
   ·simp only[if_neg e]at h5
    by_cases e2:o1∈rm
    ·simp[e2]at h5
    ·simp only[if_neg e2]at h5
     exact h.sep o o1 x1 x2 c h2 h5 (fun e3=>e2 (e3 ▸ h1)) h3 h6
  ·exact hnF h6
 refine⟨ρ',?_⟩
 have:=h.step (fun k=>k=b) (q::rm) (w':=w') (ρ':=ρ') (H':=updH s.H (rm.map (fun r=>(r,none))++[(q,some x')])) (U':=s.U) (a':=a.put dst vv) (L':=putL s.L dst .unk) hT (by rw[put_size];exact h.size) (by rw[put_defers];exact h.defers)
  (fun _ _=>rfl) (fun o x1 ho _=>by
   funext c
   have:o≠q:=fun e=>ho (by simp[e])
   exact propext ⟨fun hc=>hc.elim id fun hc=>absurd hc.1 this,.inl⟩) rfl (fun o ho=>by
   rw[hHe]
   simp only[List.mem_cons,not_or]at ho
   simp only[if_neg ho.1,if_neg ho.2]) (fun _ h=>h)
  (fun c hc e=>by subst e;exact hc.2 q x hq hob)
  (fun o x1 c h1 h2 h3 e=>by subst e;exact h.sep o q x1 x c h1 hq (fun e=>h2 (by simp[e])) h3 hob)
  (fun c hc hM e=>by
   subst e
   rcases hr.2 with g|g
   ·omega
   ·exact hM g)
  (fun o x1 c h1 h2 h3=>by
   rw[hHe]at h2
   by_cases e:o=q
   ·subst e
    rw[hown]at h3
    rcases h3 with h3|⟨_,h3⟩
    ·have:=h.rng o x c hq h3
     exact⟨Nat.lt_of_lt_of_le this.1 hT.size,this.2,.inr ⟨o,x,hq,by simp,h3⟩⟩
    ·obtain⟨o',x2,g1,g2,g3⟩:=hF c h3
     have:=h.rng o' x2 c g2 g3
     exact⟨Nat.lt_of_lt_of_le this.1 hT.size,this.2,.inr ⟨o',x2,g2,by simp[g1],g3⟩⟩
   ·simp only[List.mem_cons,e,false_or]at h1
    simp only[if_neg e,if_pos h1]at h2
    cases h2)
  (fun o o' x1 x2 c h1 h2 h3 h4 hne=>by
   rw[hHe]at h3 h4
   exfalso
   by_cases e:o=q
   ·have e':o'≠q:=fun e2=>hne (e.trans e2.symm)
    simp only[List.mem_cons,e',false_or]at h2
    simp only[if_neg e',if_pos h2]at h4
    cases h4
   ·simp only[List.mem_cons,e,false_or]at h1
    simp only[if_neg e,if_pos h1]at h3
    cases h3)
  (fun hk o x1 h1 h2=>by
   rw[hHe]at h2
   by_cases e:o=q
   ·subst e
    simp only[if_true,Option.some.injEq]at h2
    subst h2
    refine⟨hobj ρ' _ (fun _=>rfl) (fun c hc=>hc.elim .inl fun hc=> .inr ⟨rfl,hc⟩) hk hkr (fun c hc=>?_) (fun c hc hne=>hT.block c (h.rng o x c hq (.inr hc)).1 hne),(h.usedH o x hq).1,hxi⟩
    obtain⟨o',x2,g1,g2,g3⟩:=hF c hc
    exact⟨hT.block c (h.rng o' x2 c g2 g3).1 (hFb c hc),hFb c hc⟩
   ·simp only[List.mem_cons,e,false_or]at h1
    simp only[if_neg e,if_pos h1]at h2
    cases h2)
  (fun hk t=>h.slots hd (av:= .unk) trivial (by simp[AV.ids]) t)
 exact this.congr (fun _=>rfl) (fun _=>rfl) (fun n=>by simp[F_.app])
theorem run_storeAt {T:TypeId}{ti:TI}{i:TypeInfo}{d:TypeDesc}(fit:ti.Fit P T i d)(b off:Nat)(v:Value)(hl:v.cells.size=ti.size){cur:Array Value}{e:TypeId}{fz:Nat×Nat}(hb:w.heap[b]?=some (.cells cur e fz))(hz:unfrozen cur.size fz)
  (hfit:off+ti.size≤cur.size) (h1:∀u∈v.cells.toList,u.oneCell'=true):(Instr.storeAt T (.pointer (some ⟨b,off,none⟩)) v).run P w= .ok () (w.setCells b off v.cells.toList):=by
 have hll:v.cells.toList.length=ti.size:=by simpa using hl
 have hst:=run_storeCells_cells (P:=P) b off v.cells.toList 0 w (fun j hj=>by
   rw[cell_of_row w b _ cur e fz hb]
   simp only[Nat.add_zero]
   rw[Array.getElem?_eq_getElem (by omega)];rfl) (fun j hj=>by
   simp only[World.frozen?,hb,Nat.add_zero]
   have:=hz (off+j) (by omega)
   simp only[Bool.and_eq_false_iff,decide_eq_false_iff_not,Nat.not_le,Nat.not_lt]
   omega) h1
 simp only[Nat.add_zero]at hst
 simp[Instr.storeAt,Instr.sureAddr,storeVar,run_sizeOf fit.info,fit.size,hl,hst]
theorem lay_ids {U:Nat→Prop}{off:Nat}{xs l l':List AC}(h:lay off xs l=some l')(h1:∀id∈xs.flatMap AC.ids,U id.1)(h2:∀id∈l.flatMap AC.ids,U id.1):∀id∈l'.flatMap AC.ids,U id.1:=by
 obtain⟨_,rfl⟩:=lay_spec h
 intro id hid
 simp only[List.flatMap_append,List.mem_append]at hid
 rcases hid with(hid|hid)|hid
 ·obtain⟨c,c1,c2⟩:=List.mem_flatMap.1 hid
  exact h2 id (List.mem_flatMap.2 ⟨c,List.mem_of_mem_take c1,c2⟩)
 ·exact h1 id hid
 ·obtain⟨c,c1,c2⟩:=List.mem_flatMap.1 hid
  exact h2 id (List.mem_flatMap.2 ⟨c,List.mem_of_mem_drop c1,c2⟩)
theorem ar_ids {ar:AR}:∀id∈ar.cells.flatMap AC.ids,id∈(AV.r ar).ids:=by
 intro id hid
 cases ar with
 | c x=>simpa [AR.cells,AV.ids,AR.ids]using hid
 | agg xs=>exact hid
theorem flatten_lay {α:Type}{sz off:Nat}{row row' ts:List α}(l1:off+ts.length≤row.length)(l2:row'=row.take off++ts++row.drop (off+ts.length)):∀(rows:List (List α)) (i:Nat),(∀r∈rows,r.length=sz)→rows[i]?=some row→
  (rows.set i row').flatten=rows.flatten.take (i * sz+off)++ts++rows.flatten.drop (i * sz+off+ts.length)
 | [],i,_,h=>by simp at h
 | r::rows,0,hu,h=>by
  simp at h;subst h
  simp only[List.set_cons_zero,List.flatten_cons,Nat.zero_mul,Nat.zero_add]
  rw[List.take_append_of_le_length (by omega),l2]
  rw[List.drop_append_of_le_length (by omega)]
  simp
 | r::rows,i+1,hu,h=>by
  have hr:=hu r (by simp)
  simp only[List.set_cons_succ,List.flatten_cons]
  rw[flatten_lay l1 l2 rows i (fun r hr=>hu r (by simp[hr])) (by simpa using h)]
  have e1:(i+1) * sz+off=r.length+(i * sz+off):=by rw[Nat.add_mul,hr];omega
  rw[e1,List.take_length_add_append,Nat.add_assoc r.length,List.drop_length_add_append]
  simp
theorem get_laid {α:Type}{A ys:List α}{k:Nat}(h:k+ys.length≤A.length)(p:Nat):(A.take k++ys++A.drop (k+ys.length))[p]?=if p < k then A[p]? else if p < k+ys.length then ys[p - k]? else A[p]?:=by
 have hk:(A.take k).length=k:=by rw[List.length_take];omega
 have hk2:(A.take k++ys).length=k+ys.length:=by rw[List.length_append,hk]
 split
 ·rw[List.getElem?_append_left (by omega),List.getElem?_append_left (by omega),List.getElem?_take];simp_all
 ·split
  ·rw[List.getElem?_append_left (by omega),List.getElem?_append_right (by omega),hk]
  ·rw[List.getElem?_append_right (by omega),hk2,List.getElem?_drop];congr 1;omega
theorem store_dar {T:TypeId}{x y:Operand}{ti:TI}{i:TypeInfo}{d:TypeDesc}(fit:ti.Fit P T i d)(ho:o.op= .store T x y)(hopx:x∈o.op.operands.toList)(hopy:y∈o.op.operands.toList){ar:AR}{q:Id}{sz i' off:Nat}{rows:List (List DC)}{hole:Option (Nat×Nat×Id)}{row:List DC}
  (hy:ev y= .r ar) (hx:ev x= .el q sz i' off) (hq:H q=some (.dar sz rows hole)) (hlen:ar.cells.length=ti.size) (hrow:rows[i']?=some row) (hh:∀p,(p < i' * sz+off∨i' * sz+off+ti.size≤p)→holeAt sz hole p=none)
  (h:frzD H ar.cells fun cs ids=>nodupI (q::ids)=true∧(match lay off cs row with
   | some row'=>K ⟨.unk,ids.map (fun r=>(r,none))++[(q,some (.dar sz (rows.set i' row') none))],none,q::ids⟩
   | none=>False)):∃e,K e∧Good P o ev H e:=by
 obtain⟨ds,ids,⟨hnd,h⟩,hds⟩:=frzD_spec _ _ h
 rw[nodupI_iff]at hnd
 obtain⟨hqi,hnd⟩:=List.nodup_cons.1 hnd
 split at h
 rotate_left
 ·exact h.elim
 rename_i row' hlay
 refine⟨_,h,?_⟩
 intro N B M w0 ρ s a w Q K hc hop hR hnew hd hK
 have hq':s.H q=some (.dar sz rows hole):=by rw[hR q (by simp)];exact hq
 obtain⟨hu,g⟩:=hc.dar hq'
 have hvx:=(hc.eval x).1
 rw[hop x hopx,hx]at hvx
 obtain⟨b',n,c,e1,e2,e3⟩:=hvx
 have hvy:=hc.eval y
 rw[hop y hopy,hy]at hvy
 have hcy:=RR.cells hvy.1
 obtain⟨Fn,f1,f2,f3,f4⟩:=hds hc (fun o ho=>hR o (by simp[ho])) hnd _ hcy
 have hcl:(a.eval y).cells.size=ti.size:=by rw[←hlen,←hcy.length];simp
 obtain⟨l1,l2⟩:=lay_spec hlay
 have hrl:row.length=sz:=hu row (List.mem_of_getElem? hrow)
 have hil:i' < rows.length:=by
  rcases Nat.lt_or_ge i' rows.length with h'|h'
  ·exact h'
  ·rw[List.getElem?_eq_none h']at hrow;cases hrow
 rcases g with⟨g1,g2,_⟩|⟨b,cap,cur,e,fz,Fp,g1,g2,g3,g4,g5,g6,g7,g8,g9,g10⟩
 ·subst g2;simp at hil
 ·rw[g1]at e1
  injection e1 with e1 e1' e1'';injection e1 with e1;injection e1 with e1
  subst e1
  have hyl0:(a.eval y).cells.toList.length=ti.size:=by simpa using hcl
  have hmul:(i'+1) * sz≤cap * sz:=Nat.mul_le_mul_right _ (by omega)
  have hmul2:(i'+1) * sz=i' * sz+sz:=by rw[Nat.add_mul];omega
  have hrun:=run_storeAt (w:=w) fit b (i' * sz+off) (a.eval y) hcl g2 g3 (by omega) hcy.one
  obtain⟨cur',c1,c2,c3⟩:=setCells_heap b e fz (a.eval y).cells.toList (i' * sz+off) w cur g2 (by simp[hcl];omega)
  have hrow'l:row'.length=sz:=by rw[l2];simp;omega
  have hflat:=flatten_lay l1 l2 rows i' hu hrow
  have hrfl:=flatten_length sz rows hu
  have hle2:(i'+1) * sz≤rows.length * sz:=Nat.mul_le_mul_right _ hil
  have hle3:rows.length * sz≤cap * sz:=Nat.mul_le_mul_right _ g4
  have hcurl:cur.toList.length=cap * sz:=by simpa using g6
  let Fq:Nat→Nat→Prop:=fun p c=>if p < i' * sz+off then Fp p c else if p < i' * sz+off+ds.length then Fn (p - (i' * sz+off)) c else Fp p c
  have hqo:Own ρ q b:= .inl (by rw[g1];rfl)
  have Fq_cases:∀p c,Fq p c→(Fp p c∧¬(i' * sz+off≤p∧p < i' * sz+off+ds.length))∨(Fn (p - (i' * sz+off)) c∧i' * sz+off≤p∧p < i' * sz+off+ds.length):=by
   intro p c hpc
   simp only[Fq]at hpc
   split at hpc
   ·exact .inl ⟨hpc,by omega⟩
   ·split at hpc
    ·exact .inr ⟨hpc,by omega,by omega⟩
    ·exact .inl ⟨hpc,by omega⟩
  have apart:∀p p' c,Fp p c→¬Fn p' c:=by
   intro p p' c h1 h2
   obtain⟨⟨o,x1,k1,k2,k3⟩,_⟩:=f3 p' c h2
   exact hc.sep o q x1 _ c k2 hq' (fun e=>hqi (e ▸ k1)) k3 (.inr (g7 p c h1).1)
  obtain⟨ρ',this⟩:=hc.upd hq' (x':= .dar sz (rows.set i' row') none) (b:=b) (by rw[g1];rfl) ids hqi (fun c=>∃p,Fn p c) (fun c hcc=>by obtain⟨p,hp⟩:=hcc;exact(f3 p c hp).1) (setCells_turn b _ (i' * sz+off) w) (by simp[AO.ids]) (fun ρ' ok' hρ hfp hk hkr hkF hkq=>by
   refine⟨fun r hr=>?_,.inr ⟨b,cap,cur',e,fz,Fq,by rw[hρ,g1,List.length_set],c1,by rw[c2];exact g3,by rw[List.length_set];exact g4,g5,by rw[c2];exact g6,fun p c hpc=>?_,fun p p' c hne h1 h2=>?_,?_,fun p v d hv hd=>?_⟩⟩
   ·rcases List.mem_or_eq_of_mem_set hr with h'|h'
    ·exact hu r h'
    ·rw[h'];exact hrow'l
   ·rcases Fq_cases p c hpc with⟨h1,_⟩|⟨h1,_⟩
    ·exact⟨hfp c (.inl (g7 p c h1).1),(g7 p c h1).2⟩
    ·exact⟨hfp c (.inr ⟨_,h1⟩),(hkF c ⟨_,h1⟩).2⟩
   ·rcases Fq_cases p c h1 with⟨h1,m1⟩|⟨h1,m1⟩ <;> rcases Fq_cases p' c h2 with⟨h2,m2⟩|⟨h2,m2⟩
    ·exact g8 p p' c hne h1 h2
    ·exact apart _ _ _ h1 h2
    ·exact apart _ _ _ h2 h1
    ·exact f4 _ _ c (by omega) h1 h2
   ·rw[List.length_set,hflat,c3];simp only[List.length_append,List.length_take,List.length_drop];rw[←f1];omega
   ·simp only[holeAt]
    rw[hflat,get_laid (by omega)]at hd
    rw[List.length_set,List.getElem?_take,c3,get_laid (by omega),f1]at hv
    split at hv
    rotate_left
    ·cases hv
    rename_i hp
    by_cases q1:p < i' * sz+off
    ·rw[if_pos q1]at hv hd
     have:=g9.2 p v d (by rw[List.getElem?_take,if_pos hp];exact hv) hd
     rw[hh p (.inl q1)]at this
     refine this.keep hk fun c hc'=>⟨hkq c (g7 p c hc').1 (g7 p c hc').2,?_⟩
     simp only[Fq,if_pos q1];exact hc'
    ·rw[if_neg q1]at hv hd
     by_cases q2:p < i' * sz+off+ds.length
     ·rw[if_pos q2]at hv hd
      refine(f2 _ v d hv hd).keep hk fun c hc'=>⟨(hkF c ⟨_,hc'⟩).1,?_⟩
      simp only[Fq,if_neg q1,if_pos q2];exact hc'
     ·rw[if_neg q2]at hv hd
      have:=g9.2 p v d (by rw[List.getElem?_take,if_pos hp];exact hv) hd
      rw[hh p (.inr (by omega))]at this
      refine this.keep hk fun c hc'=>⟨hkq c (g7 p c hc').1 (g7 p c hc').2,?_⟩
      simp only[Fq,if_neg q1,if_neg q2];exact hc') hd undef (q::ids)
  have hexec:(execOp a.eval o).run P w= .ok .skip (w.setCells b (i' * sz+off) (a.eval y).cells.toList):=by
   simp only[execOp,ho,e3,Sem.run_bind,hrun,Result.andThen_ok,Sem.run_pure]
  unfold Oper.wp
  rw[hexec]
  exact hK _ _ ρ' this
theorem sound_store {T:TypeId}{x y:Operand}{ti:TI}(hΓ:Γ.chk P=true)(hT:Γ.get T=some ti)(ho:o.op= .store T x y)(h:semStore ti (ev x) (ev y) H K):∃e,K e∧Good P o ev H e:=by
 obtain⟨i,d,fit⟩:=Env.fit hΓ hT
 have hopx:x∈o.op.operands.toList:=by simp[ho,Op.operands]
 have hopy:y∈o.op.operands.toList:=by simp[ho,Op.operands]
 unfold semStore at h
 split at h
 ·rename_i ar hy
  split at h
  ·rename_i hlen
   have hlen:ar.cells.length=ti.size:=by simpa using hlen
   split at h
   ·rename_i q off hx
    split at h
    ·rename_i cells hq
     split at h
     ·rename_i cells' hlay
      refine⟨_,h,?_⟩
      intro N B M w0 ρ s a w Q K hc hop hR hnew hd hK
      have hq':s.H q=some (.box cells):=by rw[hR q (by simp)];exact hq
      obtain⟨b,us,t,fz,g1,g2,g3,g4,g5⟩:=hc.box hq'
      have hvx:=(hc.eval x).1
      rw[hop x hopx,hx]at hvx
      obtain⟨b',e1,e2⟩:=hvx
      rw[g1]at e1
      injection e1 with e1;injection e1 with e1;injection e1 with e1
      subst e1
      have hvy:=hc.eval y
      rw[hop y hopy,hy]at hvy
      have hcy:=RR.cells hvy.1
      have hcl:(a.eval y).cells.size=ti.size:=by rw[←hlen,←hcy.length];simp
      obtain⟨l1,l2⟩:=lay_spec hlay
      have hul:us.size=cells.length:=by have:=g4.length;simpa using this
      have hrun:=run_storeAt (w:=w) fit b off (a.eval y) hcl g2 g3 (by omega) hcy.one
      obtain⟨cur',c1,c2,c3⟩:=setCells_heap b t fz (a.eval y).cells.toList off w us g2 (by simp[hcl];omega)
      obtain⟨ρ',this⟩:=hc.upd hq' (x':= .box cells') (b:=b) (by rw[g1];rfl) [] (by simp) (fun _=>False) (fun _ h=>h.elim) (setCells_turn b _ off w) (lay_ids hlay (fun id hid=>hvy.2 id (ar_ids id hid)) (hc.usedH q _ hq').2) (fun ρ' ok' hρ _ hk _ _ _=>by
       refine⟨b,cur',t,fz,by rw[hρ];exact g1,c1,by rw[c2];exact g3,?_⟩
       rw[c3,l2]
       have hcyl:(a.eval y).cells.toList.length=ar.cells.length:=hcy.length
       rw[hcyl]
       exact(((g4.take off).append hcy).append (g4.drop _)).keep hk fun o _=>hρ o) hd undef [q]
      have hexec:(execOp a.eval o).run P w= .ok .skip (w.setCells b off (a.eval y).cells.toList):=by
       simp only[execOp,ho,e2,Sem.run_bind,hrun,Result.andThen_ok,Sem.run_pure]
      unfold Oper.wp
      rw[hexec]
      exact hK _ _ ρ' this
     ·exact h.elim
    ·exact h.elim
   ·rename_i q sz' i' off hx
    split at h
    ·rename_i fr sz rows hq
     split at h
     rotate_left
     ·exact h.elim
     rename_i ts fr' ids hts
     obtain⟨rfl,hqi,row,hrow,h⟩:=h
     split at h
     ·rename_i row' hlay
      refine⟨_,h,?_⟩
      intro N B M w0 ρ s a w Q K hc hop hR hnew hd hK
      have hq':s.H q=some (.arr fr sz rows):=by rw[hR q (by simp)];exact hq
      obtain⟨hu,g⟩:=hc.arr hq'
      have hvx:=(hc.eval x).1
      rw[hop x hopx,hx]at hvx
      obtain⟨b',n,c,e1,e2,e3⟩:=hvx
      have hvy:=hc.eval y
      rw[hop y hopy,hy]at hvy
      have hcy:=RR.cells hvy.1
      have hty:∀ok':Nat→Prop,(∀c,okB ρ s.H w c→ok' c)→(∀o x c,o∈ids→s.H o=some x→Own ρ o c→ok' c)→RTs w (okF B ok' fr') (a.eval y).cells.toList ts:=
       fun ok' hok hb=>frz_ok hc hok hts (fun o ho=>hR o (by simp[ho])) hcy hb
      have htl:ts.length=ti.size:=by rw[←(hty (fun _=>True) (fun _ _=>trivial) (fun _ _ _ _ _ _=>trivial)).length,hcy.length,hlen]
      have hcl:(a.eval y).cells.size=ti.size:=by rw[←hlen,←hcy.length];simp
      obtain⟨l1,l2⟩:=lay_spec hlay
      have hrl:row.length=sz:=hu row (List.mem_of_getElem? hrow)
      have hil:i' < rows.length:=by
       rcases Nat.lt_or_ge i' rows.length with h'|h'
       ·exact h'
       ·rw[List.getElem?_eq_none h']at hrow;cases hrow
      rcases g with⟨g1,g2⟩|⟨b,cap,cur,e,fz,g1,g2,g3,g4,g5,g6,g7,g8,g9⟩
      ·subst g2;simp at hil
      ·rw[g1]at e1
       injection e1 with e1 e1' e1'';injection e1 with e1;injection e1 with e1
       subst e1
       have hmul:(i'+1) * sz≤cap * sz:=Nat.mul_le_mul_right _ (by omega)
       have hmul2:(i'+1) * sz=i' * sz+sz:=by rw[Nat.add_mul];omega
       have hrun:=run_storeAt (w:=w) fit b (i' * sz+off) (a.eval y) hcl g2 g3 (by omega) hcy.one
       obtain⟨cur',c1,c2,c3⟩:=setCells_heap b e fz (a.eval y).cells.toList (i' * sz+off) w cur g2 (by simp[hcl];omega)
       have hrow'l:row'.length=sz:=by rw[l2];simp;omega
       have hyl:(a.eval y).cells.toList.length=ts.length:=(hty (fun _=>True) (fun _ _=>trivial) (fun _ _ _ _ _ _=>trivial)).length
       have hflat:(rows.set i' row').flatten=rows.flatten.take (i' * sz+off)++ts++rows.flatten.drop (i' * sz+off+ts.length):=by
        exact flatten_lay l1 l2 rows i' hu hrow
       have hrfl:=flatten_length sz rows hu
       have hle2:(i'+1) * sz≤rows.length * sz:=Nat.mul_le_mul_right _ hil
       obtain⟨ρ',this⟩:=hc.upd hq' (x':= .arr (fr && fr') sz (rows.set i' row')) (b:=b) (by rw[g1];rfl) ids hqi (fun _=>False) (fun _ h=>h.elim) (setCells_turn b _ (i' * sz+off) w) (by simp[AO.ids]) (fun ρ' ok' hρ _ hk hkr0 _ _=>by
        have hkr:=fun o x c h1 h2 h3=>hkr0 o x c h1 h2 h3 (fun h=>h)
        refine⟨fun r hr=>?_,.inr ⟨b,cap,cur',e,fz,by rw[hρ,g1,List.length_set],c1,by rw[c2];exact g3,by rw[List.length_set];exact g4,g5,by rw[c2];exact g6,?_,fun e=>g9 (by simp at e;exact e.1)⟩⟩
        ·rcases List.mem_or_eq_of_mem_set hr with h'|h'
         ·exact hu r h'
         ·rw[h'];exact hrow'l
        ·rw[List.length_set,hflat,c3,hyl]
         have e1:(cur.toList.take (i' * sz+off)++(a.eval y).cells.toList++cur.toList.drop (i' * sz+off+ts.length)).take (rows.length * sz)=
           (cur.toList.take (rows.length * sz)).take (i' * sz+off)++(a.eval y).cells.toList++(cur.toList.take (rows.length * sz)).drop (i' * sz+off+ts.length):=by
          rw[List.take_take,Nat.min_eq_left (by omega)]
          have hl1:(cur.toList.take (i' * sz+off)++(a.eval y).cells.toList).length=i' * sz+off+ts.length:=by
           rw[List.length_append,hyl,List.length_take];simp;omega
          rw[List.take_append,List.take_of_length_le (by rw[hl1];omega),hl1]
          congr 1
          rw[List.drop_take]
         rw[e1]
         have hold:∀c,okB ρ s.H w c∨(∃o x,o∈ids∧s.H o=some x∧Own ρ o c)→(w.setCells b (i' * sz+off) (a.eval y).cells.toList).heap[c]?=w.heap[c]?∧ok' c:=by
          rintro c (hc'|⟨o,x,k1,k2,k3⟩)
          ·exact hk c hc'
          ·exact hkr o x c k1 k2 k3
         have ht1:=(hty (fun c=>okB ρ s.H w c∨(∃o x,o∈ids∧s.H o=some x∧Own ρ o c)) (fun c h=> .inl h) (fun o x c k1 k2 k3=> .inr ⟨o,x,k1,k2,k3⟩)).keep (okF_keep (B:=B) hold)
         have ht2:=ht1.keep (okF_weak (B:=B) (ok:=ok') (w:=w.setCells b (i' * sz+off) (a.eval y).cells.toList) (fr':=fr && fr') fun e=>by simp at e;exact e.2)
         have h71:=(g7.keep (okF_keep (B:=B) hk)).keep (okF_weak (B:=B) (ok:=ok') (w:=w.setCells b (i' * sz+off) (a.eval y).cells.toList) (fr':=fr && fr') fun e=>by simp at e;exact e.1)
         exact((h71.take _).append ht2).append (h71.drop _)) hd undef (q::ids)
       have hexec:(execOp a.eval o).run P w= .ok .skip (w.setCells b (i' * sz+off) (a.eval y).cells.toList):=by
        simp only[execOp,ho,e3,Sem.run_bind,hrun,Result.andThen_ok,Sem.run_pure]
       unfold Oper.wp
       rw[hexec]
       exact hK _ _ ρ' this
     ·exact h.elim
    ·rename_i sz rows hq
     obtain⟨rfl,row,hrow,h⟩:=h
     exact store_dar fit ho hopx hopy hy hx hq hlen hrow (fun _ _=>rfl) h
    ·rename_i sz rows i2 off2 n2 hq
     obtain⟨rfl,rfl,rfl,h1,row,hrow,h⟩:=h
     refine store_dar fit ho hopx hopy hy hx hq hlen hrow (fun p hp=>?_) h
     simp only[holeAt]
     rw[if_neg (by omega)]
    ·exact h.elim
   ·exact h.elim
  ·exact h.elim
 ·exact h.elim
end
end Go.Sim
namespace Go.Sim
open Go.RowKit
section
variable {P:Program} {Γ:Env} {N B:Nat} {M:Nat→Prop} {w0:Start} {ρ:Rho} {s:F_} {a:Act} {w:World} {o:Oper} {ev:Operand→AV} {H:Id→Option AO} {K:Eff→Prop} {KV:AV→Prop}
theorem updH_append:∀(us us':List (Id×Option AO)) (H:Id→Option AO),updH H (us++us')=updH (updH H us) us'
 | [],_,_=>rfl
 | p::us,us',H=>by rw[List.cons_append,updH,updH_append us us'];rfl
theorem Conc.ghost (h:Conc N B M w0 ρ s a w)(keys:List Id){ρ':Rho}{H':Id→Option AO}(hρ:∀o,ρ' o=ρ o)(hfp:∀o x,o∉keys→s.H o=some x→ρ'.fp o=ρ.fp o)(hal:ρ'.al=ρ.al)(hH:∀o,o∉keys→H' o=s.H o)
  (hnew:∀o x b,o∈keys→H' o=some x→Own ρ' o b→∃o' x',s.H o'=some x'∧o'∈keys∧Own ρ o' b)
  (hsep:∀o o' x x' b,o∈keys→o'∈keys→H' o=some x→H' o'=some x'→o≠o'→Own ρ' o b→¬Own ρ' o' b)
  (hobj:∀(_:∀b,okB ρ s.H w b→okB ρ' H' w b),∀o x,o∈keys→H' o=some x→RO B ρ' w (okB ρ' H' w) o x∧s.U o.1∧∀o'∈x.ids,s.U o'.1):Conc N B M w0 ρ' ⟨s.L,H',s.U⟩ a w:=by
 have:=h.step (fun _=>False) keys (w':=w) (ρ':=ρ') (H':=H') (U':=s.U) (a':=a) (L':=s.L) (Turn.refl _ _) h.size h.defers (fun o _=>hρ o) hfp hal hH (fun _ h=>h) (fun _ _ h=>h) (fun _ _ _ _ _ _ h=>h) (fun _ _ _ h=>h)
  (fun o x b h1 h2 h3=>by
   obtain⟨o',x',g1,g2,g3⟩:=hnew o x b h1 h2 h3
   have:=h.rng o' x' b g1 g3
   exact⟨this.1,this.2,.inr ⟨o',x',g1,g2,g3⟩⟩) hsep (fun hk=>hobj fun b hb=>(hk b hb).2) (fun _ t=> .inl ⟨rfl,rfl⟩)
 exact this
theorem Conc.close (h:Conc N B M w0 ρ s a w){q n:Id}(hqn:n≠q){sz:Nat}{rows:List (List DC)}{i off:Nat}(hq:s.H q=some (.dar sz rows (some (i,off,n)))){y:AO}(hy:s.H n=some y){t:Nat}{rs:List (List Tr)}
  (hDT:DT w (Own ρ n) (ρ n) (.lst t rs)) {row:List DC} (hr:rows[i]?=some row) (ho:off < sz):
  ∃ρ',Conc N B M w0 ρ' ⟨s.L,updH s.H [(n,none),(q,some (.dar sz (rows.set i (row.set off (.d (.lst t rs)))) none))],s.U⟩ a w:=by
 obtain⟨hu,g⟩:=h.dar hq
 have hi:i < rows.length:=by
  rcases Nat.lt_or_ge i rows.length with h'|h'
  ·exact h'
  ·rw[List.getElem?_eq_none h']at hr;cases hr
 rcases g with⟨_,g,_⟩|⟨b,cap,cur,e,fz,Fp,g1,g2,g3,g4,g5,g6,g7,g8,g9,g10⟩
 ·subst g;simp at hr
 let ρ':Rho:=⟨ρ.val,fun o c=>ρ.fp o c∨(o=q∧Own ρ n c),ρ.al⟩
 have hown:∀o c,Own ρ' o c↔(Own ρ o c∨(o=q∧Own ρ n c)):=fun o c=>by
  show(blk (ρ o)=some c∨(ρ.fp o c∨(o=q∧Own ρ n c)))↔(Own ρ o c∨(o=q∧Own ρ n c))
  rw[←or_assoc];rfl
 have hUpd:∀o,updH s.H [(n,none),(q,some (.dar sz (rows.set i (row.set off (.d (.lst t rs)))) none))] o=if o=q then some (.dar sz (rows.set i (row.set off (.d (.lst t rs)))) none)else if o=n then none else s.H o:=by
  intro o;simp only[updH]
 refine⟨ρ',?_⟩
 refine h.ghost [q,n] (ρ':=ρ') (fun _=>rfl) (fun o x h1 _=>?_) rfl (fun o h1=>?_) (fun o x c h1 h2 h3=>?_) (fun o o' x x' c h1 h2 h3 h4 hne=>?_) (fun hk o x h1 h2=>?_)
 ·simp only[List.mem_cons,List.not_mem_nil,or_false,not_or]at h1
  funext c
  exact propext ⟨fun hc=>hc.elim id fun hc=>absurd hc.1 h1.1,.inl⟩
 ·simp only[List.mem_cons,List.not_mem_nil,or_false,not_or]at h1
  rw[hUpd,if_neg h1.1,if_neg h1.2]
 ·simp only[List.mem_cons,List.not_mem_nil,or_false]at h1
  rw[hUpd]at h2
  rcases h1 with rfl|rfl
  ·rw[hown]at h3
   rcases h3 with h3|⟨_,h3⟩
   ·exact⟨o,_,hq,by simp,h3⟩
   ·exact⟨n,_,hy,by simp,h3⟩
  ·rw[if_neg hqn,if_pos rfl]at h2;cases h2
 ·exfalso
  rw[hUpd]at h3 h4
  simp only[List.mem_cons,List.not_mem_nil,or_false]at h1 h2
  rcases h1 with rfl|rfl
  ·rcases h2 with rfl|rfl
   ·exact hne rfl
   ·rw[if_neg hqn,if_pos rfl]at h4;cases h4
  ·rw[if_neg hqn,if_pos rfl]at h3;cases h3
 ·rw[hUpd]at h2
  simp only[List.mem_cons,List.not_mem_nil,or_false]at h1
  rcases h1 with rfl|rfl
  ·rw[if_pos rfl]at h2
   injection h2 with h2;subst h2
   have hrow:=hu row (List.mem_of_getElem? hr)
   have hfl:=flatten_set sz rows i off row (.d (.lst t rs)) hu hr ho
   refine⟨⟨fun r hr'=>?_,.inr ⟨b,cap,cur,e,fz,fun p c=>(p≠i * sz+off∧Fp p c)∨(p=i * sz+off∧Own ρ n c),by rw[List.length_set];exact g1,g2,g3,by rw[List.length_set];exact g4,g5,g6,fun p c hc=>?_,fun p p' c hne h1 h2=>?_,?_,fun p v d hv hd=>?_⟩⟩,(h.usedH o _ hq).1,by simp[AO.ids]⟩
   ·rcases List.mem_or_eq_of_mem_set hr' with h'|h'
    ·exact hu r h'
    ·rw[h',List.length_set];exact hrow
   ·rcases hc with⟨_,hc⟩|⟨_,hc⟩
    ·exact⟨.inl (g7 p c hc).1,(g7 p c hc).2⟩
    ·refine⟨.inr ⟨rfl,hc⟩,fun e=>?_⟩
     subst e
     exact h.sep n o y _ c hy hq hqn hc (.inl (by rw[g1];rfl))
   ·rcases h1 with⟨m1,h1⟩|⟨m1,h1⟩ <;> rcases h2 with⟨m2,h2⟩|⟨m2,h2⟩
    ·exact g8 p p' c hne h1 h2
    ·exact h.sep n o y _ c hy hq hqn h2 (.inr (g7 p c h1).1)
    ·exact h.sep n o y _ c hy hq hqn h1 (.inr (g7 p' c h2).1)
    ·omega
   ·rw[List.length_set,hfl,List.length_set];exact g9.1
   ·simp only[holeAt]
    rw[hfl]at hd
    rw[List.length_set]at hv
    by_cases hp:p=i * sz+off
    ·subst hp
     rw[List.getElem?_set_self (by
      rw[←g9.1]
      have:=List.getElem?_eq_some_iff.1 hv
      exact this.1)]at hd
     injection hd with hd;subst hd
     have hlt:i * sz+off < rows.flatten.length:=by
      rw[←g9.1];exact(List.getElem?_eq_some_iff.1 hv).1
     have:=g9.2 _ v _ hv (List.getElem?_eq_getElem hlt)
     simp only[holeAt,if_true]at this
     rw[this.1]
     exact hDT.keep fun c hc=>⟨rfl,.inr ⟨rfl,hc⟩⟩
    ·rw[List.getElem?_set_ne (fun e=>hp e.symm)]at hd
     have:=g9.2 p v d hv hd
     simp only[holeAt,if_neg hp]at this
     exact RD.keep this (fun b' hb'=>⟨rfl,hk b' hb'⟩) fun c hc=>⟨rfl,.inl ⟨hp,hc⟩⟩
  ·rw[if_neg hqn,if_pos rfl]at h2;cases h2
theorem close_spec {x:AV}{K:(Id→Option AO)→List (Id×Option AO)→List Id→Prop}(hx:closeAt H x K):∃H' us R,K H' us R∧∀{N B:Nat} {M:Nat→Prop} {w0:Start} {ρ:Rho} {s:F_} {a:Act} {w:World},Conc N B M w0 ρ s a w→
  (∀id∈R,s.H id=H id)→(∃ρ',Conc N B M w0 ρ' ⟨s.L,updH s.H us,s.U⟩ a w)∧∀id,s.H id=H id→updH s.H us id=H' id:=by
 have same:∀{K:(Id→Option AO)→List (Id×Option AO)→List Id→Prop},K H [] []→∃H' us R,K H' us R∧∀{N B:Nat} {M:Nat→Prop} {w0:Start} {ρ:Rho} {s:F_} {a:Act} {w:World},Conc N B M w0 ρ s a w→
   (∀id∈R,s.H id=H id)→(∃ρ',Conc N B M w0 ρ' ⟨s.L,updH s.H us,s.U⟩ a w)∧∀id,s.H id=H id→updH s.H us id=H' id:=
  fun h=>⟨H,[],[],h,fun hc _=>⟨⟨_,hc⟩,fun id hid=>hid⟩⟩
 have agree:∀{s:F_} {q n:Id} {d:AO} (id:Id),s.H id=H id→updH s.H [(n,none),(q,some d)] id=setH (setH H n none) q (some d) id:=by
  intro s q n d id hid
  have he:∀x y:Id,(bif idEq x y then true else false)=decide (x=y):=fun x y=>by
   cases hb:idEq x y with
   | true=>rw[idEq_iff]at hb;simp[hb]
   | false=>symm;simp only[cond_false,decide_eq_false_iff_not];intro e;rw[idEq_iff.2 e]at hb;cases hb
  have hb:∀(x y:Id) (A B:Option AO),(bif idEq x y then A else B)=if x=y then A else B:=fun x y A B=>by
   have:=he x y
   cases hb:idEq x y with
   | true=>
        rw[hb]at this;have h2:x=y:=by simpa using this
        simp[h2]
   | false=>
         rw[hb]at this;have h2:¬x=y:=by simpa using this
         simp[h2]
  simp only[updH,setH,hb]
  by_cases e1:id=q
  ·simp[e1]
  ·have e1':¬q=id:=fun e=>e1 e.symm
   by_cases e2:id=n
   ·subst e2;simp[e1,e1']
   ·have e2':¬n=id:=fun e=>e2 e.symm
    simp[e1,e1',e2,e2',hid]
 unfold closeAt at hx
 split at hx
 ·rename_i q sz' i' off'
  split at hx
  ·rename_i sz rows i off n hq
   split at hx
   ·rename_i fr t rs hn hy
    obtain⟨hfl,row,hr,ho,hK⟩:=hx
    have hqn:n≠q:=fun e=>by rw[idEq_iff.2 e]at hn;cases hn
    refine⟨_,_,_,hK,fun hc hR=>⟨?_,agree⟩⟩
    have hq':=(hR q (by simp)).trans hq
    have hy':=(hR n (by simp)).trans hy
    exact hc.close hqn hq' hy' (arr_DT hc hy' hfl) hr ho
   ·rename_i t rs hn hy
    obtain⟨rs',rfl,row,hr,ho,hK⟩:=hx
    have hqn:n≠q:=fun e=>by rw[idEq_iff.2 e]at hn;cases hn
    refine⟨_,_,_,hK,fun hc hR=>⟨?_,agree⟩⟩
    have hq':=(hR q (by simp)).trans hq
    have hy':=(hR n (by simp)).trans hy
    exact hc.close hqn hq' hy' (dar_DT hc hy') hr ho
   ·exact same hx
   ·exact hx.elim
  ·exact same hx
 ·exact same hx
theorem good_close {H':Id→Option AO}{us:List (Id×Option AO)}{R:List Id}{e:Eff}(hcl:∀{N B:Nat} {M:Nat→Prop} {w0:Start} {ρ:Rho} {s:F_} {a:Act} {w:World},Conc N B M w0 ρ s a w→
  (∀id∈R,s.H id=H id)→(∃ρ',Conc N B M w0 ρ' ⟨s.L,updH s.H us,s.U⟩ a w)∧∀id,s.H id=H id→updH s.H us id=H' id) (hg:Good P o ev H' e):Good P o ev H ⟨e.v,us++e.us,e.new,R++e.R⟩:=by
 intro N B M w0 ρ s a w Q K hc hop hR hn hd hK
 obtain⟨⟨ρ1,h1⟩,h2⟩:=hcl hc fun id hid=>hR id (by simp[hid])
 refine hg N B M w0 ρ1 ⟨s.L,updH s.H us,s.U⟩ a w Q K h1 hop (fun id hid=>h2 id (hR id (by simp[hid]))) hn hd fun v w' ρ' h'=>hK v w' ρ' ?_
 refine h'.congr (fun _=>rfl) (fun o=>?_) fun _=>Iff.rfl
 simp only[F_.app,updH_append]
theorem Conc.deepen (h:Conc N B M w0 ρ s a w){q:Id}{fr:Bool}{sz:Nat}{rows:List (List Tr)}(hq:s.H q=some (.arr fr sz rows))(hfl:flat rows):Conc N B M w0 ρ ⟨s.L,updH s.H [(q,some (.dar sz (deepRows rows) none))],s.U⟩ a w:=by
 refine h.ghost [q] (fun _=>rfl) (fun _ _ _ _=>rfl) rfl (fun o h1=>?_) (fun o x c h1 h2 h3=>?_) (fun o o' x x' c h1 h2 h3 h4 hne=>?_) (fun hk o x h1 h2=>?_)
 ·simp only[List.mem_cons,List.not_mem_nil,or_false]at h1
  simp[updH,h1]
 ·simp only[List.mem_cons,List.not_mem_nil,or_false]at h1
  subst h1;exact⟨o,_,hq,by simp,h3⟩
 ·simp only[List.mem_cons,List.not_mem_nil,or_false]at h1 h2
  exact absurd (h1.trans h2.symm) hne
 ·simp only[List.mem_cons,List.not_mem_nil,or_false]at h1
  subst h1
  simp only[updH,if_true,Option.some.injEq]at h2
  subst h2
  refine⟨(arr_DT h hq hfl).toDar rfl fun c hc hne=>hc.elim (fun e=>absurd e hne) id,(h.usedH _ _ hq).1,by simp[AO.ids]⟩
theorem Conc.undeep (h:Conc N B M w0 ρ s a w){q:Id}{sz:Nat}{rows:List (List Tr)}(hq:s.H q=some (.dar sz (deepRows rows) none))(hfl:flat rows):Conc N B M w0 ρ ⟨s.L,updH s.H [(q,some (.arr false sz rows))],s.U⟩ a w:=by
 refine h.ghost [q] (fun _=>rfl) (fun _ _ _ _=>rfl) rfl (fun o h1=>?_) (fun o x c h1 h2 h3=>?_) (fun o o' x x' c h1 h2 h3 h4 hne=>?_) (fun hk o x h1 h2=>?_)
 ·simp only[List.mem_cons,List.not_mem_nil,or_false]at h1
  simp[updH,h1]
 ·simp only[List.mem_cons,List.not_mem_nil,or_false]at h1
  subst h1;exact⟨o,_,hq,by simp,h3⟩
 ·simp only[List.mem_cons,List.not_mem_nil,or_false]at h1 h2
  exact absurd (h1.trans h2.symm) hne
 ·simp only[List.mem_cons,List.not_mem_nil,or_false]at h1
  subst h1
  simp only[updH,if_true,Option.some.injEq]at h2
  subst h2
  exact⟨(dar_DT h hq).toArr hfl rfl,(h.usedH _ _ hq).1,by simp[AO.ids]⟩
end
end Go.Sim
namespace Go.Sim
open Go.RowKit
section
variable {P:Program} {Γ:Env} {N B:Nat} {M:Nat→Prop} {w0:Start} {ρ ρ':Rho} {s:F_} {a:Act} {w w':World} {o:Oper} {ev:Operand→AV} {H:Id→Option AO} {K:Eff→Prop} {KV:AV→Prop}
theorem map_flat {α β:Type}(f:α→β)(l:List (List α)):(l.map (·.map f)).flatten=l.flatten.map f:=(List.map_flatten ..).symm
theorem arr_RT (hc:Conc N B M w0 ρ s a w){ok':Nat→Prop}(hk:∀b,okB ρ s.H w b→ok' b){q:Id}(hq':∀x b,s.H q=some x→Own ρ q b→ok' b){fr:Bool}{sz:Nat}{rows:List (List Tr)}(hq:s.H q=some (.arr fr sz rows)):RT w ok' (ρ q) (.lst sz rows):=by
 obtain⟨hu,g⟩:=hc.arr hq
 rcases g with⟨g1,g2⟩|⟨b,cap,cur,e,fz,g1,g2,g3,g4,g5,g6,g7,g8,g9⟩
 ·subst g2;rw[g1];exact .emp _ _ _ (Nat.zero_le _)
 ·have hb:=hq' _ b hq (.inl (by rw[g1];rfl))
  rw[g1]
  exact .lst _ _ _ _ _ _ rfl g4 g5 hu hb (by rw[g7.length]) g8 fun p v u hv hu'=>(g7.get p v u hv hu').keep fun c hc'=>⟨rfl,hk c hc'.1⟩
theorem dar_RT (hc:Conc N B M w0 ρ s a w){ok':Nat→Prop}(hk:∀b,okB ρ s.H w b→ok' b){q:Id}(hq':∀x b,s.H q=some x→Own ρ q b→ok' b){sz:Nat}{rows:List (List DC)}(hq:s.H q=some (.dar sz rows none)):RT w ok' (ρ q) (.lst sz (rows.map (·.map DC.tr))):=by
 obtain⟨hu,g⟩:=hc.dar hq
 rcases g with⟨g1,g2,_⟩|⟨b,cap,cur,e,fz,Fp,g1,g2,g3,g4,g5,g6,g7,g8,g9,g10⟩
 ·subst g2;rw[g1];exact .emp _ _ _ (Nat.zero_le _)
 ·have hb:=hq' _ b hq (.inl (by rw[g1];rfl))
  rw[g1]
  refine .lst _ _ _ _ _ _ (by simp) g4 g5 (fun r hr=>?_) hb (by rw[g9.1,map_flat,List.length_map]) g10 fun p v u hv hu'=>?_
  ·obtain⟨r',h1,rfl⟩:=List.mem_map.1 hr
   rw[List.length_map];exact hu r' h1
  ·rw[map_flat,List.getElem?_map]at hu'
   cases hd:rows.flatten[p]? with
   | none=>rw[hd]at hu';cases hu'
   | some d=>
    rw[hd]at hu'
    injection hu' with hu'
    subst hu'
    have:=g9.2 p v d hv hd
    simp only[holeAt]at this
    cases d with
    | t x=>exact RT.keep this fun c hc'=>⟨rfl,hk c hc'⟩
    | d x=>exact DT.toRT this fun c hc'=>hq' _ c hq (.inr (g7 p c hc').1)
theorem acTree_ok' (hc:Conc N B M w0 ρ s a w){ok':Nat→Prop}(hk:∀b,okB ρ s.H w b→ok' b){v:Value}{c:AC}{t:Tr}(hq':∀q∈c.ids,∀x b,s.H q=some x→Own ρ q b→ok' b)(hv:RC B ρ w (okB ρ s.H w) v c)(h:acTree s.H c t):RT w ok' v t:=by
 cases c with
 | t x=>cases h;exact RT.keep hv fun b hb=>⟨rfl,hk b hb⟩
 | f x=>cases h;exact RT.keep hv fun b hb=>⟨rfl,hk b hb.1⟩
 | nils n=>
  obtain⟨sz,rfl⟩:=h
  have:v= .slice none 0 0:=hv
  rw[this]
  exact .emp _ _ _ (Nat.zero_le _)
 | nilp=>exact h.elim
 | opq=>exact h.elim
 | mpv=>exact h.elim
 | own q=>
  have hq2:=hq' q (by simp[AC.ids])
  simp only[acTree]at h
  obtain⟨_,e⟩:=hv
  rw[e]
  split at h
  ·rename_i fr sz rows hq
   subst h;exact arr_RT hc hk hq2 hq
  ·rename_i sz rows hq
   subst h;exact dar_RT hc hk hq2 hq
  ·exact h.elim
 | sub q k=>
  have hq2:=hq' q (by simp[AC.ids])
  simp only[acTree]at h
  obtain⟨A,n,c,e0,e1,e2⟩:=hv
  rw[e1]
  have fin:∀(sz:Nat) (rows:List (List Tr)),RT w ok' (.slice A n c) (.lst sz rows)→n=rows.length→RT w ok' (.slice A k c) (.lst sz (rows.take k)):=by
   intro sz rows hf hn
   have:=hf.cut 0 k (Nat.zero_le _) (by omega)
   simp only[Nat.zero_mul,Option.map_id',add_zero',Nat.sub_zero,List.drop_zero]at this
   by_cases h0:c=0
   ·rw[if_pos h0]at this;exact this
   ·rw[if_neg h0]at this;exact this
  split at h
  ·rename_i fr sz rows hq
   subst h
   have:=arr_RT hc hk hq2 hq
   rw[e0]at this
   obtain⟨_,_,hs,_⟩:=this.slice_inv
   injection hs with _ hs _
   exact fin _ _ this hs
  ·rename_i sz rows hq
   subst h
   have:=dar_RT hc hk hq2 hq
   rw[e0]at this
   obtain⟨_,_,hs,_⟩:=this.slice_inv
   injection hs with _ hs _
   rw[List.map_take]
   exact fin _ _ this hs
  ·exact h.elim
 | ptr q off=>exact h.elim
theorem acTree_ok (hc:Conc N B M w0 ρ s a w){v:Value}{c:AC}{t:Tr}(hv:RC B ρ w (okB ρ s.H w) v c)(h:acTree s.H c t):RT w (fun b=>b < w.heap.size) v t:=
 acTree_ok' hc (fun b hb=>hb.1.1) (fun q _ x b hq hb=>(hc.rng q x b hq hb).1) hv h
theorem acTrees_ok (hc:Conc N B M w0 ρ s a w):∀{vs:List Value} {cs:List AC} {ts:List Tr},RCs B ρ w (okB ρ s.H w) vs cs→acTrees s.H cs ts→RTs w (fun b=>b < w.heap.size) vs ts
 | [],[],[],_,_=>trivial
 | _::_,_::_,_::_,h,h'=>⟨acTree_ok hc h.1 h'.1,acTrees_ok hc h.2 h'.2⟩
 | [],_::_,_,h,_=>h.elim
 | _::_,[],_,h,_=>h.elim
 | [],[],_::_,_,h=>h.elim
 | _::_,_::_,[],_,h=>h.elim
theorem argTree_ok (hc:Conc N B M w0 ρ s a w){v:Value}{x:AV}{t:TV}(hv:RV B ρ w (okB ρ s.H w) v x)(h:argTree s.H x t):RTV w (fun b=>b < w.heap.size) v t:=by
 cases x with
 | r ar=>
  cases ar with
  | c c=>
   cases t with
   | c t=>exact acTree_ok hc hv h
   | agg=>exact h.elim
  | agg cs=>
   cases t with
   | c t=>exact h.elim
   | agg ts=>obtain⟨us,rfl,hr⟩:=hv;exact⟨us,rfl,acTrees_ok hc hr h⟩
 | tup=>exact h.elim
 | el=>exact h.elim
 | ro=>exact h.elim
 | unk=>exact h.elim
theorem acTree_congr {H H':Id→Option AO}{c:AC}{t:Tr}(hH:∀o∈c.ids,H' o=H o)(h:acTree H c t):acTree H' c t:=by
 cases c <;> simp only[acTree]at h ⊢ <;> first|exact h|(rw[hH _ (by simp[AC.ids])];exact h)
theorem acTrees_congr {H H':Id→Option AO}:∀{cs:List AC} {ts:List Tr},(∀o∈cs.flatMap AC.ids,H' o=H o)→acTrees H cs ts→acTrees H' cs ts
 | [],[],_,_=>trivial
 | c::cs,t::ts,hH,h=>⟨acTree_congr (fun o ho=>hH o (by simp[ho])) h.1,acTrees_congr (fun o ho=>hH o (by simp only[List.flatMap_cons,List.mem_append];exact .inr ho)) h.2⟩
 | [],_::_,_,h=>h.elim
 | _::_,[],_,h=>h.elim
theorem argTree_congr {H H':Id→Option AO}{x:AV}{t:TV}(hH:∀o∈x.ids,H' o=H o)(h:argTree H x t):argTree H' x t:=by
 cases x with
 | r ar=>
  cases ar with
  | c c=>cases t with
   | c t=>exact acTree_congr hH h
   | agg=>exact h.elim
  | agg cs=>cases t with
   | c t=>exact h.elim
   | agg ts=>exact acTrees_congr hH h
 | tup=>exact h.elim
 | el=>exact h.elim
 | ro=>exact h.elim
 | unk=>exact h.elim
theorem args_ok (hc:Conc N B M w0 ρ s a w):∀(xs:List Operand) (ts:List TV),(∀x∈xs,evL s.L x=ev x)→(∀o∈(xs.map ev).flatMap AV.ids,s.H o=H o)→argTrees H (xs.map ev) ts→RTVs w (fun b=>b < w.heap.size) (xs.map a.eval) ts
 | [],[],_,_,_=>trivial
 | x::xs,t::ts,hx,hH,h=>by
  refine⟨argTree_ok hc (x:=ev x) ?_ (argTree_congr (fun o ho=>hH o (by simp[ho])) h.1),args_ok hc xs ts (fun y hy=>hx y (by simp[hy])) (fun o ho=>hH o (by simp only[List.map_cons,List.flatMap_cons,List.mem_append];exact .inr ho)) h.2⟩
  have:=(hc.eval x).1
  rwa [hx x (by simp)]at this
 | [],_::_,_,_,h=>h.elim
 | _::_,[],_,_,h=>h.elim
theorem oss_mem {d i j:Nat}{cs:List RC'}{o:Id}{x:AO}(h:(o,x)∈RC'.oss d i j cs):o.1=d∧((0,o.2),x)∈RC'.oss 0 i j cs:=by
 induction cs generalizing j with
 | nil=>simp[RC'.oss]at h
 | cons c cs ih=>
  simp only[RC'.oss,List.mem_append]at h ⊢
  rcases h with h|h
  ·cases c with
   | t x=>simp[RC'.os]at h
   | arr sz rows=>simp only[RC'.os,List.mem_singleton,Prod.mk.injEq]at h;obtain⟨rfl,rfl⟩:=h;exact⟨rfl,.inl (by simp[RC'.os])⟩
  ·exact⟨(ih h).1,.inr (ih h).2⟩
theorem ros_mem {d i:Nat}{x:RR'}{o:Id}{y:AO}(h:(o,y)∈x.os d i):o.1=d∧((0,o.2),y)∈x.os 0 i:=by
 cases x with
 | c c=>cases c with
  | t x=>simp[RR'.os,RC'.os]at h
  | arr sz rows=>simp only[RR'.os,RC'.os,List.mem_singleton,Prod.mk.injEq]at h;obtain⟨rfl,rfl⟩:=h;exact⟨rfl,by simp[RR'.os,RC'.os]⟩
 | agg cs=>exact oss_mem h
theorem ross_mem {d i:Nat}{xs:List RR'}{o:Id}{y:AO}(h:(o,y)∈RR'.oss d i xs):o.1=d∧((0,o.2),y)∈RR'.oss 0 i xs:=by
 induction xs generalizing i with
 | nil=>simp[RR'.oss]at h
 | cons x xs ih=>
  simp only[RR'.oss,List.mem_append]at h ⊢
  rcases h with h|h
  ·exact⟨(ros_mem h).1,.inl (ros_mem h).2⟩
  ·exact⟨(ih h).1,.inr (ih h).2⟩
theorem res_mem {d:Nat}{r:Res}{o:Id}{y:AO}(h:(o,y)∈r.os d):o.1=d∧((0,o.2),y)∈r.os 0:=by
 cases r with
 | r x=>exact ros_mem h
 | tup xs=>exact ross_mem h
theorem ac_turn {B' d i j:Nat}{c:RC'}{v:Value}{ok ok':Nat→Prop}(hρ:∀q:Nat×Nat,ρ' (d,q)=ρ (0,q))(hk:∀b,ok b→ok' b)(h:RC B' ρ w ok v (c.ac 0 i j)):RC B ρ' w ok' v (c.ac d i j):=by
 cases c with
 | t x=>exact RT.keep h fun b hb=>⟨rfl,hk b hb⟩
 | arr sz rows=>obtain⟨⟨A,n,c,e⟩,e1⟩:=h;exact⟨⟨A,n,c,(hρ (i,j)).trans e⟩,e1.trans (hρ (i,j)).symm⟩
theorem acs_turn {B' d i:Nat}{ok ok':Nat→Prop}(hρ:∀q:Nat×Nat,ρ' (d,q)=ρ (0,q))(hk:∀b,ok b→ok' b):∀{cs:List RC'} {j:Nat} {vs:List Value},RCs B' ρ w ok vs (RC'.acs 0 i j cs)→RCs B ρ' w ok' vs (RC'.acs d i j cs)
 | [],_,[],_=>trivial
 | _::_,_,_::_,h=>⟨ac_turn hρ hk h.1,acs_turn hρ hk h.2⟩
 | [],_,_::_,h=>h.elim
 | _::_,_,[],h=>h.elim
theorem ar_turn {B' d i:Nat}{x:RR'}{v:Value}{ok ok':Nat→Prop}(hρ:∀q:Nat×Nat,ρ' (d,q)=ρ (0,q))(hk:∀b,ok b→ok' b)(h:RR B' ρ w ok v (x.ar 0 i)):RR B ρ' w ok' v (x.ar d i):=by
 cases x with
 | c c=>exact ac_turn hρ hk h
 | agg cs=>obtain⟨us,e,h⟩:=h;exact⟨us,e,acs_turn hρ hk h⟩
theorem ars_turn {B' d:Nat}{ok ok':Nat→Prop}(hρ:∀q:Nat×Nat,ρ' (d,q)=ρ (0,q))(hk:∀b,ok b→ok' b):∀{xs:List RR'} {i:Nat} {vs:List Value},RRs B' ρ w ok vs (RR'.ars 0 i xs)→RRs B ρ' w ok' vs (RR'.ars d i xs)
 | [],_,[],_=>trivial
 | _::_,_,_::_,h=>⟨ar_turn hρ hk h.1,ars_turn hρ hk h.2⟩
 | [],_,_::_,h=>h.elim
 | _::_,_,[],h=>h.elim
theorem av_turn {B' d:Nat}{r:Res}{v:Value}{ok ok':Nat→Prop}(hρ:∀q:Nat×Nat,ρ' (d,q)=ρ (0,q))(hk:∀b,ok b→ok' b)(h:RV B' ρ w ok v (r.av 0)):RV B ρ' w ok' v (r.av d):=by
 cases r with
 | r x=>exact ar_turn hρ hk h
 | tup xs=>obtain⟨us,e,h⟩:=h;exact⟨us,e,ars_turn hρ hk h⟩
theorem ac_ids (d i j:Nat)(c:RC'):∀id∈(c.ac d i j).ids,id.1=d:=by
 cases c with
 | t x=>simp[RC'.ac,AC.ids]
 | arr sz rows=>intro id hid;simp[RC'.ac,AC.ids]at hid;rw[hid]
theorem acs_ids (d i:Nat):∀(cs:List RC') (j:Nat),∀id∈(RC'.acs d i j cs).flatMap AC.ids,id.1=d
 | [],_,id,hid=>by simp[RC'.acs]at hid
 | c::cs,j,id,hid=>by
  simp only[RC'.acs,List.flatMap_cons,List.mem_append]at hid
  rcases hid with hid|hid
  ·exact ac_ids d i j c id hid
  ·exact acs_ids d i cs (j+1) id hid
theorem ar_ids' (d i:Nat)(x:RR'):∀id∈(x.ar d i).ids,id.1=d:=by
 cases x with
 | c c=>exact ac_ids d i 0 c
 | agg cs=>exact acs_ids d i cs 0
theorem ars_ids (d:Nat):∀(xs:List RR') (i:Nat),∀id∈(RR'.ars d i xs).flatMap AR.ids,id.1=d
 | [],_,id,hid=>by simp[RR'.ars]at hid
 | c::cs,i,id,hid=>by
  simp only[RR'.ars,List.flatMap_cons,List.mem_append]at hid
  rcases hid with hid|hid
  ·exact ar_ids' d i c id hid
  ·exact ars_ids d cs (i+1) id hid
theorem av_ids (d:Nat)(r:Res):∀id∈(r.av d).ids,id.1=d:=by
 cases r with
 | r x=>exact ar_ids' d 0 x
 | tup xs=>exact ars_ids d xs 0
theorem oss_arr {d i:Nat}{cs:List RC'}{j:Nat}{o:Id}{x:AO}(h:(o,x)∈RC'.oss d i j cs):∃sz rows,x= .arr true sz rows:=by
 induction cs generalizing j with
 | nil=>simp[RC'.oss]at h
 | cons c cs ih=>
  simp only[RC'.oss,List.mem_append]at h
  rcases h with h|h
  ·cases c with
   | t x=>simp[RC'.os]at h
   | arr sz rows=>simp only[RC'.os,List.mem_singleton,Prod.mk.injEq]at h;exact⟨sz,rows,h.2⟩
  ·exact ih h
theorem ros_arr {d i:Nat}{y:RR'}{o:Id}{x:AO}(h:(o,x)∈y.os d i):∃sz rows,x= .arr true sz rows:=by
 cases y with
 | c c=>cases c with
  | t x=>simp[RR'.os,RC'.os]at h
  | arr sz rows=>simp only[RR'.os,RC'.os,List.mem_singleton,Prod.mk.injEq]at h;exact⟨sz,rows,h.2⟩
 | agg cs=>exact oss_arr h
theorem ross_arr {d i:Nat}{xs:List RR'}{o:Id}{x:AO}(h:(o,x)∈RR'.oss d i xs):∃sz rows,x= .arr true sz rows:=by
 induction xs generalizing i with
 | nil=>simp[RR'.oss]at h
 | cons y xs ih=>
  simp only[RR'.oss,List.mem_append]at h
  rcases h with h|h
  ·exact ros_arr h
  ·exact ih h
theorem res_arr {d:Nat}{r:Res}{o:Id}{x:AO}(h:(o,x)∈r.os d):∃sz rows,x= .arr true sz rows:=by
 cases r with
 | r x=>exact ros_arr h
 | tup xs=>exact ross_arr h
theorem updH_some:∀(us:List (Id×AO)) (H:Id→Option AO) (o:Id) (x:AO),updH H (us.map fun p=>(p.1,some p.2)) o=some x→(o,x)∈us∨(o∉us.map (·.1)∧H o=some x)
 | [],H,o,x,h=> .inr ⟨by simp,h⟩
 | p::us,H,o,x,h=>by
  simp only[List.map_cons,updH]at h
  rcases updH_some us _ o x h with h'|⟨h1,h2⟩
  ·exact .inl (by simp[h'])
  ·by_cases e:o=p.1
   ·rw[if_pos e]at h2
    injection h2 with h2
    left
    rw[e,←h2]
    simp
   ·rw[if_neg e]at h2
    exact .inr ⟨by simp only[List.map_cons,List.mem_cons,e,false_or];exact h1,h2⟩
theorem Conc.result (h:Conc N B M w0 ρ s a w){d:Nat}(hd:d < N)(hU:¬s.U d){r:Res}{v:Value}(hb:Below w.heap.size w w')(hr:ResOK w.heap.size w' v r)(R:List Id):
  ∃ρ',Conc N B M w0 ρ' (s.app (some d) ⟨r.av d,r.us d,some d,R⟩) (a.put (some d) v) w':=by
 obtain⟨ρr,okp,hokp,hrv,hobj,hsep⟩:=hr
 let ρ':Rho:=⟨fun o=>if o.1=d then ρr (0,o.2)else ρ o,fun o c=>o.1≠d∧ρ.fp o c,ρ.al⟩
 have hρ:∀o:Id,s.U o.1→ρ' o=ρ o:=fun o ho=>if_neg (fun e:o.1=d=>hU (by rw[←e];exact ho))
 have hnew:∀q:Nat×Nat,ρ' (d,q)=ρr (0,q):=fun q=>if_pos rfl
 have hown1:∀o b,o.1=d→Own ρ' o b→blk (ρr (0,o.2))=some b:=fun o b e h1=>by
  rcases h1 with h1|h1
  ·have:ρ' o=ρr (0,o.2):=if_pos e
   rwa [this]at h1
  ·exact absurd e h1.1
 have hown2:∀o b,s.U o.1→Own ρ' o b→Own ρ o b:=fun o b e h1=>by
  rcases h1 with h1|h1
  ·rw[hρ o e]at h1;exact .inl h1
  ·exact .inr h1.2
 have hT:Turn (fun _=>False) w w':=⟨hb.os,hb.tape,hb.output,hb.size,fun k hk _=>hb.block k hk⟩
 have hH:∀o x,updH s.H (r.us d) o=some x→(o,x)∈r.os d∨(o∉(r.os d).map (·.1)∧s.H o=some x):=fun o x ho=>updH_some (r.os d) s.H o x ho
 have hok:∀b,okp b→okB ρ' (updH s.H (r.us d)) w' b:=by
  intro b hb'
  refine⟨⟨(hokp b hb').1,h.alw b (.inl (Nat.le_trans h.base (hokp b hb').2))⟩,fun o x ho he=>?_⟩
  rcases hH o x ho with h1|⟨_,h1⟩
  ·obtain⟨g1,g2⟩:=res_mem h1
   exact((hobj _ _ g2).2 b (hown1 o b g1 he)).2.2 hb'
  ·have:=(h.rng o x b h1 (hown2 o b (h.usedH o x h1).1 he)).1
   have:=(hokp b hb').2
   omega
 refine⟨ρ',?_⟩
 have:=h.step (fun _=>False) ((r.os d).map (·.1)) (w':=w') (ρ':=ρ') (H':=updH s.H (r.us d)) (U':=fun n=>s.U n∨n=d) (a':=a.put (some d) v) (L':=putL s.L (some d) (r.av d)) hT (by rw[put_size];exact h.size) (by rw[put_defers];exact h.defers) hρ
  (fun o x _ ho=>by
   funext c
   have:o.1≠d:=fun e=>hU (by rw[←e];exact(h.usedH o x ho).1)
   exact propext ⟨fun h=>h.2,fun h=>⟨this,h⟩⟩) rfl
  (fun o ho=>updH_other _ _ o (by simpa [Res.us]using ho)) (fun n hn=> .inl hn) (fun _ _ h=>h) (fun _ _ _ _ _ _ h=>h) (fun _ _ _ h=>h)
  (fun o x b h1 h2 h3=>by
   rcases hH o x h2 with g|⟨g,_⟩
   ·obtain⟨g1,g2⟩:=res_mem g
    have:=(hobj _ _ g2).2 b (hown1 o b g1 h3)
    exact⟨this.2.1,.inl (Nat.le_trans h.base this.1),.inl this.1⟩
   ·exact absurd h1 g)
  (fun o o' x x' b h1 h2 h3 h4 hne h5 h6=>by
   rcases hH o x h3 with g|⟨g,_⟩
   ·rcases hH o' x' h4 with g'|⟨g',_⟩
    ·obtain⟨e1,e2⟩:=res_mem g
     obtain⟨e3,e4⟩:=res_mem g'
     refine hsep _ _ _ _ e2 e4 (fun he=>hne ?_) b (hown1 o b e1 h5) (hown1 o' b e3 h6)
     have:o.2=o'.2:=congrArg (·.2) he
     exact Prod.ext (e1.trans e3.symm) this
    ·exact absurd h2 g'
   ·exact absurd h1 g)
  (fun hk o x h1 h2=>by
   rcases hH o x h2 with g|⟨g,_⟩
   ·obtain⟨g1,g2⟩:=res_mem g
    have e:ρ' o=ρr (0,o.2):=if_pos g1
    have hx:=(hobj _ _ g2).1
    refine⟨?_,.inr g1,?_⟩
    ·obtain⟨sz,rows,rfl⟩:=res_arr g2
     obtain⟨hu,hx⟩:=hx
     refine⟨hu,?_⟩
     rcases hx with⟨k1,k2⟩|⟨b,cap,cur,e',fz,k1,k2,k3,k4,k5,k6,k7,k8⟩
     ·exact .inl ⟨by rw[e];exact k1,k2⟩
     ·exact .inr ⟨b,cap,cur,e',fz,by rw[e];exact k1,k2,k3,k4,k5,k6,k7.keep (fun c hc'=>⟨rfl,hok c hc'.1,fun e=>Nat.le_trans h.base (hc'.2 e)⟩),fun e=>Nat.le_trans h.base (k8 e)⟩
    ·obtain⟨sz,rows,rfl⟩:=res_arr g2;simp[AO.ids]
   ·exact absurd h1 g)
  (fun hk t=>h.slots (dst:=some d) (fun d' e=>by injection e with e;omega) (U':=fun n=>s.U n∨n=d) (av_turn hnew hok hrv) (fun id hid=> .inr (av_ids d r id hid)) t)
 exact this.congr (fun _=>rfl) (fun _=>rfl) (fun n=>by simp[F_.app,eq_comm])
theorem sound_call {f:FuncId}{args:Array Operand}{argTypes:Array TypeId}{d:Nat}(hdst:o.dst=some d)(ho:o.op= .call {callee:= .value (.func f),args,argTypes}){ts:List TV}{r:Res}(ha:argTrees H (args.toList.map ev) ts)(hs:Spec P f ts r):
  Good P o ev H ⟨r.av d,r.us d,some d,(args.toList.map ev).flatMap AV.ids⟩:=by
 intro N B M w0 ρ s a w Q K hc hop hR hn hd hK
 rw[hdst]at hd hK
 have hargs:=args_ok hc args.toList ts (fun x hx=>hop x (by simp only[ho,Op.operands,Call.operands,Array.toList_append,List.mem_append];exact .inr hx)) hR ha
 have hcalls:=hs.2 w (args.map a.eval) (by simpa using hargs)
 have hrun:(execOp a.eval o).run P w= .ok (.enter f (args.map a.eval)) w:=by
  have he:a.eval (.func f)= .func (.func f) #[] #[]:=rfl
  simp[execOp,ho,resolve,he,Deferred.ofValue,invoke,hs.1 _ _]
 unfold Oper.wp
 rw[hrun]
 show Calls P f (args.map a.eval) w _
 refine hcalls.mono fun e w' ⟨v,he,hb,hr⟩=>?_
 subst he
 obtain⟨ρ',h'⟩:=hc.result (hd d rfl) (hn d rfl) hb hr ((args.toList.map ev).flatMap AV.ids)
 show K (a.put o.dst v) w'
 rw[hdst]
 exact hK _ _ ρ' h'
theorem sound_call_drop {f:FuncId}{args:Array Operand}{argTypes:Array TypeId}(hdst:o.dst=none)(ho:o.op= .call {callee:= .value (.func f),args,argTypes}){ts:List TV}{r:Res}(ha:argTrees H (args.toList.map ev) ts)(hs:Spec P f ts r):
  Good P o ev H ⟨.unk,[],none,(args.toList.map ev).flatMap AV.ids⟩:=by
 intro N B M w0 ρ s a w Q K hc hop hR hn hd hK
 rw[hdst]at hd hK
 have hargs:=args_ok hc args.toList ts (fun x hx=>hop x (by simp only[ho,Op.operands,Call.operands,Array.toList_append,List.mem_append];exact .inr hx)) hR ha
 have hcalls:=hs.2 w (args.map a.eval) (by simpa using hargs)
 have hrun:(execOp a.eval o).run P w= .ok (.enter f (args.map a.eval)) w:=by
  have he:a.eval (.func f)= .func (.func f) #[] #[]:=rfl
  simp[execOp,ho,resolve,he,Deferred.ofValue,invoke,hs.1 _ _]
 unfold Oper.wp
 rw[hrun]
 show Calls P f (args.map a.eval) w _
 refine hcalls.mono fun e w' ⟨v,he,hb,hr⟩=>?_
 subst he
 show K (a.put o.dst v) w'
 rw[hdst]
 refine hK v w' ρ ?_
 have hT:Turn (fun _=>False) w w':=⟨hb.os,hb.tape,hb.output,hb.size,fun k hk _=>hb.block k hk⟩
 have:=hc.step (fun _=>False) [] (w':=w') (ρ':=ρ) (H':=s.H) (U':=s.U) (a':=a) (L':=s.L) hT hc.size hc.defers
  (fun _ _=>rfl) (fun _ _ _ _=>rfl) rfl (fun _ _=>rfl) (fun _ h=>h) (fun _ _ h=>h) (fun _ _ _ _ _ _ h=>h) (fun _ _ _ h=>h) (by simp) (by simp) (by simp) (fun _ t=> .inl ⟨rfl,rfl⟩)
 exact this.congr (fun _=>rfl) (fun _=>rfl) (fun n=>by simp[F_.app])
end
end Go.Sim
