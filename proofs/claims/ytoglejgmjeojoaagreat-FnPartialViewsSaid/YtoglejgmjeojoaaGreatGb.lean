import Derived.Test.YtoglejgmjeojoaaGreatGa
namespace Go.Sim
open Go.RowKit
section
variable {P:Program} {Γ:Env} {N B:Nat} {M:Nat->Prop} {w0:Start} {ρ:Rho} {s:F_} {a:Act} {w:World} {o:Oper} {ev:Operand->AV} {H:Id->Option AO} {K:Eff->Prop} {KV:AV->Prop}
theorem cE:∀(us:List (Id×Option AO)) (H:Id->Option AO) (o:Id),o∉us.map (·.1)->bW H us o=H o
 | [],_,_,_=>rfl
 | p::r,H,o,h=>by
  simp only[p7,d7,not_or]at h;rw[bW,cE r _ o h.2,b8 h.1]
theorem zS:∀(rm:List Id) (H:Id->Option AO) (q:Id) (x:Option AO),bW H (rm.map (fun r=>(r,none))++[(q,x)])=fun o=>if o=q then x else if o∈rm then none else H o
 | [],H,q,x=>by simp[bW]
 | r::rm,H,q,x=>by
  rw[p7,u3,bW,zS rm];funext o;by_cases h1:o=q
  ·simp[h1]
  ·by_cases h2:o∈rm
   ·simp[h1,h2]
   ·by_cases h3:o=r<;>simp[h1,h2,h3]
theorem V91{p:Prop}(h:p:=by
 have e':o'≠q:=fun e2=>M9 (e.trans e2.symm);simp only[d7,e',false_or]at h2;simp only[b8 e',c7 h2]at h4
 cases h4):p:=h
theorem Conc.make (h:Conc N B M w0 ρ s a w){d:Nat}(hd:d<N)(hU:¬s.U d){w':World}{D:Nat->Prop}(rm:List Id)(hT:Turn D w w'){v vv:Value}{x:AO}{av:AV}{R:List Id}(F:Nat->Prop)
  (hD:∀b,D b->∃o x',o∈rm/\s.H o=some x'/\Own ρ o b)
  (hv:∀b,blk v=some b->b<w'.heap.size/\(w.heap.size<=b\/∃o x',o∈rm/\s.H o=some x'/\Own ρ o b))
  (hF:∀b,F b->∃o x',o∈rm/\s.H o=some x'/\Own ρ o b)
  (S5:∀id∈x.ids,s.U id.1) (WY:∀id∈av.ids,id.1=d\/s.U id.1)
  (Nz:∀(ρ':Rho) (ok':Nat->Prop),(∀b,okB ρ s.H w b->w'.heap[b]?=w.heap[b]?/\ok' b)->(∀o x' b,o∈rm->s.H o=some x'->Own ρ o b->blk v≠some b->¬F b->ok' b)->
   (∀o,s.U o.1->ρ' o=ρ o)->ρ' (d,0,0)=v->(∀b,F b->ρ'.fp (d,0,0) b)->RO B ρ' w' ok' (d,0,0) x/\RV B ρ' w' ok' vv av):
  ∃ρ',Conc N B M w0 ρ' (s.app (some d) ⟨av,rm.map (fun r=>(r,none))++[((d,0,0),some x)],some d,R⟩) (a.put (some d) vv) w':=by
 let q:Id:=(d,0,0)
 let ρ':Rho:=⟨fun o=>if o.1=d then v else ρ o,fun o c=>if o=q then F c else ρ.fp o c,ρ.al⟩
 have hρ:∀o:Id,s.U o.1->ρ' o=ρ o:=fun o ho=>by
  show(if o.1=d then v else ρ o)=ρ o;exact b8 (fun e:o.1=d=>hU aaV)
 have hq:ρ' q=v:=by show(if d=d then v else _)=v;simp
 have Rk:∀c,ρ'.fp q c↔F c:=fun c=>by show(if q=q then _ else _)↔_;simp
 have Pz:∀o c,o≠q->(ρ'.fp o c↔ρ.fp o c):=fun o c ho=>by show(if o=q then _ else _)↔_;simp[ho]
 have Nj:∀o c,o≠q->s.U o.1->(Own ρ' o c↔Own ρ o c):=fun o c h1 h2=>by unfold Own;rw[hρ o h2,Pz o c h1]
 have Ra:=zS rm s.H q (some x)
 have PK:∀o x' b,o∈rm->s.H o=some x'->Own ρ o b->blk v≠some b->¬F b->okB ρ' (bW s.H (rm.map (fun r=>(r,none))++[(q,some x)])) w' b:=by
  intro o x' b h1 h2 h3 h4 RL;refine⟨⟨z8 (h.rng o x' b h2 h3).1 hT.size,h.alw b (h.rng o x' b h2 h3).2⟩,fun o1 x1 h5 h6=>?_⟩;rw[Ra]at h5;by_cases e:o1=q
  ·subst e;rcases h6 with h6|h6
   ·rw[hq]at h6;exact h4 h6
   ·exact RL ((Rk b).1 h6)
  ·simp only[b8 e]at h5;by_cases e2:o1∈rm
   ·simp[e2]at h5
   ·simp only[b8 e2]at h5;rw[Nj o1 b e (h.usedH o1 x1 h5).1]at h6;exact h.sep o o1 x' x1 b h2 h5 (fun e3=>e2 (e3▸h1)) h3 h6
 refine⟨ρ',?_⟩;have hnq:∀o x',s.H o=some x'->o≠q:=fun o x' h1 e=>hU (by have:=(h.usedH o x' h1).1;rw[e]at this;exact this)
 have:=h.step D (q::rm) (w':=w') (ρ':=ρ') (H':=bW s.H (rm.map (fun r=>(r,none))++[(q,some x)])) (U':=fun n=>s.U n\/n=d) (a':=a.put (some d) vv) (L':=mE s.L (some d) av) hT
  aaK aaH hρ
  (fun o x' h1 h2=>by funext c;exact propext (Pz o c (hnq o x' h2))) rfl
  (fun o ho=>by
   rw[Ra];simp only[d7,not_or]at ho
   simp only[b8 ho.1,b8 ho.2])
  (fun n hn=> .inl hn)
  (fun b hb UJ=>by obtain⟨o,x',_,h2,h3⟩:=hD b UJ;exact hb.2 o x' h2 h3)
  (fun o x1 b h1 h2 h3 UJ=>by
   obtain⟨o',x',g1,g2,g3⟩:=hD b UJ
   exact h.sep o o' x1 x' b h1 g2 (fun e=>h2 (by rw[e];simp[g1])) h3 g3)
  (fun b hb hM UJ=>by
   obtain⟨o',x',g1,g2,g3⟩:=hD b UJ;rcases(h.rng o' x' b g2 g3).2 with g|g
   ·omega
   ·exact hM g)
  (fun o x1 b h1 h2 h3=>by
   rw[Ra]at h2;by_cases e:o=q
   ·subst e
    have h3:(b<w'.heap.size/\(w.heap.size<=b\/∃o x',o∈rm/\s.H o=some x'/\Own ρ o b)):=by
     rcases h3 with h3|h3
     ·rw[hq]at h3;exact hv b h3
     ·obtain⟨o',x',g1,g2,g3⟩:=hF b ((Rk b).1 h3);exact⟨z8 (h.rng o' x' b g2 g3).1 hT.size,.inr ⟨o',x',g1,g2,g3⟩⟩
    obtain⟨g1,g2⟩:=h3;refine⟨g1,?_,?_⟩
    ·rcases g2 with g|⟨o',x',_,g3,g4⟩
     ·exact .inl (v6 h.base g)
     ·exact(h.rng o' x' b g3 g4).2
    ·rcases g2 with g|⟨o',x',g2,g3,g4⟩
     ·exact .inl g
     ·exact .inr ⟨o',x',g3,by simp[g2],g4⟩
   ·simp only[d7,e,false_or]at h1;simp only[b8 e,c7 h1]at h2
    cases h2)
  (fun o o' x1 x2 b h1 h2 h3 h4 M9=>by
   rw[Ra]at h3 h4;exfalso;by_cases e:o=q
   ·exact V91
   ·simp only[d7,e,false_or]at h1;simp only[b8 e,c7 h1]at h3
    cases h3)
  (fun hk o x1 h1 h2=>by
   rw[Ra]at h2;by_cases e:o=q
   ·subst e;simp only[if_true,Option.some.injEq]at h2;subst h2;exact⟨(Nz ρ' _ hk PK hρ hq (fun b hb=>(Rk b).2 hb)).1,.inr rfl,fun id M7=> .inl (S5 id M7)⟩
   ·simp only[d7,e,false_or]at h1;simp only[b8 e,c7 h1]at h2
    cases h2)
  (fun hk t=>h.slots (dst:=some d) (fun d' e=>by injection e with e;omega) (U':=fun n=>s.U n\/n=d) (Nz ρ' _ hk PK hρ hq (fun b hb=>(Rk b).2 hb)).2 (fun id M7=>(WY id M7).symm) t)
 exact this.congr (fun _=>rfl) (fun _=>rfl) (fun n=>by simp[F_.app,eq_comm])
theorem kN (w:World)(o:Obj):(w.alloc o).heap[w.heap.size]?=some o:=heap_alloc_new w o
theorem dF (n:Nat):cp n (0,0):=fun p _ h=>by simp at h
theorem Conc.newBox (h:Conc N B M w0 ρ s a w){d:Nat}(hd:d<N)(hU:¬s.U d){us:Array Value}{t:TypeId}{cells:List AC}(hr:RCs B ρ w (okB ρ s.H w) us.toList cells)(hi:∀id∈cells.flatMap AC.ids,s.U id.1)(R:List Id):
  ∃ρ',Conc N B M w0 ρ' (s.app (some d) ⟨.r (.c (.ptr (d,0,0) 0)),[((d,0,0),some (.box cells))],some d,R⟩) (a.put (some d) (.pointer (some ⟨w.heap.size,0,none⟩))) (w.alloc (.cells us t)):=by
 refine h.make hd hU (D:=fun _=>False) [] (Turn.alloc _ _ _) (v:= .pointer (some ⟨w.heap.size,0,none⟩)) (fun _=>False) (fun _ h=>h.elim) (fun b hb=>?_) (fun _ h=>h.elim) hi (fun id M7=>?_) (fun ρ' ok' hk _ hρ hq _=>⟨?_,?_⟩)
 ·injection hb with hb;subst hb;exact⟨s_,.inl (d8 _)⟩
 ·simp[AV.ids,AR.ids,AC.ids]at M7;left;rw[M7]
 ·refine⟨w.heap.size,us,t,(0,0),hq,kN w _,dF _,hr.keep hk fun o ho=>hρ o (hi o ho)⟩
 ·exact⟨w.heap.size,hq,rfl⟩
theorem jM (e:TypeId)(cs:Array Value):(newRow e cs).run P w= .ok ⟨w.heap.size,0,none⟩ (w.alloc (.cells cs e)):=rfl
theorem V123{p:Prop}(h:p:=by
 unfold Oper.wp;rw[M8];show K (a.put o.dst _) _;rw[Nq]
 exact hK _ _ ρ' h'):p:=h
theorem AN {T:TypeId}{d:Nat}{ti:Mm}(hΓ:Γ.chk P=true)(hT:Γ.get T=some ti)(Nq:o.dst=some d)(ho:o.op= .alloc T):
  Good P o ev H ⟨.r (.c (.ptr (d,0,0) 0)),[((d,0,0),some (.box ti.zero))],some d,[]⟩:=by
 obtain⟨i,dd,fit⟩:=Env.fit hΓ hT;obtain⟨z,hz,hm⟩:=fit.zero;intro N B M w0 ρ s a w Q K hc M1 hR hn hd hK;rw[Nq]at hd hK;obtain⟨ρ',h'⟩:=hc.newBox (hd d rfl) (hn d rfl) (us:=z.cells) (t:=T) (dX (B:=B) (ρ:=ρ) (w:=w) (ok:=okB ρ s.H w) hm) (by rw[pP hm];simp) []
 have M8:(execOp a.eval o).run P w= .ok (.value (.pointer (some ⟨w.heap.size,0,none⟩))) (w.alloc (.cells z.cells T)):=by simp[execOp,ho,Instr.alloc,fF fit.info hz,newVar,jM]
 exact V123
theorem Gw {T:TypeId}{d:Nat}{x:Operand}{ar:AR}(Nq:o.dst=some d)(ho:o.op= .box T x)(hx:ev x= .r ar):
  Good P o ev H ⟨.r (.c (.ptr (d,0,0) 0)),[((d,0,0),some (.box ar.cells))],some d,[]⟩:=by
 intro N B M w0 ρ s a w Q K hc M1 hR hn hd hK;rw[Nq]at hd hK;have hv:=hc.eval x;rw[M1 x aaa,hx]at hv
 obtain⟨ρ',h'⟩:=hc.newBox (hd d rfl) (hn d rfl) (us:=(a.eval x).cells) (t:=T) (RR.cells hv.1) (by
  have:=hv.2
  cases ar with
  | c y=>intro id M7;exact this id (by simpa [AR.cells,AV.ids,AR.ids]using M7)
  | agg cs=>exact this) []
 have M8:(execOp a.eval o).run P w= .ok (.value (.pointer (some ⟨w.heap.size,0,none⟩))) (w.alloc (.cells (a.eval x).cells T)):=by simp[execOp,ho,Instr.box,newVar,jM]
 exact V123
theorem Conc.newArr (h:Conc N B M w0 ρ s a w){d:Nat}(hd:d<N)(hU:¬s.U d)(rm:List Id){w':World}(hT:Turn (fun _=>False) w w'){b cap sz:Nat}{us:Array Value}{e:TypeId}{fz:Nat×Nat}{rows:List (List Tr)}{fr:Bool}
  (hb:w.heap.size<=b) (hh:w'.heap[b]?=some (.cells us e fz)) (hf:cp us.size fz) (hu:∀r∈rows,r.length=sz) (h1:rows.length<=cap) (h2:cap<=maxLen) (h3:us.size=cap*sz)
  (hr:∀ok':Nat->Prop,(∀c,okB ρ s.H w c->ok' c)->(∀o x c,o∈rm->s.H o=some x->Own ρ o c->ok' c)->RTs w (okF B ok' fr) (us.toList.take (rows.length*sz)) rows.flatten) (R:List Id):
  ∃ρ',Conc N B M w0 ρ' (s.app (some d) ⟨.r (.c (.own (d,0,0))),rm.map (fun r=>(r,none))++[((d,0,0),some (.arr fr sz rows))],some d,R⟩) (a.put (some d) (.slice (some ⟨b,0,none⟩) rows.length cap)) w':=by
 have M3:b<w'.heap.size:=(E4.1 hh).1;refine h.make hd hU (D:=fun _=>False) rm hT (v:= .slice (some ⟨b,0,none⟩) rows.length cap) (fun _=>False) (fun _ h=>h.elim) (fun b' Nf=>?_) (fun _ h=>h.elim) (fun id M7=>by simp[AO.ids]at M7) (fun id M7=>?_) (fun ρ' ok' hk PK hρ hq _=>⟨?_,?_⟩)
 ·injection Nf with Nf;subst Nf;exact⟨M3,.inl hb⟩
 ·simp[AV.ids,AR.ids,AC.ids]at M7;left;rw[M7]
 ·have QT:∀c,okB ρ s.H w c\/(∃o x,o∈rm/\s.H o=some x/\Own ρ o c)->w'.heap[c]?=w.heap[c]?/\ok' c:=by
   rintro c (hc|⟨o,x,g1,g2,g3⟩)
   ·exact hk c hc
   ·have hr:=(h.rng o x c g2 g3).1;refine⟨hT.block c hr (fun h=>h),PK o x c g1 g2 g3 ?_ (fun h=>h)⟩;intro e;have e':b=c:=(by simpa [blk]using e);omega
  refine⟨hu,.inr ⟨b,cap,us,e,fz,hq,hh,hf,h1,h2,h3,?_,fun _=>v6 h.base hb⟩⟩;have:=hr (fun c=>okB ρ s.H w c\/(∃o x,o∈rm/\s.H o=some x/\Own ρ o c)) (fun c hc=> .inl hc) (fun o x c g1 g2 g3=> .inr ⟨o,x,g1,g2,g3⟩);exact this.keep (iS QT)
 ·exact⟨⟨_,_,_,hq⟩,hq.symm⟩
theorem HB {ok':Nat->Prop}{fr:Bool}{sz:Nat}{rows:List (List Tr)}{o:Id}(hc:Conc N B M w0 ρ s a w)(ho:s.H o=some (.arr fr sz rows))(M5:∀c,okB ρ s.H w c->ok' c)(hb:∀c,Own ρ o c->ok' c):
  RT w (okF B ok' fr) (ρ o) (.lst sz rows):=by
 obtain⟨hu,g⟩:=hc.arr ho;rcases g with⟨g1,g2⟩|⟨b,cap,cur,e,fz,g1,g2,g3,g4,g5,g6,g7,g8,g9⟩
 ·subst g2;rw[g1];exact .emp _ _ _ (w6 _)
 ·rw[g1];have Nf:=hb b (.inl aai);refine .lst _ _ _ _ _ (cur.toList.take (rows.length*sz)) rfl g4 g5 hu ⟨Nf,g9⟩ (by rw[g7.length]) g8 fun p v u hv NE=>?_;exact(g7.get p v u hv NE).keep fun c M6=>⟨rfl,M5 c M6.1,M6.2⟩
theorem lA {ok':Nat->Prop}(hc:Conc N B M w0 ρ s a w)(M5:∀c,okB ρ s.H w c->ok' c):∀{vs:List Value} {cs:List AC} {ts:List Tr} {fr:Bool} {ids:List Id},frz H cs=some (ts,fr,ids)->(∀o∈ids,s.H o=H o)->RCs B ρ w (okB ρ s.H w) vs cs->
  (∀o x c,o∈ids->s.H o=some x->Own ρ o c->ok' c)->RTs w (okF B ok' fr) vs ts
 | [],[],ts,fr,ids,h,_,_,_=>by simp only[frz,Option.some.injEq,Prod.mk.injEq]at h;obtain⟨rfl,_⟩:=h;trivial
 | v::vs,c::cs,ts,fr,ids,h,hH,hr,hb=>by
  cases c with
  | t x=>
   simp only[frz]at h
   cases hf:frz H cs with
   | none=>rw[hf]at h;simp at h
   | some p=>
    obtain⟨Qp,fr',N4⟩:=p;rw[hf]at h;have hx:RT w (okB ρ s.H w) v x:=hr.1
    cases x with
    | lst sz rows=>
     simp only[Option.some.injEq,Prod.mk.injEq]at h;obtain⟨rfl,rfl,rfl⟩:=h;have ih:=lA (ok':=ok') hc M5 hf hH hr.2 hb
     exact⟨hx.keep fun c M6=>⟨rfl,M5 c M6,fun e=>by cases e⟩,ih.keep (gq fun e=>by cases e)⟩
    | int=>
     simp only[Option.some.injEq,Prod.mk.injEq]at h;obtain⟨rfl,rfl,rfl⟩:=h
     exact⟨by cases hx;exact .int _ _,lA hc M5 hf hH hr.2 hb⟩
    | bool=>
     simp only[Option.some.injEq,Prod.mk.injEq]at h;obtain⟨rfl,rfl,rfl⟩:=h
     exact⟨by cases hx;exact .bool _,lA hc M5 hf hH hr.2 hb⟩
    | str=>
     simp only[Option.some.injEq,Prod.mk.injEq]at h;obtain⟨rfl,rfl,rfl⟩:=h
     exact⟨by cases hx;exact .str _,lA hc M5 hf hH hr.2 hb⟩
  | f x=>
   simp only[frz]at h
   cases hf:frz H cs with
   | none=>rw[hf]at h;simp at h
   | some p=>
    obtain⟨Qp,fr',N4⟩:=p;rw[hf]at h;simp only[Option.some.injEq,Prod.mk.injEq]at h;obtain⟨rfl,rfl,rfl⟩:=h;have hx:RT w (okF B (okB ρ s.H w) true) v x:=hr.1
    exact⟨hx.keep fun c M6=>⟨rfl,M5 c M6.1,fun _=>M6.2 rfl⟩,lA hc M5 hf hH hr.2 hb⟩
  | nils sz=>
   simp only[frz]at h
   cases hf:frz H cs with
   | none=>rw[hf]at h;simp at h
   | some p=>
    obtain⟨Qp,fr',N4⟩:=p;rw[hf]at h;simp only[Option.some.injEq,Prod.mk.injEq]at h;obtain⟨rfl,rfl,rfl⟩:=h;have hx:v= .slice none 0 0:=hr.1;subst hx
    exact⟨.emp _ _ _ (w6 _),lA hc M5 hf hH hr.2 hb⟩
  | own o=>
   simp only[frz]at h;split at h
   ·rename_i fr1 sz rows Qp fr' N4 ho hf;simp only[Option.some.injEq,Prod.mk.injEq]at h;obtain⟨rfl,rfl,rfl⟩:=h;have Nr:s.H o=some (.arr fr1 sz rows):=(by rw[hH o s_];exact ho);obtain⟨_,hx⟩:=hr.1;have h1:=HB (ok':=ok') hc Nr M5 (fun c ZX=>hb o _ c s_ Nr ZX);rw[hx];exact⟨h1.keep (gq fun e=>by simp at e;exact e.1),(lA hc M5 hf (fun o ho=>hH o aah) hr.2 (fun o x c h1 h2 h3=>hb o x c (by simp[h1]) h2 h3)).keep (gq fun e=>by simp at e;exact e.2)⟩
   ·cases h
  | nilp=>simp[frz]at h
  | sub=>simp[frz]at h
  | ptr=>simp[frz]at h
  | opq=>simp[frz]at h
  | mpv=>simp[frz]at h
 | [],_::_,_,_,_,_,_,h,_=>h.elim
 | _::_,[],_,_,_,_,_,h,_=>h.elim
theorem sC (sz:Nat):∀(parts:List (Nat×Value)) (n0:Nat) (pre:List Value) (rest:List Value),pre.length=n0*sz->(∀(j:Nat) (p:Nat×Value),parts[j]?=some p->p.1=n0+j/\p.2.cells.size=sz)->rest.length=parts.length*sz->
  Instr.fill (fun i=>some (i*sz,sz)) (pre++rest).toArray parts=some (pre++parts.flatMap (fun p=>p.2.cells.toList)).toArray
 | [],n0,pre,rest,_,_,hr=>by
  have:rest=[]:=w7 aaO;subst this
  simp[Instr.fill]
 |(i,v)::parts,n0,pre,rest,hp,TC,hr=>by
  obtain⟨h1,h2⟩:=TC 0 (i,v) s_;simp only[y6]at h1 h2;subst h1;have N7:rest.length=sz+parts.length*sz:=by rw[hr,d5,p8];omega
  have Qz:v.cells.zipIdx.foldl (fun cs (x:Value×Nat)=>cs.setIfInBounds (i*sz+x.2) x.1) (pre++rest).toArray=(pre++v.cells.toList++rest.drop sz).toArray:=by
   have key:∀(vs:List Value) (k:Nat) (pre rest:List Value),vs.length<=rest.length->
     (vs.zipIdx k).foldl (fun(cs:Array Value) (x:Value×Nat)=>cs.setIfInBounds (pre.length-k+x.2) x.1) (pre++rest).toArray=(pre++vs++rest.drop vs.length).toArray\/pre.length<k:=by
    intro vs
    induction vs with
    | nil=>intro k pre rest _;left;simp
    | cons u vs ih=>
     intro k pre rest hl;rcases m5 pre.length k with hk|hk
     ·exact .inr hk
     left
     cases rest with
     | nil=>simp at hl
     | cons r rest=>
      simp only[List.zipIdx_cons,F1]
      have e1:(pre++r::rest).toArray.setIfInBounds (pre.length-k+k) u=((pre++[u])++rest).toArray:=by rw[Nat.sub_add_cancel hk];simp
      rw[e1];have:=ih (k+1) (pre++[u]) rest aaN;rcases this with this|this
      ·have e2:(pre++[u]).length-(k+1)=pre.length-k:=s_;rw[e2]at this;rw[this];simp
      ·simp at this;omega
   have:=key v.cells.toList 0 pre rest aab;rcases this with this|this
   ·rw[<-Array.foldl_toList,Array.toList_zipIdx];simp only[y7,hp]at this;rw[this];simp[h2]
   ·omega
  simp only[Instr.fill];rw[b8 (by simp[h2];omega),Qz]
  have:=sC sz parts (i+1) (pre++v.cells.toList) (rest.drop sz) (by simp[hp,h2,p8]) (fun j p hj=>by
   obtain⟨g1,g2⟩:=TC (j+1) p aaA
   exact⟨o_,g2⟩) (by rw[r7];omega)
  rw[this];simp
theorem qG:∀(parts:List (Nat×Operand)) (n:Nat) (K:Bool->List (List Tr)->List Id->Prop),nJ H n (parts.map fun p=>(p.1,ev p.2)) K->
  ∃fr rows ids,K fr rows ids/\rows.length=parts.length/\(∀(j:Nat) (p:Nat×Operand),parts[j]?=some p->p.1=n+j)/\
   ∀(N B:Nat) (M:Nat->Prop) (w0:Start) (ρ:Rho) (s:F_) (a:Act) (w:World) (ok':Nat->Prop),Conc N B M w0 ρ s a w->(∀c,okB ρ s.H w c->ok' c)->(∀o∈ids,s.H o=H o)->(∀o x c,o∈ids->s.H o=some x->Own ρ o c->ok' c)->
    (∀p∈parts,RV B ρ w (okB ρ s.H w) (a.eval p.2) (ev p.2))->∀(j:Nat) (p:Nat×Operand) (row:List Tr),parts[j]?=some p->rows[j]?=some row->RTs w (okF B ok' fr) (a.eval p.2).cells.toList row
 | [],n,K,h=>⟨true,[],[],h,rfl,s_,s_⟩
 |(i,x)::parts,n,K,h=>by
  simp only[p7,nJ]at h
  cases hx:ev x with
  | r ar=>
   rw[hx]at h;simp only[nJ]at h;split at h
   ·rename_i ts fr0 ids0 hn Ps;have hin:i=n:=(by simpa using hn);obtain⟨fr,rows,ids,h1,h2,h3,h4⟩:=qG parts (n+1) _ h;refine⟨_,ts::rows,_,h1,by simp[h2],fun j p hj=>?_,fun N B M w0 ρ s a w ok' hc M5 hH hb hf j p row hj hr=>?_⟩
    ·cases j with|zero=>simp at hj;subst hj;simpa using hin|succ j=>have:=h3 j p aaA;omega
    ·cases j with
     | zero=>
      simp at hj hr;subst hj;subst hr;have:=hf (i,x) s_;simp only at this;rw[hx]at this
      exact(lA hc M5 Ps (fun o ho=>hH o aah) (RR.cells this) (fun o x c g1 g2 g3=>hb o x c (by simp[g1]) g2 g3)).keep (gq fun e=>by simp at e;exact e.1)
     | succ j=>exact(h4 N B M w0 ρ s a w ok' hc M5 (fun o ho=>hH o aah) (fun o x c g1 g2 g3=>hb o x c (by simp[g1]) g2 g3) (fun p hp=>hf p (by simp[hp])) j p row aaA aaO).keep (gq fun e=>by simp at e;exact e.2)
   ·exact h.elim
  | tup=>rw[hx]at h;exact h.elim
  | el=>rw[hx]at h;exact h.elim
  | ro=>rw[hx]at h;exact h.elim
  | unk=>rw[hx]at h;exact h.elim
 termination_by parts=>parts.length
theorem Bu {ok:Nat->Prop}:∀(vss:List (List Value)) (rows:List (List Tr)),vss.length=rows.length->(∀(j:Nat) (vs:List Value) (row:List Tr),vss[j]?=some vs->rows[j]?=some row->RTs w ok vs row)->RTs w ok vss.flatten rows.flatten
 | [],[],_,_=>trivial
 | vs::vss,row::rows,hl,h=>RTs.append (h 0 vs row s_ s_) (Bu vss rows aaN fun j vs row h1 h2=>h (j+1) vs row aaj aag)
 | [],_::_,hl,_=>by simp at hl
 | _::_,[],hl,_=>by simp at hl
theorem mw {T e:TypeId}{n:Nat}{i ie:TypeInfo}{z:Value}(hu:P.underlying T=some (.slice e))(hi:P.info? e=some ie)(hz:ie.zero=some z)(N2:n*ie.size<=16777216)(vals:Array (Nat×Value))(cs:Array Value)
  (hf:Instr.fill (fun i=>some (i*ie.size,ie.size)) ((Array.range (n*ie.size)).map (fun i=>(if n*ie.size=0 then #[]else z.cells)[i%(if n*ie.size=0 then #[]else z.cells).size]!)) vals.toList=some cs):
  (Instr.buildSlice T n vals).run P w= .ok (.slice (some ⟨w.heap.size,0,none⟩) n n) (w.alloc (.cells cs e)):=by
 have M3:¬n*ie.size>2^24:=o_;unfold Instr.buildSlice;by_cases h0:n*ie.size=0
 ·rw[c7 h0]at hf;simp only[m8,run_underlying hu,j5,cv hi,b8 M3,c7 h0,o9];rw[hf];simp[jM]
 ·rw[b8 h0]at hf;simp only[m8,run_underlying hu,j5,cv hi,b8 M3,b8 h0,o9,fF hi hz];rw[hf];simp[jM]
theorem V115{p:Prop}(h:p:=by
 have:=(hc.eval p.2).1
 rwa [M1 p.2 (by simp only[ho,Op.operands];exact n9.2 ⟨p,hp,rfl⟩)]at this):p:=h
theorem V113{p:Prop}(h:p:=by
 rcases m5 j parts.toList.length with h'|h'
 ·exact h'
 ·rw[e9 h']at hj;cases hj):p:=h
theorem V23{p:Prop}(h:p:=by
 have:=sC te.size ((parts.map fun p=>(p.1,a.eval p.2)).toList) 0 [] init.toList s_ (fun j p hj=>by
  simp only[I3,p6,v5]at hj;obtain⟨q,g1,rfl⟩:=hj;obtain⟨g2,g3⟩:=Nc j q g1
  exact⟨by simp[g2],g3⟩) (by simp only[Array.length_toList,So,I3,e7];rw[<-hn];simp)
 simp only[t7,Array.toArray_toList]at this;rw[this]
 simp[vss,List.flatMap_def];rfl):p:=h
theorem V49{p:Prop}(h:p:=by
 have:=mw (w:=w) (n:=n) (i:=ii) fit.und fite.info hz (by rw[fite.size];exact N2) (parts.map fun p=>(p.1,a.eval p.2)) vss.flatten.toArray (by rw[fite.size];exact SC)
 simp only[execOp,ho,m8,this,j5,o9]):p:=h
theorem sn {T e:TypeId}{d n:Nat}{parts:Array (Nat×Operand)}{ti te:Mm}(hΓ:Γ.chk P=true)(hT:Γ.get T=some ti)(he:ti.elem=some e)(hE:Γ.get e=some te)(Nq:o.dst=some d)(ho:o.op= .buildSlice T n parts)
  (hn:parts.toList.length=n)
  (h:nJ H 0 (parts.toList.map fun p=>(p.1,ev p.2)) fun fr rows ids=>(∀r∈rows,r.length=te.size)/\n*te.size<=16777216/\K ⟨.r (.c (.own (d,0,0))),ids.map (fun r=>(r,none))++[((d,0,0),some (.arr fr te.size rows))],some d,ids⟩):
  ∃ef,K ef/\Good P o ev H ef:=by
 obtain⟨ii,dd,fit⟩:=Env.fit hΓ hT;obtain⟨ie,de,fite⟩:=Env.fit hΓ hE;have hd:=nF fit he;subst hd;obtain⟨z,hz,hm⟩:=fite.zero;obtain⟨fr,rows,ids,⟨hu,N2,hK⟩,N7,Tg,OX⟩:=qG parts.toList 0 _ h;refine⟨_,hK,?_⟩;intro N B M w0 ρ s a w Q K hc M1 hR Nl hd hK;rw[Nq]at hd hK
 have N5:∀p∈parts.toList,RV B ρ w (okB ρ s.H w) (a.eval p.2) (ev p.2):=fun p hp=>by
  exact V115
 let vss:List (List Value):=parts.toList.map fun p=>(a.eval p.2).cells.toList
 have P9:vss.length=rows.length:=by simp[vss,N7]
 have NW:∀ok':Nat->Prop,(∀c,okB ρ s.H w c->ok' c)->(∀o x c,o∈ids->s.H o=some x->Own ρ o c->ok' c)->RTs w (okF B ok' fr) vss.flatten rows.flatten:=by intro ok' M5 hb;have XK:=OX N B M w0 ρ s a w ok' hc M5 hR hb N5;refine Bu vss rows P9 fun j vs row h1 h2=>?_;simp only[vss,p6,v5]at h1;obtain⟨p,g1,rfl⟩:=h1;exact XK j p row g1 h2
 have XK:=OX N B M w0 ρ s a w (fun _=>True) hc (fun _ _=>trivial) hR (fun _ _ _ _ _ _=>trivial) N5
 have Nc:∀(j:Nat) (p:Nat×Operand),parts.toList[j]?=some p->p.1=j/\(a.eval p.2).cells.size=te.size:=by
  intro j p hj
  have Ol:j<parts.toList.length:=by exact V113
  have UX:rows[j]?=some (rows[j]'o_):=i8 o_;have:=(XK j p _ hj UX).length;rw[hu _ (c9 UX)]at this;exact⟨by simpa using Tg j p hj,by simpa using this⟩
 let init:Array Value:=(Array.range (n*te.size)).map (fun i=>(if n*te.size=0 then #[]else z.cells)[i%(if n*te.size=0 then #[]else z.cells).size]!)
 have So:init.size=n*te.size:=by simp[init]
 have SC:Instr.fill (fun i=>some (i*te.size,te.size)) init ((parts.map fun p=>(p.1,a.eval p.2)).toList)=some vss.flatten.toArray:=by exact V23
 have M8:(execOp a.eval o).run P w= .ok (.value (.slice (some ⟨w.heap.size,0,none⟩) n n)) (w.alloc (.cells vss.flatten.toArray e)):=by exact V49
 have M0:rows.length=n:=by rw[N7,hn]
 have Rg:n<=maxLen:=by have:=fite.pos;have h1:n*1<=n*te.size:=A9 _ o_;unfold maxLen;omega
 have Nh:vss.flatten.length=n*te.size:=by rw[(NW (fun _=>True) (fun _ _=>trivial) (fun _ _ _ _ _ _=>trivial)).length,aR te.size rows hu,M0]
 obtain⟨ρ',h'⟩:=hc.newArr (hd d rfl) (Nl d rfl) ids (w':=w.alloc (.cells vss.flatten.toArray e)) (Turn.alloc _ _ _) (b:=w.heap.size) (cap:=n) (sz:=te.size) (us:=vss.flatten.toArray) (e:=e) (fz:=(0,0)) (rows:=rows) (fr:=fr)
  (d8 _) (kN _ _) (dF _) hu o_ Rg (by simp only[B3,Nh]) (fun ok' M5 hb=>by rw[M0,i7 (by simp only[Nh];omega)];exact NW ok' M5 hb) ids
 rw[M0]at h';unfold Oper.wp;rw[M8];show K (a.put o.dst _) _;rw[Nq];exact hK _ _ ρ' h'
theorem eG (b:Nat)(e:TypeId)(fz:Nat×Nat):∀(vs:List Value) (o:Nat) (w:World) (cur:Array Value),w.heap[b]?=some (.cells cur e fz)->o+vs.length<=cur.size->
  ∃Ns,(w.setCells b o vs).heap[b]?=some (.cells Ns e fz)/\Ns.size=cur.size/\Ns.toList=cur.toList.take o++vs++cur.toList.drop (o+vs.length)
 | [],o,w,cur,h,_=>⟨cur,h,rfl,s_⟩
 | v::vs,o,w,cur,h,hl=>by
  simp only[d5]at hl
  have h1:(w.setCell ⟨b,o,none⟩ v).heap[b]?=some (.cells (cur.setIfInBounds o v) e fz):=by simp[World.setCell,Array.getElem?_modify,h]
  obtain⟨Ns,g1,g2,g3⟩:=eG b e fz vs (o+1) _ _ h1 aab;refine⟨Ns,g1,by simpa using g2,?_⟩;rw[g3];have M3:o<cur.toList.length:=by simp;omega
  simp only[Array.toList_setIfInBounds,d5]
  have e1:(cur.toList.set o v).take (o+1)=cur.toList.take o++[v]:=by rw[z6 aab];simp[G5]
  have e2:(cur.toList.set o v).drop (o+1+vs.length)=cur.toList.drop (o+(vs.length+1)):=by rw[List.drop_set_of_lt o_];congr 1;omega
  rw[e1,e2];simp
theorem eH (b:Nat):∀(vs:List Value) (o:Nat) (w:World),Turn (fun k=>k=b) w (w.setCells b o vs)
 | [],_,w=>Turn.refl _ w
 | v::vs,o,w=>(Turn.setCell w ⟨b,o,none⟩ v).trans (eH b vs (o+1) _)
theorem ow {t u ty e:TypeId}{i:TypeInfo}{du:TypeDesc}(ht:P.underlying t=some (.slice e))(hu:P.underlying u=some du)(hk:je du=none)(hi:P.info? e=some i)
  (x:Value) (b sLen sCap n:Nat) (news:List Value) (hl:∀w,(Builtin.lenOf x).run P w= .ok n w) (hf:(Builtin.firstCells i.size n x).run P w= .ok news.toArray w) (NN:sLen+n<=sCap)
  {cur:Array Value} {e':TypeId} {fz:Nat×Nat} (hb:w.heap[b]?=some (.cells cur e' fz)) (hz:cp cur.size fz) (Nx:sLen*i.size+news.length<=cur.size) (h1:∀v∈news,v.oneCell'=true):
  (Builtin.append_ #[t,u] ty #[.slice (some ⟨b,0,none⟩) sLen sCap,x]).run P w= .ok (.slice (some ⟨b,0,none⟩) (sLen+n) sCap) (w.setCells b (sLen*i.size) news):=by
 have Nw:=run_storeCells_cells (P:=P) b (sLen*i.size) news 0 w (fun j hj=>by
   rw[cell_of_row w b _ cur e' fz hb];simp only[y6]
   rw[w8 o_];rfl) (fun j hj=>by
   simp only[World.frozen?,hb,y6];have:=hz (sLen*i.size+j) o_;simp only[B1,p9,Nat.not_le,Nat.not_lt]
   omega) h1
 simp only[y6]at Nw;unfold Builtin.append_;simp only[E0,f9,l4,m8,run_underlying ht,run_underlying hu,j5,cv hi,o9]
 cases du
 case int=>simp[je]at hk
 all_goals simp only[A4,if_false,hl,c7 NN,F5,if_true,hf,dS,Nw,m8,j5,o9]
theorem mU {t u ty e:TypeId}{i:TypeInfo}{z:Value}{du:TypeDesc}(ht:P.underlying t=some (.slice e))(hu:P.underlying u=some du)(hk:je du=none)(hi:P.info? e=some i)(hz:i.zero=some z)
  (x:Value) (A:Option Addr) (sLen sCap n:Nat) (olds news:List Value) (hl:∀w,(Builtin.lenOf x).run P w= .ok n w) (hf:(Builtin.firstCells i.size n x).run P w.drew= .ok news.toArray w.drew)
  (Pz:(Builtin.firstCells i.size sLen (.slice A sLen sCap)).run P w.drew= .ok olds.toArray w.drew)
  (hg:sCap<sLen+n) (h63:sLen+n<=9223372036854775807) (Nx:(sLen+n)*i.bytes<=140737488355328):
  (Builtin.append_ #[t,u] ty #[.slice A sLen sCap,x]).run P w=
   .ok (.slice (some ⟨w.heap.size,0,none⟩) (sLen+n) (grownCap w (sLen+n) sCap e))
    (w.drew.alloc (.cells (olds.toArray++news.toArray++Builtin.zeroCells z.cells (grownCap w (sLen+n) sCap e-(sLen+n))) e)):=by
 have hn:¬(sLen+n<=sCap):=o_
 have Xf:¬(((sLen+n:Nat):Int)>IntKind.i64.max):=by have:IntKind.i64.max=9223372036854775807:=d_;omega
 have Wv:¬(Builtin.nextslicecap (sLen+n) sCap*i.bytes>2^48):=by have:=growslice_fits hg Nx;omega
 unfold Builtin.append_;simp only[E0,f9,l4,m8,run_underlying ht,run_underlying hu,j5,cv hi,o9]
 cases du
 case int=>simp[je]at hk
 all_goals simp only[A4,if_false,hl,b8 hn,F5,if_true,zA hi,b8 Wv,Xf,false_and,m8,j5,o9]
 all_goals
  simp[Question.forced,hf,Pz,fF hi hz,jM,grownCap];congr 2;apply Array.ext';simp[j9]
theorem EI {ok:Nat->Prop}{v:Value}{sz:Nat}{rows:List (List Tr)}(h:RT w ok v (.lst sz rows)):∃news,(∀(P:Program) (w':World),(Builtin.lenOf v).run P w'= .ok rows.length w')/\
  (∀(P:Program) (w':World),(∀b,ok b->w'.heap[b]?=w.heap[b]?)->(Builtin.firstCells sz rows.length v).run P w'= .ok news.toArray w')/\RTs w ok news rows.flatten/\∀r∈rows,r.length=sz:=by
 obtain⟨A,c,rfl,h1,h2,hu,M9⟩:=h.slice_inv;by_cases h0:rows=[]
 ·subst h0;refine⟨[],fun P w'=>by simp[Builtin.lenOf],fun P w' _=>?_,trivial,hu⟩
  cases A with|none=>simp[Builtin.firstCells]|some ad=>simp[Builtin.firstCells,loadCells,loadCellsFrom]
 ·obtain⟨ad,us,rfl,M5,hl,Nc,hr⟩:=M9 h0;refine⟨us,fun P w'=>by simp[Builtin.lenOf],fun P w' hk=>?_,hr,hu⟩;exact run_firstCells_some w' sz rows.length ad rows.length c us (by rw[hl,aR sz rows hu]) fun j v hv=>(C6 (w:=w) (by rw[ic];exact hk _ M5)).trans (Nc j v hv)
theorem V119{p:Prop}(h:p:=by
 exact⟨[],fun P w'=>by simp[Builtin.lenOf],fun P w' _=>by simp[Builtin.firstCells],trivial,s_⟩):p:=h
theorem xk {esz:Nat}{x:Operand}{K2:Bool->List (List Tr)->List Id->Prop}(h:fZ esz (ev x) H K2):∃fr rows R,K2 fr rows R/\
  ∀(N B:Nat) (M:Nat->Prop) (w0:Start) (ρ:Rho) (s:F_) (a:Act) (w:World),Conc N B M w0 ρ s a w->evL s.L x=ev x->(∀id∈R,s.H id=H id)->
   ∃news,(∀(P:Program) (w':World),(Builtin.lenOf (a.eval x)).run P w'= .ok rows.length w')/\(∀(P:Program) (w':World),w'.heap=w.heap->(Builtin.firstCells esz rows.length (a.eval x)).run P w'= .ok news.toArray w')/\
    RTs w (okF B (okB ρ s.H w) fr) news rows.flatten/\∀r∈rows,r.length=esz:=by
 unfold fZ at h;split at h
 ·rename_i b hx;obtain⟨rfl,h⟩:=h;refine⟨_,_,_,h,fun N B M w0 ρ s a w hc M1 _=>?_⟩;have hv:=(hc.eval x).1;rw[M1,hx]at hv;have e1:=fK hv;rw[e1];have N2:(⟨b.toArray⟩:ByteArray).size=b.length:=by simp[ByteArray.size]
  refine⟨b.map fun u=> .int .u8 u.toNat,fun P w'=>by simp[Builtin.lenOf,N2],fun P w' _=>?_,?_,by simp[aT]⟩
  ·simp only[Builtin.firstCells,e7,o9];congr 1;have:(⟨b.toArray⟩:ByteArray).extract 0 b.length=⟨b.toArray⟩:=(by rw[<-N2];simp);rw[this];simp
  ·clear h e1 hv hx N2
   induction b with
   | nil=>trivial
   | cons u b ih=>exact⟨.int _ _,ih⟩
 ·rename_i sz hx;refine⟨_,_,_,h,fun N B M w0 ρ s a w hc M1 _=>?_⟩;have hv:=(hc.eval x).1;rw[M1,hx]at hv;have e1:a.eval x= .slice none 0 0:=hv;rw[e1];exact V119
 ·rename_i sz rows hx;obtain⟨rfl,h⟩:=h;refine⟨_,_,_,h,fun N B M w0 ρ s a w hc M1 _=>?_⟩;have hv:=(hc.eval x).1;rw[M1,hx]at hv;obtain⟨news,g1,g2,g3,g4⟩:=EI hv;exact⟨news,g1,fun P w' e=>g2 P w' fun b _=>by rw[e],g3.keep fun b hb=>⟨rfl,hb,fun e=>by cases e⟩,g4⟩
 ·rename_i sz rows hx;obtain⟨rfl,h⟩:=h;refine⟨_,_,_,h,fun N B M w0 ρ s a w hc M1 _=>?_⟩;have hv:=(hc.eval x).1;rw[M1,hx]at hv;have hv:RT w (okF B (okB ρ s.H w) true) (a.eval x) (.lst sz rows):=hv;obtain⟨news,g1,g2,g3,g4⟩:=EI hv;exact⟨news,g1,fun P w' e=>g2 P w' fun b _=>by rw[e],g3,g4⟩
 ·rename_i q hx;split at h
  ·rename_i fr sz rows hq;obtain⟨rfl,h⟩:=h;refine⟨_,_,_,h,fun N B M w0 ρ s a w hc M1 hR=>?_⟩;have hv:=(hc.eval x).1;rw[M1,hx]at hv;obtain⟨_,e1⟩:=hv;rw[e1];have Nb:s.H q=some (.arr fr sz rows):=(by rw[hR q s_];exact hq);obtain⟨hu,g⟩:=hc.arr Nb;rcases g with⟨g1,g2⟩|⟨b,cap,cur,e,fz,g1,g2,g3,g4,g5,g6,g7,g8,g9⟩
   ·subst g2;rw[g1];exact V119
   ·rw[g1];refine⟨_,fun P w'=>by simp[Builtin.lenOf],fun P w' he=>?_,g7,hu⟩
    exact run_firstCells_some w' sz rows.length ⟨b,0,none⟩ rows.length cap _ (by rw[g7.length,aR sz rows hu]) fun j v hv=>by
     rw[C6 (w:=w) (by rw[he])];exact g8 j v hv
  ·exact h.elim
 ·rename_i q k hx;split at h
  ·rename_i fr sz rows hq;obtain⟨rfl,NL,h⟩:=h;refine⟨_,_,_,h,fun N B M w0 ρ s a w hc M1 hR=>?_⟩;have hv:=(hc.eval x).1;rw[M1,hx]at hv;obtain⟨A,n,c,e0,e1,e2⟩:=hv;rw[e1];have Nb:s.H q=some (.arr fr sz rows):=(by rw[hR q s_];exact hq);obtain⟨hu,g⟩:=hc.arr Nb;have Uv:∀r∈rows.take k,r.length=sz:=fun r hr=>hu r (t9 hr);have Ru:(rows.take k).length=k:=(by rw[j8];omega);rcases g with⟨g1,g2⟩|⟨b,cap,cur,e,fz,g1,g2,g3,g4,g5,g6,g7,g8,g9⟩
   ·subst g2;have:k=0:=(by simpa using NL);subst this;rw[g1]at e0;injection e0 with e01;subst e01;exact V119
   ·rw[g1]at e0;injection e0 with e01 e02 e03;subst e01;subst e02;subst e03;have Nh:(rows.take k).flatten=rows.flatten.take (k*sz):=(gj sz rows k hu NL).symm;have Ps:=g7.take (k*sz);rw[<-Nh]at Ps;refine⟨_,fun P w'=>by simp[Builtin.lenOf,Ru],fun P w' he=>?_,Ps,Uv⟩;rw[Ru];refine run_firstCells_some w' sz k ⟨b,0,none⟩ k cap _ ?_ fun j v hv=>?_
    ·rw[Ps.length,aR sz _ Uv,Ru]
    ·rw[n3]at hv;split at hv
     ·rw[C6 (w:=w) (by rw[he])];exact g8 j v hv
     ·cases hv
  ·exact h.elim
 ·exact h.elim
theorem V103{p:Prop}(h:p:=by
 rw[dS,World.cell?_drew,cell_of_row w b j cur e' fz hb];rw[n3]at hv;split at hv
 ·simpa using hv
 ·cases hv):p:=h
theorem Conc.append (h:Conc N B M w0 ρ s a w){T U e:TypeId}{d:Nat}{te:Mm}{i ie:TypeInfo}{de du:TypeDesc}(hu:P.underlying T=some (.slice e))(fite:te.Fit P e ie de)(RU:P.underlying U=some du)(hk:je du=none)
  (hd:d<N) (hU:¬s.U d) (rm:List Id) (rows news:List (List Tr)) (fr fr':Bool) (ty:TypeId) (sv x:Value) (U6:∀r∈news,r.length=te.size) (Vy:∀r∈rows,r.length=te.size)
  (hs:(sv= .slice none 0 0/\rows=[])\/∃b cap cur e' fz,sv= .slice (some ⟨b,0,none⟩) rows.length cap/\w.heap[b]?=some (.cells cur e' fz)/\cp cur.size fz/\rows.length<=cap/\cap<=maxLen/\cur.size=cap*te.size/\
   RTs w (okF B (okB ρ s.H w) fr) (cur.toList.take (rows.length*te.size)) rows.flatten/\(fr=true->B<=b)/\∃o x',o∈rm/\s.H o=some x'/\Own ρ o b)
  (nv:List Value) (hl:∀w',(Builtin.lenOf x).run P w'= .ok news.length w') (hf:∀w',w'.heap=w.heap->(Builtin.firstCells te.size news.length x).run P w'= .ok nv.toArray w') (hn:RTs w (okF B (okB ρ s.H w) fr') nv news.flatten)
  (Nx:fits (rows.length+news.length) te.bytes) (R:List Id):
  ∃v w' ρ',(Builtin.append_ #[T,U] ty #[sv,x]).run P w= .ok v w'/\Conc N B M w0 ρ' (s.app (some d) ⟨.r (.c (.own (d,0,0))),rm.map (fun r=>(r,none))++[((d,0,0),some (.arr (fr&&fr') te.size (rows++news)))],some d,R⟩) (a.put (some d) v) w':=by
 obtain⟨z,hz,hm⟩:=fite.zero
 have Qn:z.cells.size=te.size:=by have h1:=(dX (B:=B) (ρ:=⟨fun _=>default,fun _ _=>False,fun _=>True⟩) (w:=w) (ok:=fun _=>True) hm).length;rw[fite.zlen]at h1;simpa using h1
 have VF:∀r∈rows++news,r.length=te.size:=fun r hr=>(f0.1 hr).elim (Vy r) (U6 r);have Ox:nv.length=news.length*te.size:=by rw[hn.length,aR te.size news U6]
 have N7:rows.flatten.length=rows.length*te.size:=aR te.size rows Vy;have Tn:rows.length+news.length<=maxLen:=by have:=Nx.2;unfold maxLen;omega
 have Nh:(rows++news).flatten=rows.flatten++news.flatten:=s_;have wk1:∀{vs:List Value} {ts:List Tr},RTs w (okF B (okB ρ s.H w) fr) vs ts->RTs w (okF B (okB ρ s.H w) (fr&&fr')) vs ts:=fun h=>h.keep (gq fun e=>by simp at e;exact e.1);have wk2:∀{vs:List Value} {ts:List Tr},RTs w (okF B (okB ρ s.H w) fr') vs ts->RTs w (okF B (okB ρ s.H w) (fr&&fr')) vs ts:=fun h=>h.keep (gq fun e=>by simp at e;exact e.2)
 have grow:∀(A:Option Addr) (sCap:Nat) (olds:List Value),sCap<rows.length+news.length->olds.length=rows.length*te.size->RTs w (okF B (okB ρ s.H w) fr) olds rows.flatten->
   (Builtin.firstCells te.size rows.length (.slice A rows.length sCap)).run P w.drew= .ok olds.toArray w.drew->sv= .slice A rows.length sCap->
   ∃v w' ρ',(Builtin.append_ #[T,U] ty #[sv,x]).run P w= .ok v w'/\Conc N B M w0 ρ' (s.app (some d) ⟨.r (.c (.own (d,0,0))),rm.map (fun r=>(r,none))++[((d,0,0),some (.arr (fr&&fr') te.size (rows++news)))],some d,R⟩) (a.put (some d) v) w':=by
  intro A sCap olds M3 PS hor Pz WK;subst WK;have M8:=mU (w:=w) (ty:=ty) hu RU hk fite.info hz x A rows.length sCap news.length olds nv hl (by rw[fite.size];exact hf _ rfl) (by rw[fite.size];exact Pz) M3 Nx.2 (by rw[fite.bytes];exact Nx.1);have Nk:=grownCap_ge w (rows.length+news.length) sCap e;have Nu:=grownCap_le_maxLen w (rows.length+news.length) sCap e Tn;generalize grownCap w (rows.length+news.length) sCap e=gc at M8 Nk Nu;have N1:RTs w (okF B (okB ρ s.H w) (fr&&fr')) (olds++nv) (rows.flatten++news.flatten):=(wk1 hor).append (wk2 hn)
  obtain⟨ρ',h'⟩:=h.newArr hd hU rm (w':=w.drew.alloc (.cells (olds.toArray++nv.toArray++Builtin.zeroCells z.cells (gc-(rows.length+news.length))) e)) ((Turn.drew _ w).trans (Turn.alloc _ _ _)) (b:=w.heap.size) (cap:=gc) (sz:=te.size)
   (us:=olds.toArray++nv.toArray++Builtin.zeroCells z.cells (gc-(rows.length+news.length))) (e:=e) (fz:=(0,0)) (rows:=rows++news) (fr:=fr&&fr') (d8 _) (heap_alloc_new w.drew _) (dF _) VF aab Nu
   (by simp only[Array.size_append,B3,size_zeroCells,Qn,PS,Ox];rw[<-p8,<-p8];congr 1;omega)
   (fun ok' M5 _=>by
    rw[Nh,c8,p8,<-PS,<-Ox,<-c8];simp only[B7,j9];rw[<-j9,H0]
    exact N1.keep fun c M6=>⟨rfl,M5 c M6.1,M6.2⟩) R
  exact⟨_,_,ρ',M8,by simpa using h'⟩
 rcases hs with⟨rfl,rfl⟩|⟨b,cap,cur,e',fz,rfl,hb,Ur,Nu,WO,P7,U0,Zz,RE⟩
 ·by_cases h0:news=[]
  ·subst h0;refine⟨.slice none 0 0,w,?_⟩;have Ul:nv=[]:=w7 (by simpa using Ox);subst Ul
   have M8:(Builtin.append_ #[T,U] ty #[.slice none 0 0,x]).run P w= .ok (.slice none 0 0) w:=by
    unfold Builtin.append_;simp only[E0,f9,l4,m8,run_underlying hu,run_underlying RU,j5,cv fite.info,o9];have O7:=hf w rfl
    cases du
    case int=>simp[je]at hk
    all_goals simp[hl,fite.size]at O7⊢;simp[O7]
   obtain⟨ρ',h'⟩:=h.make hd hU (D:=fun _=>False) rm (Turn.refl _ w) (v:= .slice none 0 0) (vv:= .slice none 0 0) (x:= .arr (fr&&fr') te.size []) (av:= .r (.c (.own (d,0,0)))) (R:=R) (fun _=>False) (fun _ h=>h.elim) (fun b hb=>by cases hb) (fun _ h=>h.elim) (fun id M7=>by simp[AO.ids]at M7)
    (fun id M7=>by simp[AV.ids,AR.ids,AC.ids]at M7;left;rw[M7]) (fun ρ' ok' hk _ hρ hq _=>⟨⟨s_,.inl ⟨hq,rfl⟩⟩,⟨_,_,_,hq⟩,hq.symm⟩)
   exact⟨ρ',M8,by simpa using h'⟩
  ·exact grow none 0 [] (by simp;exact List.length_pos_iff.2 h0) s_ trivial (by simp[Builtin.firstCells]) rfl
 ·by_cases NN:rows.length+news.length<=cap
  ·have M8:=ow (w:=w) (ty:=ty) hu RU hk fite.info x b rows.length cap news.length nv hl (by rw[fite.size];exact hf w rfl) NN hb Ur (by rw[fite.size,Ox,P7,<-p8];exact l8 _ NN) hn.one;obtain⟨Ns,g1,g2,g3⟩:=eG b e' fz nv (rows.length*ie.size) w cur hb (by rw[fite.size,Ox,P7,<-p8];exact l8 _ NN);rw[fite.size]at g1 g3 M8
   obtain⟨ρ',h'⟩:=h.make hd hU (D:=fun k=>k=b) rm (eH b nv (rows.length*te.size) w) (v:= .slice (some ⟨b,0,none⟩) (rows.length+news.length) cap) (vv:= .slice (some ⟨b,0,none⟩) (rows.length+news.length) cap) (x:= .arr (fr&&fr') te.size (rows++news)) (av:= .r (.c (.own (d,0,0)))) (R:=R) (fun _=>False)
    (fun b' Nf=>by subst Nf;exact RE) (fun b' Nf=>by
     injection Nf with Nf;subst Nf
     exact⟨(E4.1 g1).1,.inr RE⟩) (fun _ h=>h.elim) (fun id M7=>by simp[AO.ids]at M7)
    (fun id M7=>by simp[AV.ids,AR.ids,AC.ids]at M7;left;rw[M7]) (fun ρ' ok' hk _ hρ hq _=>by
     refine⟨⟨VF,.inr ⟨b,cap,Ns,e',fz,by rw[hq];simp,g1,by rw[g2];exact Ur,by simp;omega,WO,by rw[g2,P7],?_,fun e=>Zz (by simp at e;exact e.1)⟩⟩,⟨_,_,_,hq⟩,hq.symm⟩;have M0:(cur.toList.take (rows.length*te.size)).length=rows.length*te.size:=(by rw[U0.length,N7]);rw[g3,Nh,c8,p8,j9,<-j9,<-Ox];have e0:rows.length*te.size+nv.length=(cur.toList.take (rows.length*te.size)++nv).length:=(by rw[c8,M0]);rw[e0,H0]
     exact((wk1 U0).append (wk2 hn)).keep (iS hk))
   exact⟨_,_,ρ',M8,h'⟩
  ·refine grow (some ⟨b,0,none⟩) cap (cur.toList.take (rows.length*te.size)) o_ (by rw[U0.length,N7]) U0 ?_ rfl;refine run_firstCells_some w.drew te.size rows.length ⟨b,0,none⟩ rows.length cap _ (by rw[U0.length,N7]) fun j v hv=>?_;exact V103
end
section
variable {P:Program} {Γ:Env} {N B:Nat} {M:Nat->Prop} {w0:Start} {ρ:Rho} {s:F_} {a:Act} {w:World} {o:Oper} {ev:Operand->AV} {H:Id->Option AO} {K:Eff->Prop} {KV:AV->Prop}
theorem memI_iff {t:Id}{l:List Id}:kG t l=true↔t∈l:=by
 simp only[kG,y9];constructor
 ·rintro⟨x,h1,h2⟩;rw[idEq_iff]at h2;exact h2▸h1
 ·intro h;exact⟨t,h,idEq_iff.2 rfl⟩
theorem nodupI_iff:∀{l:List Id},ia l=true↔l.Nodup
 | []=>by simp[ia]
 | o::l=>by
  simp only[ia,b9,v2,F2,nodupI_iff (l:=l)];constructor
  ·rintro⟨h1,h2⟩;exact⟨fun h=>(by rw[memI_iff.2 h]at h1;cases h1),h2⟩
  ·rintro⟨h1,h2⟩;refine⟨?_,h2⟩
   cases hb:kG o l with|false=>rfl|true=>exact absurd (memI_iff.1 hb) h1
def Cells (ρ:Rho)(s:F_)(w:World)(ids:List Id)(bad:Nat->Prop)(us:List Value)(ds:List DC):Prop:=
 ∃Fp:Nat->Nat->Prop,us.length=ds.length/\(∀(p:Nat) (v:Value) (d:DC),us[p]?=some v->ds[p]?=some d->RD w (okB ρ s.H w) (Fp p) v d)/\
  (∀p c,Fp p c->(∃o x,o∈ids/\s.H o=some x/\Own ρ o c)/\¬bad c)/\∀p q c,p≠q->Fp p c->¬Fp q c
theorem Cells.mono {ids N4:List Id}{bad Vf:Nat->Prop}{us:List Value}{ds:List DC}(h:Cells ρ s w ids bad us ds)(hi:∀o∈ids,o∈N4)(hb:∀c,Vf c->bad c):Cells ρ s w N4 Vf us ds:=by
 obtain⟨Fp,h1,h2,h3,h4⟩:=h
 exact⟨Fp,h1,h2,fun p c hc=>by
  obtain⟨⟨o,x,g1,g2,g3⟩,g4⟩:=h3 p c hc
  exact⟨⟨o,x,hi o g1,g2,g3⟩,fun hx=>g4 (hb c hx)⟩,h4⟩
theorem Cells.append (hc:Conc N B M w0 ρ s a w){ids N4:List Id}{bad:Nat->Prop}{us Tt:List Value}{ds WH:List DC}(h:Cells ρ s w ids bad us ds)(h':Cells ρ s w N4 bad Tt WH)(M9:∀o∈ids,o∉N4):
  Cells ρ s w (ids++N4) bad (us++Tt) (ds++WH):=by
 obtain⟨Fp,h1,h2,h3,h4⟩:=h;obtain⟨Fp',Um,XY,P2,RL⟩:=h';refine⟨fun p c=>(p<us.length/\Fp p c)\/(us.length<=p/\Fp' (p-us.length) c),by simp[h1,Um],fun p v d hv hd=>?_,fun p c Oy=>?_,fun p q c RW hp hq=>?_⟩
 ·rcases m5 p us.length with M3|Nk
  ·rw[j7 M3]at hv;rw[j7 o_]at hd;have:=h2 p v d hv hd;exact this.keep (fun b hb=>⟨rfl,hb⟩) fun b hb=>⟨rfl,.inl ⟨M3,hb⟩⟩
  ·rw[m6 Nk]at hv;rw[m6 o_,<-h1]at hd;have:=XY _ v d hv hd;exact this.keep (fun b hb=>⟨rfl,hb⟩) fun b hb=>⟨rfl,.inr ⟨Nk,hb⟩⟩
 ·rcases Oy with⟨_,Oy⟩|⟨_,Oy⟩
  ·obtain⟨⟨o,x,g1,g2,g3⟩,g4⟩:=h3 p c Oy;exact⟨⟨o,x,by simp[g1],g2,g3⟩,g4⟩
  ·obtain⟨⟨o,x,g1,g2,g3⟩,g4⟩:=P2 _ c Oy;exact⟨⟨o,x,by simp[g1],g2,g3⟩,g4⟩
 ·rcases hp with⟨p1,hp⟩|⟨p1,hp⟩
  ·rcases hq with⟨q1,hq⟩|⟨q1,hq⟩
   ·exact h4 p q c RW hp hq
   ·obtain⟨⟨o,x,g1,g2,g3⟩,_⟩:=h3 p c hp;obtain⟨⟨o',x',QQ,Rx,RP⟩,_⟩:=P2 _ c hq;exact hc.sep o o' x x' c g2 Rx (fun e=>M9 o g1 (e▸QQ)) g3 RP
  ·rcases hq with⟨q1,hq⟩|⟨q1,hq⟩
   ·obtain⟨⟨o,x,g1,g2,g3⟩,_⟩:=h3 q c hq;obtain⟨⟨o',x',QQ,Rx,RP⟩,_⟩:=P2 _ c hp;exact hc.sep o o' x x' c g2 Rx (fun e=>M9 o g1 (e▸QQ)) g3 RP
   ·exact RL _ _ c o_ hp hq
theorem Cells.nil {bad:Nat->Prop}:Cells ρ s w [] bad [] []:=⟨fun _ _=>False,rfl,s_,fun _ _ h=>h.elim,fun _ _ _ _ h=>h.elim⟩
theorem Db (hc:Conc N B M w0 ρ s a w){q:Id}{fr:Bool}{sz:Nat}{rows:List (List Tr)}(hq:s.H q=some (.arr fr sz rows))(Nh:flat rows):DT w (Own ρ q) (ρ q) (.lst sz rows):=by
 obtain⟨hu,g⟩:=hc.arr hq;rcases g with⟨g1,g2⟩|⟨b,cap,cur,e,fz,g1,g2,g3,g4,g5,g6,g7,g8,g9⟩
 ·subst g2;rw[g1];exact .nil _ _
 ·have hb:Own ρ q b:= .inl aai;rw[g1];refine .arr _ b _ cap sz cur e fz rows (fun _ _=>False) hb g2 g3 rfl g4 g5 g6 hu g7.length (fun _ _ h=>h.elim) (fun _ _ _ _ h=>h.elim) fun p v u hv NE=>?_;have h4:=g7.get p v u hv NE;obtain⟨row,k1,k2⟩:=E7.1 (c9 NE);have h5:=Nh row k1 u k2
  cases h4 with|int=>exact .int _ _ _|bool=>exact .bool _ _|str=>exact .str _ _|emp=>exact absurd rfl (h5 _ _)|lst=>exact absurd rfl (h5 _ _)
theorem HR (hc:Conc N B M w0 ρ s a w){q:Id}{sz:Nat}{rows:List (List Tr)}(hq:s.H q=some (.dar sz (aL rows) none)):DT w (Own ρ q) (ρ q) (.lst sz rows):=by
 obtain⟨hu,g⟩:=hc.dar hq;have M0:(aL rows).length=rows.length:=by simp[aL]
 have NE:∀r∈rows,r.length=sz:=fun r hr=>by
  have:=hu (r.map .d) (n9.2 ⟨r,hr,rfl⟩);simpa using this
 rcases g with⟨g1,g2,_⟩|⟨b,cap,cur,e,fz,Fp,g1,g2,g3,g4,g5,g6,g7,g8,g9,g10⟩
 ·have:rows=[]:=by simpa [aL]using g2
  subst this;rw[g1];exact .nil _ _
 ·have hb:Own ρ q b:= .inl aai;rw[M0]at g1 g4 g9;rw[lD]at g9;rw[g1];refine .arr _ b _ cap sz cur e fz rows Fp hb g2 g3 rfl g4 g5 g6 NE (by rw[g9.1,e7]) (fun p c h=>⟨.inr (g7 p c h).1,(g7 p c h).2⟩) g8 fun p v u hv Si=>?_;have:=g9.2 p v (.d u) hv (by rw[p6,Si];rfl);simp only[cA]at this;exact this
theorem ru:∀(cs:List AC) (K:List DC->List Id->Prop),jS H cs K->∃ds ids,K ds ids/\∀{N B:Nat} {M:Nat->Prop} {w0:Start} {ρ:Rho} {s:F_} {a:Act} {w:World},Conc N B M w0 ρ s a w->(∀o∈ids,s.H o=H o)->ids.Nodup->
  ∀vs:List Value,RCs B ρ w (okB ρ s.H w) vs cs->Cells ρ s w ids (fun _=>False) vs ds
 | [],K,h=>⟨[],[],h,fun _ _ _ vs hv=>by
   cases vs with
   | nil=>exact Cells.nil
   | cons=>exact hv.elim⟩
 | c::r,K,h=>by
  have one:∀(d:DC) (ids0:List Id) (rest:jS H r fun cs ids=>K (d::cs) (ids0++ids)),
    (∀{N B:Nat} {M:Nat->Prop} {w0:Start} {ρ:Rho} {s:F_} {a:Act} {w:World},Conc N B M w0 ρ s a w->(∀o∈ids0,s.H o=H o)->∀v,RC B ρ w (okB ρ s.H w) v c->Cells ρ s w ids0 (fun _=>False) [v] [d])->
    ∃ds ids,K ds ids/\∀{N B:Nat} {M:Nat->Prop} {w0:Start} {ρ:Rho} {s:F_} {a:Act} {w:World},Conc N B M w0 ρ s a w->(∀o∈ids,s.H o=H o)->ids.Nodup->
     ∀vs:List Value,RCs B ρ w (okB ρ s.H w) vs (c::r)->Cells ρ s w ids (fun _=>False) vs ds:=by
   intro d ids0 rest h1;obtain⟨ds,ids,hK,Qw⟩:=ru r _ rest;refine⟨d::ds,ids0++ids,hK,fun hc hH Pm vs hv=>?_⟩
   cases vs with
   | nil=>exact hv.elim
   | cons v vs=>have g1:=h1 hc (fun o ho=>hH o aah) v hv.1;have g2:=Qw hc (fun o ho=>hH o aah) (E3.1 Pm).2.1 vs hv.2;exact g1.append hc g2 fun o ho Nr=>(E3.1 Pm).2.2 o ho o Nr rfl
  have flatC:∀(x:Tr),(∀sz rows,x≠.lst sz rows)->∀{w:World} {ok F:Nat->Prop} {v:Value},RT w ok v x->DT w F v x:=by
   intro x hx w ok F v hv
   cases hv with|int=>exact .int _ _ _|bool=>exact .bool _ _|str=>exact .str _ _|emp=>exact absurd rfl (hx _ _)|lst=>exact absurd rfl (hx _ _)
  have plain:∀(d:DC),(∀{B:Nat} {ρ:Rho} {s:F_} {w:World} (v:Value),RC B ρ w (okB ρ s.H w) v c->RD w (okB ρ s.H w) (fun _=>False) v d)->
    ∀{N B:Nat} {M:Nat->Prop} {w0:Start} {ρ:Rho} {s:F_} {a:Act} {w:World},Conc N B M w0 ρ s a w->(∀o∈([]:List Id),s.H o=H o)->∀v,RC B ρ w (okB ρ s.H w) v c->Cells ρ s w [] (fun _=>False) [v] [d]:=by
   intro d hd N B M w0 ρ s a w hc _ v hv;refine⟨fun _ _=>False,rfl,fun p v' d' h1 h2=>?_,fun _ _ h=>h.elim,fun _ _ _ _ h=>h.elim⟩
   cases p with|zero=>simp at h1 h2;subst h1;subst h2;exact hd v hv|succ p=>simp at h1
  have owned:∀(q:Id) (t:Tr),c= .own q->(∀{N B:Nat} {M:Nat->Prop} {w0:Start} {ρ:Rho} {s:F_} {a:Act} {w:World},Conc N B M w0 ρ s a w->s.H q=H q->DT w (Own ρ q) (ρ q) t/\∃x,s.H q=some x)->
    ∀{N B:Nat} {M:Nat->Prop} {w0:Start} {ρ:Rho} {s:F_} {a:Act} {w:World},Conc N B M w0 ρ s a w->(∀o∈[q],s.H o=H o)->∀v,RC B ρ w (okB ρ s.H w) v c->Cells ρ s w [q] (fun _=>False) [v] [.d t]:=by
   intro q t Zn Qo N B M w0 ρ s a w hc hH v hv;subst Zn;obtain⟨g1,x,g2⟩:=Qo hc (hH q s_);obtain⟨_,rfl⟩:=hv;refine⟨fun p c=>p=0/\Own ρ q c,rfl,fun p v' d' h1 h2=>?_,fun p c h=>⟨⟨q,x,s_,g2,h.2⟩,fun h=>h⟩,fun p p' c M9 h1 h2=>M9 (h1.1.trans h2.1.symm)⟩
   cases p with
   | zero=>simp at h1 h2;subst h1;subst h2;exact g1.mono fun c hc=>⟨rfl,hc⟩
   | succ p=>simp at h1
  cases c with
  | t x=>
   simp only[jS]at h
   cases x with|lst sz rows=>exact one _ [] h (plain (.t (.lst sz rows)) fun v hv=>hv)|int k n=>exact one _ [] h (plain (.d (.int k n)) fun v hv=>flatC _ s_ hv)|bool b=>exact one _ [] h (plain (.d (.bool b)) fun v hv=>flatC _ s_ hv)|str b=>exact one _ [] h (plain (.d (.str b)) fun v hv=>flatC _ s_ hv)
  | f x=>
   simp only[jS]at h
   cases x with|lst sz rows=>exact one _ [] h (plain (.t (.lst sz rows)) fun v hv=>RT.keep (show RT _ _ v _ from hv) mG)|int k n=>exact one _ [] h (plain (.d (.int k n)) fun v hv=>flatC _ s_ hv)|bool b=>exact one _ [] h (plain (.d (.bool b)) fun v hv=>flatC _ s_ hv)|str b=>exact one _ [] h (plain (.d (.str b)) fun v hv=>flatC _ s_ hv)
  | nils sz=>
   simp only[jS]at h
   exact one _ [] h (plain (.d (.lst sz [])) fun v hv=>by
    have:v= .slice none 0 0:=hv
    subst this;exact .nil _ _)
  | own q=>
   simp only[jS]at h;split at h
   ·rename_i fr sz rows hq;exact one _ [q] h.2 (owned q _ rfl fun hc hH=>⟨Db hc (hH.trans hq) h.1,_,hH.trans hq⟩)
   ·rename_i sz rows hq;obtain⟨rows',rfl,h⟩:=h;exact one _ [q] h (owned q _ rfl fun hc hH=>⟨HR hc (hH.trans hq),_,hH.trans hq⟩)
   ·exact h.elim
  | nilp=>simp[jS]at h
  | sub=>simp[jS]at h
  | ptr=>simp[jS]at h
  | opq=>simp[jS]at h
  | mpv=>simp[jS]at h
theorem Conc.newDar (h:Conc N B M w0 ρ s a w){d:Nat}(hd:d<N)(hU:¬s.U d)(rm:List Id){w':World}{D:Nat->Prop}(hT:Turn D w w'){b cap sz:Nat}{us:Array Value}{e:TypeId}{fz:Nat×Nat}{rows:List (List DC)}
  (hD:∀k,D k->k=b/\∃o x',o∈rm/\s.H o=some x'/\Own ρ o k) (hb:w.heap.size<=b\/∃o x',o∈rm/\s.H o=some x'/\Own ρ o b)
  (hh:w'.heap[b]?=some (.cells us e fz)) (hf:cp us.size fz) (hu:∀r∈rows,r.length=sz) (h1:rows.length<=cap) (h2:cap<=maxLen) (h3:us.size=cap*sz)
  (Ne:Cells ρ s w rm (fun c=>c=b) (us.toList.take (rows.length*sz)) rows.flatten) (R:List Id):
  ∃ρ',Conc N B M w0 ρ' (s.app (some d) ⟨.r (.c (.own (d,0,0))),rm.map (fun r=>(r,none))++[((d,0,0),some (.dar sz rows none))],some d,R⟩) (a.put (some d) (.slice (some ⟨b,0,none⟩) rows.length cap)) w':=by
 have M3:b<w'.heap.size:=(E4.1 hh).1;obtain⟨Fp,c1,c2,c3,c4⟩:=Ne;refine h.make hd hU (D:=D) rm hT (v:= .slice (some ⟨b,0,none⟩) rows.length cap) (fun c=>∃p,Fp p c) (fun k hk=>(hD k hk).2) (fun b' Nf=>?_) (fun c hc=>by obtain⟨p,hp⟩:=hc;exact(c3 p c hp).1) (fun id M7=>by simp[AO.ids]at M7) (fun id M7=>?_) (fun ρ' ok' hk PK hρ hq hF=>⟨?_,?_⟩)
 ·injection Nf with Nf;subst Nf;exact⟨M3,hb⟩
 ·simp[AV.ids,AR.ids,AC.ids]at M7;left;rw[M7]
 ·refine⟨hu,.inr ⟨b,cap,us,e,fz,Fp,hq,hh,hf,h1,h2,h3,fun p c hc=>⟨hF c ⟨p,hc⟩,(c3 p c hc).2⟩,c4,c1,fun p v dd hv Su=>?_⟩⟩;simp only[cA];refine(c2 p v dd hv Su).keep hk fun c hc=>⟨?_,hc⟩;obtain⟨⟨o,x,g1,g2,g3⟩,g4⟩:=c3 p c hc;exact hT.block c (h.rng o x c g2 g3).1 fun hDc=>g4 (hD c hDc).1
 ·exact⟨⟨_,_,_,hq⟩,hq.symm⟩
end
section
variable {P:Program} {Γ:Env} {N B:Nat} {M:Nat->Prop} {w0:Start} {ρ:Rho} {s:F_} {a:Act} {w:World} {o:Oper} {ev:Operand->AV} {H:Id->Option AO} {K:Eff->Prop} {KV:AV->Prop}
theorem DH {T U ty e:TypeId}{i:TypeInfo}{z:Value}{du:TypeDesc}(hu:P.underlying T=some (.slice e))(RU:P.underlying U=some du)(hk:je du=none)(hi:P.info? e=some i)(hz:i.zero=some z)(Qn:z.cells.size=i.size)
  (sv x:Value) (n m:Nat) (olds nv:List Value)
  (hs:(sv= .slice none 0 0/\n=0/\olds=[])\/∃b cap cur e' fz,sv= .slice (some ⟨b,0,none⟩) n cap/\w.heap[b]?=some (.cells cur e' fz)/\cp cur.size fz/\n<=cap/\cap<=maxLen/\cur.size=cap*i.size/\olds=cur.toList.take (n*i.size))
  (hl:∀w',(Builtin.lenOf x).run P w'= .ok m w') (hf:∀w',w'.heap=w.heap->(Builtin.firstCells i.size m x).run P w'= .ok nv.toArray w') (Ox:nv.length=m*i.size) (QR:∀v∈nv,v.oneCell'=true)
  (hmx:n+m<=9223372036854775807) (hby:(n+m)*i.bytes<=140737488355328):
  ∃v w',(Builtin.append_ #[T,U] ty #[sv,x]).run P w= .ok v w'/\
   ((
    v= .slice none 0 0/\w'=w/\n=0/\m=0/\sv= .slice none 0 0)\/∃b' Ou Ns e'' Sm D,v= .slice (some ⟨b',0,none⟩) (n+m) Ou/\Turn D w w'/\w'.heap[b']?=some (.cells Ns e'' Sm)/\cp Ns.size Sm/\n+m<=Ou/\Ou<=maxLen/\Ns.size=Ou*i.size/\
    Ns.toList.take ((n+m)*i.size)=olds++nv/\((w.heap.size<=b'/\∀k,¬D k)\/(blk sv=some b'/\∀k,D k->k=b'))):=by
 have Tn:n+m<=maxLen:=by unfold maxLen;omega
 have grow:∀(A:Option Addr) (sCap:Nat),sCap<n+m->olds.length=n*i.size->(Builtin.firstCells i.size n (.slice A n sCap)).run P w.drew= .ok olds.toArray w.drew->sv= .slice A n sCap->
   ∃v w',(Builtin.append_ #[T,U] ty #[sv,x]).run P w= .ok v w'/\
   ((
    v= .slice none 0 0/\w'=w/\n=0/\m=0/\sv= .slice none 0 0)\/∃b' Ou Ns e'' Sm D,v= .slice (some ⟨b',0,none⟩) (n+m) Ou/\Turn D w w'/\w'.heap[b']?=some (.cells Ns e'' Sm)/\cp Ns.size Sm/\n+m<=Ou/\Ou<=maxLen/\Ns.size=Ou*i.size/\
    Ns.toList.take ((n+m)*i.size)=olds++nv/\((w.heap.size<=b'/\∀k,¬D k)\/(blk sv=some b'/\∀k,D k->k=b'))):=by
  intro A sCap M3 PS Pz WK;have M8:=mU (w:=w) (ty:=ty) hu RU hk hi hz x A n sCap m olds nv hl (hf _ rfl) Pz M3 hmx hby;have Nk:=grownCap_ge w (n+m) sCap e;have Nu:=grownCap_le_maxLen w (n+m) sCap e Tn;generalize grownCap w (n+m) sCap e=gc at M8 Nk Nu;rw[WK];refine⟨_,_,M8,.inr ⟨w.heap.size,gc,olds.toArray++nv.toArray++Builtin.zeroCells z.cells (gc-(n+m)),e,(0,0),fun _=>False,s_,(Turn.drew _ w).trans (Turn.alloc _ _ _),heap_alloc_new w.drew _,dF _,Nk,Nu,?_,?_,.inl ⟨d8 _,fun _ h=>h⟩⟩⟩
  ·simp only[Array.size_append,B3,size_zeroCells,Qn,PS,Ox];rw[<-p8,<-p8];congr 1;omega
  ·rw[p8,<-PS,<-Ox,<-c8];simp only[B7,j9];rw[<-j9,H0]
 rcases hs with⟨rfl,rfl,rfl⟩|⟨b,cap,cur,e',fz,rfl,hb,Ur,Nu,WO,P7,rfl⟩
 ·by_cases h0:m=0
  ·subst h0;have Ul:nv=[]:=w7 (by simpa using Ox);subst Ul;refine⟨.slice none 0 0,w,?_,.inl ⟨rfl,rfl,rfl,rfl,rfl⟩⟩;unfold Builtin.append_;simp only[E0,f9,l4,m8,run_underlying hu,run_underlying RU,j5,cv hi,o9];have O7:=hf w rfl
   cases du
   case int=>simp[je]at hk
   all_goals simp[hl]at O7⊢;simp[O7]
  ·exact grow none 0 o_ s_ (by simp[Builtin.firstCells]) rfl
 ·have PS:(cur.toList.take (n*i.size)).length=n*i.size:=by rw[j8,Array.length_toList,P7];exact y8 (l8 _ Nu)
  by_cases NN:n+m<=cap
  ·have M8:=ow (w:=w) (ty:=ty) hu RU hk hi x b n cap m nv hl (hf w rfl) NN hb Ur (by rw[Ox,P7,<-p8];exact l8 _ NN) QR;obtain⟨Ns,g1,g2,g3⟩:=eG b e' fz nv (n*i.size) w cur hb (by rw[Ox,P7,<-p8];exact l8 _ NN);refine⟨_,_,M8,.inr ⟨b,cap,Ns,e',fz,fun k=>k=b,rfl,eH b nv (n*i.size) w,g1,by rw[g2];exact Ur,NN,WO,by rw[g2,P7],?_,.inr ⟨rfl,fun _ h=>h⟩⟩⟩;rw[g3,p8,j9,<-j9,<-Ox];have e0:n*i.size+nv.length=(cur.toList.take (n*i.size)++nv).length:=(by rw[c8,PS]);rw[e0,H0]
  ·refine grow (some ⟨b,0,none⟩) cap o_ PS ?_ rfl;refine run_firstCells_some w.drew i.size n ⟨b,0,none⟩ n cap _ PS fun j v hv=>?_;exact V103
theorem RTs.cellsT {ok:Nat->Prop}{us:List Value}{ts:List Tr}{bad:Nat->Prop}(h:RTs w ok us ts)(M5:∀b,ok b->okB ρ s.H w b):Cells ρ s w [] bad us (ts.map .t):=by refine⟨fun _ _=>False,by rw[e7];exact h.length,fun p v d hv hd=>?_,fun _ _ h=>h.elim,fun _ _ _ _ h=>h.elim⟩;rw[p6,v5]at hd;obtain⟨u,hu,rfl⟩:=hd;exact(h.get p v u hv hu).keep fun b hb=>⟨rfl,M5 b hb⟩
theorem ss {esz:Nat}{x:Operand}{K2:List (List DC)->List Id->List Id->Prop}(h:Ih esz (ev x) H K2):∃news rm R,K2 news rm R/\
  ∀(N B:Nat) (M:Nat->Prop) (w0:Start) (ρ:Rho) (s:F_) (a:Act) (w:World),Conc N B M w0 ρ s a w->evL s.L x=ev x->(∀id∈rm++R,s.H id=H id)->
   ∃nv,(∀(P:Program) (w':World),(Builtin.lenOf (a.eval x)).run P w'= .ok news.length w')/\(∀(P:Program) (w':World),w'.heap=w.heap->(Builtin.firstCells esz news.length (a.eval x)).run P w'= .ok nv.toArray w')/\
    (∀r∈news,r.length=esz)/\(∀v∈nv,v.oneCell'=true)/\∀bad:Nat->Prop,(∀o x c,o∈rm->s.H o=some x->Own ρ o c->¬bad c)->Cells ρ s w rm bad nv news.flatten:=by
 have plain:∀(y:AV),ev x=y->(fZ esz y H fun _ rows R=>K2 (rows.map (·.map .t)) [] R)->∃news rm R,K2 news rm R/\
  ∀(N B:Nat) (M:Nat->Prop) (w0:Start) (ρ:Rho) (s:F_) (a:Act) (w:World),Conc N B M w0 ρ s a w->evL s.L x=ev x->(∀id∈rm++R,s.H id=H id)->
   ∃nv,(∀(P:Program) (w':World),(Builtin.lenOf (a.eval x)).run P w'= .ok news.length w')/\(∀(P:Program) (w':World),w'.heap=w.heap->(Builtin.firstCells esz news.length (a.eval x)).run P w'= .ok nv.toArray w')/\
    (∀r∈news,r.length=esz)/\(∀v∈nv,v.oneCell'=true)/\∀bad:Nat->Prop,(∀o x c,o∈rm->s.H o=some x->Own ρ o c->¬bad c)->Cells ρ s w rm bad nv news.flatten:=by
  intro y hy h;rw[<-hy]at h;obtain⟨fr,rows,R,hK,Oa⟩:=xk h;refine⟨_,[],R,hK,fun N B M w0 ρ s a w hc W0 hR=>?_⟩;obtain⟨nv,g1,g2,g3,g4⟩:=Oa N B M w0 ρ s a w hc W0 (fun id M7=>hR id (by simpa using M7));refine⟨nv,by simpa using g1,by simpa using g2,fun r hr=>?_,g3.one,fun bad _=>?_⟩
  ·obtain⟨r',h1,rfl⟩:=n9.1 hr;simpa using g4 r' h1
  ·rw[<-I2];exact g3.cellsT fun b hb=>hb.1
 unfold Ih at h;split at h
 ·rename_i q hx;split at h
  ·rename_i sz rows hq;obtain⟨rfl,hK⟩:=h;refine⟨rows,[q],[],hK,fun N B M w0 ρ s a w hc W0 hR=>?_⟩;have Nb:s.H q=some (.dar sz rows none):=(by rw[hR q s_];exact hq);have hv:=(hc.eval x).1;rw[W0,hx]at hv;obtain⟨_,e1⟩:=hv;obtain⟨hu,g⟩:=hc.dar Nb;rcases g with⟨g1,g2,_⟩|⟨b,cap,cur,e,fz,Fp,g1,g2,g3,g4,g5,g6,g7,g8,g9,g10⟩
   ·subst g2;rw[e1,g1];exact⟨[],fun P w'=>by simp[Builtin.lenOf],fun P w' _=>by simp[Builtin.firstCells],s_,s_,fun bad _=>Cells.nil.mono s_ (fun _ h=>h)⟩
   ·rw[e1,g1];have Nh:=aR sz rows hu;refine⟨cur.toList.take (rows.length*sz),fun P w'=>by simp[Builtin.lenOf],fun P w' e=>?_,hu,fun v hv=>?_,fun bad Pg=>?_⟩
    ·refine run_firstCells_some w' sz rows.length ⟨b,0,none⟩ rows.length cap _ (by rw[g9.1,Nh]) fun j v hv=>?_;have:=g10 j v hv;unfold World.cell? at this⊢;rw[e];exact this
    ·obtain⟨p,hp⟩:=C5 hv
     have M3:p<rows.flatten.length:=by
      rw[<-g9.1];rcases m5 p (cur.toList.take (rows.length*sz)).length with h|h
      ·exact h
      ·rw[e9 h]at hp;cases hp
     have:=g9.2 p v _ hp (i8 M3);simp only[cA]at this;generalize rows.flatten[p]=dd at this
     cases dd with|t x=>exact RT.one this|d x=>exact DT.one this
    ·refine⟨Fp,g9.1,fun p v d hv hd=>?_,fun p c M6=>⟨⟨q,_,s_,Nb,.inr (g7 p c M6).1⟩,Pg q _ c s_ Nb (.inr (g7 p c M6).1)⟩,g8⟩;have:=g9.2 p v d hv hd;simpa only[cA]using this
  ·exact plain (ev x) rfl h
 ·exact plain _ rfl h
theorem Conc.appendD (h:Conc N B M w0 ρ s a w){T U e ty:TypeId}{d:Nat}{te:Mm}{ie:TypeInfo}{de du:TypeDesc}(hu:P.underlying T=some (.slice e))(fite:te.Fit P e ie de)(RU:P.underlying U=some du)(hk:je du=none)
  (hd:d<N) (hU:¬s.U d) (rm O5:List Id) (rows news:List (List DC)) (sv x:Value) (U6:∀r∈news,r.length=te.size) (Vy:∀r∈rows,r.length=te.size) (M9:∀o∈rm,o∉O5)
  (hs:(sv= .slice none 0 0/\rows=[])\/∃b cap cur e' fz,sv= .slice (some ⟨b,0,none⟩) rows.length cap/\w.heap[b]?=some (.cells cur e' fz)/\cp cur.size fz/\rows.length<=cap/\cap<=maxLen/\cur.size=cap*te.size/\
   Cells ρ s w rm (fun c=>c=b) (cur.toList.take (rows.length*te.size)) rows.flatten/\∃o x',o∈rm/\s.H o=some x'/\blk (ρ o)=some b)
  (nv:List Value) (hl:∀w',(Builtin.lenOf x).run P w'= .ok news.length w') (hf:∀w',w'.heap=w.heap->(Builtin.firstCells te.size news.length x).run P w'= .ok nv.toArray w') (QR:∀v∈nv,v.oneCell'=true)
  (VG:∀bad:Nat->Prop,(∀o x c,o∈O5->s.H o=some x->Own ρ o c->¬bad c)->Cells ρ s w O5 bad nv news.flatten)
  (Nx:fits (rows.length+news.length) te.bytes) (R:List Id):
  ∃v w' ρ',(Builtin.append_ #[T,U] ty #[sv,x]).run P w= .ok v w'/\Conc N B M w0 ρ' (s.app (some d) ⟨.r (.c (.own (d,0,0))),(rm++O5).map (fun r=>(r,none))++[((d,0,0),some (.dar te.size (rows++news) none))],some d,R⟩) (a.put (some d) v) w':=by
 obtain⟨z,hz,hm⟩:=fite.zero
 have Qn:z.cells.size=te.size:=by have h1:=(dX (B:=B) (ρ:=ρ) (w:=w) (ok:=fun _=>True) hm).length;rw[fite.zlen]at h1;simpa using h1
 have Ox:nv.length=news.length*te.size:=by obtain⟨Fp,h1,_⟩:=VG (fun _=>False) (fun _ _ _ _ _ _ h=>h);rw[h1,aR te.size news U6]
 have Np:∀bad:Nat->Prop,(∀c,bad c->¬∃o x,o∈O5/\s.H o=some x/\Own ρ o c)->Cells ρ s w O5 bad nv news.flatten:=fun bad hb=>VG bad fun o x c h1 h2 h3 h4=>hb c h4 ⟨o,x,h1,h2,h3⟩
 obtain⟨olds,hs⟩:∃olds,(sv= .slice none 0 0/\rows=[]/\olds=[])\/∃b cap cur e' fz,sv= .slice (some ⟨b,0,none⟩) rows.length cap/\w.heap[b]?=some (.cells cur e' fz)/\cp cur.size fz/\rows.length<=cap/\cap<=maxLen/\cur.size=cap*te.size/\
   Cells ρ s w rm (fun c=>c=b) olds rows.flatten/\(∃o x',o∈rm/\s.H o=some x'/\blk (ρ o)=some b)/\olds=cur.toList.take (rows.length*te.size):=by
  rcases hs with⟨h1,h2⟩|⟨b,cap,cur,e',fz,h1,h2,h3,h4,h5,h6,h7,h8⟩
  ·exact⟨[],.inl ⟨h1,h2,rfl⟩⟩
  ·exact⟨_,.inr ⟨b,cap,cur,e',fz,h1,h2,h3,h4,h5,h6,h7,h8,rfl⟩⟩
 obtain⟨v,w',M8,SY⟩:=DH (w:=w) (ty:=ty) hu RU hk fite.info hz (by rw[fite.size];exact Qn) sv x rows.length news.length olds nv
  (by
   rcases hs with⟨h1,h2,h3⟩|⟨b,cap,cur,e',fz,h1,h2,h3,h4,h5,h6,_,_,h9⟩
   ·exact .inl ⟨h1,by rw[h2];rfl,h3⟩
   ·exact .inr ⟨b,cap,cur,e',fz,h1,h2,h3,h4,h5,by rw[fite.size];exact h6,by rw[fite.size];exact h9⟩) hl (by rw[fite.size];exact hf) (by rw[fite.size];exact Ox) QR Nx.2 (by rw[fite.bytes];exact Nx.1)
 refine⟨v,w',?_⟩;have VF:∀r∈rows++news,r.length=te.size:=fun r hr=>(f0.1 hr).elim (Vy r) (U6 r);have Nh:(rows++news).flatten=rows.flatten++news.flatten:=s_;rcases SY with⟨rfl,rfl,T4,XE,_⟩|⟨b',Ou,Ns,e'',Sm,D,rfl,hT,g1,g2,g3,g4,g5,g6,g7⟩
 ·have e1:rows=[]:=w7 T4;have e2:news=[]:=w7 XE;subst e1;subst e2
  obtain⟨ρ',h'⟩:=h.make hd hU (D:=fun _=>False) (rm++O5) (Turn.refl _ w') (v:= .slice none 0 0) (vv:= .slice none 0 0) (x:= .dar te.size ([]++[]) none) (av:= .r (.c (.own (d,0,0)))) (R:=R) (fun _=>False) (fun _ h=>h.elim) (fun b hb=>by cases hb) (fun _ h=>h.elim) (fun id M7=>by simp[AO.ids]at M7)
   (fun id M7=>by simp[AV.ids,AR.ids,AC.ids]at M7;left;rw[M7]) (fun ρ' ok' hk _ hρ hq _=>⟨⟨s_,.inl ⟨hq,rfl,rfl⟩⟩,⟨_,_,_,hq⟩,hq.symm⟩)
  exact⟨ρ',M8,h'⟩
 ·rw[fite.size]at g5 g6
  have Ne:∀bad:Nat->Prop,(∀c,bad c->c=b')->Cells ρ s w (rm++O5) bad (Ns.toList.take ((rows++news).length*te.size)) (rows++news).flatten:=by
   intro bad Pg;rw[c8,g6,Nh];rcases hs with⟨h1,h2,h0⟩|⟨b,cap,cur,e',fz,h1,h2,h3,h4,h5,h6,h7,⟨o,x',k1,k2,k3⟩,h0⟩
   ·subst h1;subst h2;subst h0;rcases g7 with⟨g7,_⟩|⟨g7,_⟩
    ·refine Cells.append h (Cells.nil.mono s_ (fun _ h=>h)) (Np bad fun c Nf ⟨o1,x1,m1,m2,m3⟩=>?_) M9;have:=(h.rng o1 x1 c m2 m3).1;rw[Pg c Nf]at this;omega
    ·cases g7
   ·subst h1;have OL:blk (ρ o)=some b:=k3
    have NP:∀c,bad c->c=b\/w.heap.size<=c:=fun c hc=>by
     rw[Pg c hc];rcases g7 with⟨g7,_⟩|⟨g7,_⟩
     ·exact .inr g7
     ·have:b=b':=(by simpa [blk]using g7);exact .inl this.symm
    obtain⟨Fp,c1,c2,c3,c4⟩:=h7;refine Cells.append h ⟨Fp,c1,c2,fun p c hc=>⟨(c3 p c hc).1,fun hx=>?_⟩,c4⟩ (Np bad fun c Nf ⟨o1,x1,m1,m2,m3⟩=>?_) M9
    ·rcases NP c hx with e|e
     ·exact(c3 p c hc).2 e
     ·obtain⟨⟨o2,x2,m1,m2,m3⟩,_⟩:=c3 p c hc;have:=(h.rng o2 x2 c m2 m3).1;omega
    ·rcases NP c Nf with e|e
     ·subst e;exact h.sep o o1 x' x1 c k2 m2 (fun e=>M9 o k1 (e▸m1)) (.inl k3) m3
     ·have:=(h.rng o1 x1 c m2 m3).1;omega
  obtain⟨ρ',h'⟩:=h.newDar hd hU (rm++O5) hT (b:=b') (cap:=Ou) (sz:=te.size) (us:=Ns) (e:=e'') (fz:=Sm) (rows:=rows++news)
   (fun k hk=>by
    rcases g7 with⟨_,g7⟩|⟨g7,g8⟩
    ·exact absurd hk (g7 k)
    ·refine⟨g8 k hk,?_⟩;rw[g8 k hk];rcases hs with⟨h1,h2,h0⟩|⟨b,cap,cur,e',fz,h1,h2,h3,h4,h5,h6,h7,⟨o,x',k1,k2,k3⟩,h0⟩
     ·subst h1;cases g7
     ·subst h1;have:b=b':=(by simpa [blk]using g7);subst this
      exact⟨o,x',by simp[k1],k2,.inl k3⟩)
   (by
    rcases g7 with⟨g7,_⟩|⟨g7,_⟩
    ·exact .inl g7
    ·rcases hs with⟨h1,h2,h0⟩|⟨b,cap,cur,e',fz,h1,h2,h3,h4,h5,h6,h7,⟨o,x',k1,k2,k3⟩,h0⟩
     ·subst h1;cases g7
     ·subst h1;have:b=b':=(by simpa [blk]using g7);subst this
      exact .inr ⟨o,x',by simp[k1],k2,.inl k3⟩) g1 g2 VF (by simpa using g3) g4 g5 (Ne _ fun _ h=>h) R
  exact⟨ρ',M8,by simpa using h'⟩
theorem V70{p:Prop}(h:p:=by
 have M8:(execOp a.eval o).run P w= .ok (.value v) w':=by simp[execOp,ho,resolve,invoke,builtin,r1]
 unfold Oper.wp;rw[M8];show K (a.put o.dst _) _;rw[Nq]
 exact hK _ _ ρ' r2):p:=h
theorem V100{p:Prop}(h:p:=by
 subst g2;have:k=0:=by simpa using NL
 subst this;rw[g1]at e0;injection e0 with x1 x2 x3;subst x1;subst x3
 exact .inl ⟨e1,s_⟩):p:=h
theorem zk {T U e:TypeId}{d:Nat}{sx x:Operand}{ti tu te:Mm}(hΓ:Γ.chk P=true)(hT:Γ.get T=some ti)(ZG:Γ.get U=some tu)(he:ti.elem=some e)(hk:tu.kind=none)(hE:Γ.get e=some te)(Nq:o.dst=some d)
  (ho:o.op= .call {callee:= .builtin .append,args:=#[sx,x],argTypes:=#[T,U]}) (h:sq d te.size te.bytes (ev sx) (ev x) H K):∃ef,K ef/\Good P o ev H ef:=by
 obtain⟨ii,dd,fit⟩:=Env.fit hΓ hT;obtain⟨iu,du,fitu⟩:=Env.fit hΓ ZG;obtain⟨ie,de,fite⟩:=Env.fit hΓ hE;have hd:=nF fit he;subst hd;have Na:x∈o.op.operands.toList:=by simp[ho,Op.operands,Call.operands]
 have Vv:sx∈o.op.operands.toList:=by simp[ho,Op.operands,Call.operands]
 have Ru:je du=none:=fitu.kind.trans hk
 have fin:∀(rm:List Id) (rows news:List (List Tr)) (fr fr':Bool) (R R':List Id),
   (∀(N B:Nat) (M:Nat->Prop) (w0:Start) (ρ:Rho) (s:F_) (a:Act) (w:World),Conc N B M w0 ρ s a w->evL s.L sx=ev sx->(∀id∈R',s.H id=H id)->
    (∀r∈rows,r.length=te.size)/\((a.eval sx= .slice none 0 0/\rows=[])\/∃b cap cur e' fz,a.eval sx= .slice (some ⟨b,0,none⟩) rows.length cap/\w.heap[b]?=some (.cells cur e' fz)/\cp cur.size fz/\rows.length<=cap/\cap<=maxLen/\cur.size=cap*te.size/\
     RTs w (okF B (okB ρ s.H w) fr) (cur.toList.take (rows.length*te.size)) rows.flatten/\(fr=true->B<=b)/\∃o x',o∈rm/\s.H o=some x'/\Own ρ o b))->
   (∀(N B:Nat) (M:Nat->Prop) (w0:Start) (ρ:Rho) (s:F_) (a:Act) (w:World),Conc N B M w0 ρ s a w->evL s.L x=ev x->(∀id∈R,s.H id=H id)->
    ∃nv,(∀(P:Program) (w':World),(Builtin.lenOf (a.eval x)).run P w'= .ok news.length w')/\(∀(P:Program) (w':World),w'.heap=w.heap->(Builtin.firstCells te.size news.length (a.eval x)).run P w'= .ok nv.toArray w')/\
    RTs w (okF B (okB ρ s.H w) fr') nv news.flatten/\∀r∈news,r.length=te.size)->fits (rows.length+news.length) te.bytes->(∀id∈R,id∈R')->
   Good P o ev H ⟨.r (.c (.own (d,0,0))),rm.map (fun r=>(r,none))++[((d,0,0),some (.arr (fr&&fr') te.size (rows++news)))],some d,R'⟩:=by
  intro rm rows news fr fr' R R' h1 h2 Nx Nv N B M w0 ρ s a w Q K hc M1 hR Nl hd hK;rw[Nq]at hd hK;obtain⟨g1,g2⟩:=h1 N B M w0 ρ s a w hc (M1 sx Vv) hR;obtain⟨nv,f1,f2,f3,f4⟩:=h2 N B M w0 ρ s a w hc (M1 x Na) (fun id M7=>hR id (Nv id M7));obtain⟨v,w',ρ',r1,r2⟩:=hc.append fit.und fite fitu.und Ru (hd d rfl) (Nl d rfl) rm rows news fr fr' o.type (a.eval sx) (a.eval x) f4 g1 g2 nv (f1 P) (f2 P) f3 Nx R' (i:=ii);exact V70
 have finD:∀(rm O5:List Id) (rows news:List (List DC)) (R R':List Id),(∀o∈rm,o∉O5)->
   (∀(N B:Nat) (M:Nat->Prop) (w0:Start) (ρ:Rho) (s:F_) (a:Act) (w:World),Conc N B M w0 ρ s a w->evL s.L sx=ev sx->(∀id∈R',s.H id=H id)->
    (∀r∈rows,r.length=te.size)/\((a.eval sx= .slice none 0 0/\rows=[])\/∃b cap cur e' fz,a.eval sx= .slice (some ⟨b,0,none⟩) rows.length cap/\w.heap[b]?=some (.cells cur e' fz)/\cp cur.size fz/\rows.length<=cap/\cap<=maxLen/\cur.size=cap*te.size/\
     Cells ρ s w rm (fun c=>c=b) (cur.toList.take (rows.length*te.size)) rows.flatten/\∃o x',o∈rm/\s.H o=some x'/\blk (ρ o)=some b))->
   (∀(N B:Nat) (M:Nat->Prop) (w0:Start) (ρ:Rho) (s:F_) (a:Act) (w:World),Conc N B M w0 ρ s a w->evL s.L x=ev x->(∀id∈O5++R,s.H id=H id)->
    ∃nv,(∀(P:Program) (w':World),(Builtin.lenOf (a.eval x)).run P w'= .ok news.length w')/\(∀(P:Program) (w':World),w'.heap=w.heap->(Builtin.firstCells te.size news.length (a.eval x)).run P w'= .ok nv.toArray w')/\
    (∀r∈news,r.length=te.size)/\(∀v∈nv,v.oneCell'=true)/\∀bad:Nat->Prop,(∀o x c,o∈O5->s.H o=some x->Own ρ o c->¬bad c)->Cells ρ s w O5 bad nv news.flatten)->fits (rows.length+news.length) te.bytes->(∀id∈O5++R,id∈R')->
   Good P o ev H ⟨.r (.c (.own (d,0,0))),(rm++O5).map (fun r=>(r,none))++[((d,0,0),some (.dar te.size (rows++news) none))],some d,R'⟩:=by
  intro rm O5 rows news R R' M9 h1 h2 Nx Nv N B M w0 ρ s a w Q K hc M1 hR Nl hd hK;rw[Nq]at hd hK;obtain⟨g1,g2⟩:=h1 N B M w0 ρ s a w hc (M1 sx Vv) hR;obtain⟨nv,f1,f2,f3,f4,f5⟩:=h2 N B M w0 ρ s a w hc (M1 x Na) (fun id M7=>hR id (Nv id M7));obtain⟨v,w',ρ',r1,r2⟩:=hc.appendD (ty:=o.type) fit.und fite fitu.und Ru (hd d rfl) (Nl d rfl) rm O5 rows news (a.eval sx) (a.eval x) f3 g1 M9 g2 nv (f1 P) (f2 P) f4 f5 Nx R';exact V70
 unfold sq at h;split at h
 ·rename_i sz hs;split at h
  ·obtain⟨news,rm,R,⟨Nx,hK⟩,Oa⟩:=ss h;refine⟨_,hK,?_⟩;have:=finD [] rm [] news R (rm++R) s_ (fun N B M w0 ρ s a w hc M1 _=>⟨s_,.inl ⟨by have:=(hc.eval sx).1;rw[M1,hs]at this;exact this,rfl⟩⟩) Oa (by simpa using Nx) (fun _ h=>h);simpa using this
  ·obtain⟨fr',news,R,⟨Nx,hK⟩,Oa⟩:=xk h;refine⟨_,hK,?_⟩;have:=fin [] [] news true fr' R R (fun N B M w0 ρ s a w hc M1 _=>⟨s_,.inl ⟨by have:=(hc.eval sx).1;rw[M1,hs]at this;exact this,rfl⟩⟩) Oa (by simpa using Nx) (fun _ h=>h);simpa using this
 ·rename_i q hs;split at h
  ·rename_i fr sz rows hq;obtain⟨rfl,h⟩:=h;obtain⟨fr',news,R,⟨Nx,Nm,hK⟩,Oa⟩:=xk h;refine⟨_,hK,?_⟩
   have:=fin [q] rows news fr fr' R (q::R) (fun N B M w0 ρ s a w hc M1 hR=>by
    have hv:=(hc.eval sx).1;rw[M1,hs]at hv;obtain⟨_,e1⟩:=hv;have Nb:s.H q=some (.arr fr te.size rows):=(by rw[hR q s_];exact hq);obtain⟨hu,g⟩:=hc.arr Nb;refine⟨hu,?_⟩;rcases g with⟨g1,g2⟩|⟨b,cap,cur,e,fz,g1,g2,g3,g4,g5,g6,g7,g8,g9⟩
    ·exact .inl ⟨e1.trans g1,g2⟩
    ·exact .inr ⟨b,cap,cur,e,fz,e1.trans g1,g2,g3,g4,g5,g6,g7,g9,q,_,s_,Nb,.inl aai⟩) Oa Nx (fun id M7=>by simp[M7])
   simpa using this
  ·rename_i sz rows hq;obtain⟨rfl,h⟩:=h;obtain⟨news,rm,R,⟨Nx,Nm,hK⟩,Oa⟩:=ss h;refine⟨_,hK,?_⟩;have SR:q∉rm++R:=fun hm=>by rw[memI_iff.2 hm]at Nm;cases Nm
   have:=finD [q] rm rows news R (q::(rm++R)) (by simpa using fun h=>SR aaM) (fun N B M w0 ρ s a w hc M1 hR=>by
    have hv:=(hc.eval sx).1;rw[M1,hs]at hv;obtain⟨_,e1⟩:=hv;have Nb:s.H q=some (.dar te.size rows none):=(by rw[hR q s_];exact hq);obtain⟨hu,g⟩:=hc.dar Nb;refine⟨hu,?_⟩;rcases g with⟨g1,g2,_⟩|⟨b,cap,cur,e,fz,Fp,g1,g2,g3,g4,g5,g6,g7,g8,g9,g10⟩
    ·exact .inl ⟨e1.trans g1,g2⟩
    ·refine .inr ⟨b,cap,cur,e,fz,e1.trans g1,g2,g3,g4,g5,g6,⟨Fp,g9.1,fun p v d hv hd=>?_,fun p c M6=>⟨⟨q,_,s_,Nb,.inr (g7 p c M6).1⟩,(g7 p c M6).2⟩,g8⟩,q,_,s_,Nb,by rw[g1];rfl⟩;have:=g9.2 p v d hv hd
     simpa only[cA]using this) Oa Nx (fun id M7=>by simp only[d7];exact .inr M7)
   simpa using this
  ·exact h.elim
 ·rename_i q k hs;split at h
  ·rename_i fr sz rows hq;obtain⟨rfl,NL,h⟩:=h;obtain⟨fr',news,R,⟨Nx,Nm,hK⟩,Oa⟩:=xk h;refine⟨_,hK,?_⟩;have SF:(rows.take k).length=k:=by rw[j8];omega
   have:=fin [q] (rows.take k) news fr fr' R (q::R) (fun N B M w0 ρ s a w hc M1 hR=>by
    have hv:=(hc.eval sx).1;rw[M1,hs]at hv;obtain⟨A,n,c,e0,e1,e2⟩:=hv;have Nb:s.H q=some (.arr fr te.size rows):=(by rw[hR q s_];exact hq);obtain⟨hu,g⟩:=hc.arr Nb;refine⟨fun r hr=>hu r (t9 hr),?_⟩;rcases g with⟨g1,g2⟩|⟨b,cap,cur,e,fz,g1,g2,g3,g4,g5,g6,g7,g8,g9⟩
    ·exact V100
    ·rw[g1]at e0;injection e0 with x1 x2 x3;subst x1;subst x2;subst x3;have Nh:(rows.take k).flatten=rows.flatten.take (k*te.size):=(gj te.size rows k hu NL).symm;have Ps:=g7.take (k*te.size);rw[<-Nh,H3]at Ps;have Tx:min (k*te.size) (rows.length*te.size)=k*te.size:=y8 (l8 _ NL);rw[Tx]at Ps
     exact .inr ⟨b,cap,cur,e,fz,by rw[SF];exact e1,g2,g3,o_,g5,g6,by rw[SF];exact Ps,g9,q,_,s_,Nb,.inl aai⟩) Oa (by rw[SF];exact Nx) (fun id M7=>by simp[M7])
   simpa using this
  ·rename_i sz rows hq;obtain⟨rfl,NL,h⟩:=h;obtain⟨news,rm,R,⟨Nx,Nm,hK⟩,Oa⟩:=ss h;refine⟨_,hK,?_⟩;have SR:q∉rm++R:=fun hm=>by rw[memI_iff.2 hm]at Nm;cases Nm
   have SF:(rows.take k).length=k:=by rw[j8];omega
   have:=finD [q] rm (rows.take k) news R (q::(rm++R)) (by simpa using fun h=>SR aaM) (fun N B M w0 ρ s a w hc M1 hR=>by
    have hv:=(hc.eval sx).1;rw[M1,hs]at hv;obtain⟨A,n,c,e0,e1,e2⟩:=hv;have Nb:s.H q=some (.dar te.size rows none):=(by rw[hR q s_];exact hq);obtain⟨hu,g⟩:=hc.dar Nb;refine⟨fun r hr=>hu r (t9 hr),?_⟩;rcases g with⟨g1,g2,_⟩|⟨b,cap,cur,e,fz,Fp,g1,g2,g3,g4,g5,g6,g7,g8,g9,g10⟩
    ·exact V100
    ·rw[g1]at e0;injection e0 with x1 x2 x3;subst x1;subst x2;subst x3;have Nh:(rows.take k).flatten=rows.flatten.take (k*te.size):=(gj te.size rows k hu NL).symm;have Tx:min (k*te.size) (rows.length*te.size)=k*te.size:=y8 (l8 _ NL);have Zd:cur.toList.take (k*te.size)=(cur.toList.take (rows.length*te.size)).take (k*te.size):=(by rw[H3,Tx]);refine .inr ⟨b,cap,cur,e,fz,by rw[SF];exact e1,g2,g3,o_,g5,g6,⟨Fp,?_,fun p v d hv hd=>?_,fun p c M6=>⟨⟨q,_,s_,Nb,.inr (g7 p c M6).1⟩,(g7 p c M6).2⟩,g8⟩,q,_,s_,Nb,by rw[g1];rfl⟩
     ·rw[SF,Zd,Nh,j8,g9.1,j8]
     ·rw[SF,Zd,n3]at hv;rw[Nh,n3]at hd;split at hv
      ·rename_i hp;rw[c7 hp]at hd;have:=g9.2 p v d hv hd;simpa only[cA]using this
      ·cases hv) Oa (by rw[SF];exact Nx) (fun id M7=>by simp only[d7];exact .inr M7)
   simpa using this
  ·exact h.elim
 ·exact h.elim
theorem qN (z:Array Value)(n:Nat)(h:0<z.size):(madeCells z (n*z.size)).toList=(List.replicate n z.toList).flatten:=by
 apply I0;intro p
 have hl:(List.replicate n z.toList).flatten.length=n*z.size:=by rw[aR z.size _ (by intro r hr;rw[(D7.1 hr).2];simp)];simp
 by_cases hp:p<n*z.size
 ·have h1:(madeCells z (n*z.size)).toList[p]?=some (z[p%z.size]'(F3 _ h)):=by simp[madeCells,hp];rw[getElem!_pos z _ (F3 _ h)]
  rw[h1];have ZH:p=(p/z.size)*z.size+p%z.size:=by rw[Nat.mul_comm];exact(Nat.div_add_mod p z.size).symm
  have M3:p/z.size<n:=(Nat.div_lt_iff_lt_mul h).2 hp;have:=mT z.size (List.replicate n z.toList) (p/z.size) (p%z.size) z.toList (by intro r hr;rw[(D7.1 hr).2];simp) (by simp[M3]) (F3 _ h);rw[<-ZH]at this;rw[this];simp[F3 _ h]
 ·rw[e9 (by simp[madeCells];omega),e9 (by rw[hl];omega)]
theorem RTs.replicate {ok:Nat->Prop}{vs:List Value}{ts:List Tr}(h:RTs w ok vs ts):∀n:Nat,RTs w ok (List.replicate n vs).flatten (List.replicate n ts).flatten
 | 0=>trivial
 | n+1=>by simp only[List.replicate_succ,r9];exact h.append (RTs.replicate h n)
theorem uv {ok':Nat->Prop}:∀{vs:List Value} {cs:List AC} {ts:List Tr} {fr:Bool} {ids:List Id},cy vs cs=true->frz (fun _=>none) cs=some (ts,fr,ids)->RTs w ok' vs ts
 | [],[],ts,fr,ids,_,h=>by simp only[frz,Option.some.injEq,Prod.mk.injEq]at h;obtain⟨rfl,_⟩:=h;trivial
 | v::vs,c::cs,ts,fr,ids,hm,h=>by
  have T9:=dX (B:=0) (ρ:=⟨fun _=>default,fun _ _=>False,fun _=>True⟩) (w:=w) (ok:=ok') hm;simp only[cy,b9]at hm
  cases c with
  | t x=>
   simp only[frz]at h
   cases hf:frz (fun _=>none) cs with
   | none=>rw[hf]at h;simp at h
   | some p=>
    obtain⟨Qp,fr',N4⟩:=p;rw[hf]at h;have ih:=uv (ok':=ok') hm.2 hf
    cases x<;>(simp only[Option.some.injEq,Prod.mk.injEq]at h;obtain⟨rfl,rfl,rfl⟩:=h;exact⟨T9.1,ih⟩)
  | nils sz=>
   simp only[frz]at h
   cases hf:frz (fun _=>none) cs with
   | none=>rw[hf]at h;simp at h
   | some p=>
    obtain⟨Qp,fr',N4⟩:=p;rw[hf]at h;simp only[Option.some.injEq,Prod.mk.injEq]at h;obtain⟨rfl,rfl,rfl⟩:=h;have hx:v= .slice none 0 0:=T9.1;subst hx
    exact⟨.emp _ _ _ (w6 _),uv hm.2 hf⟩
  | f=>simp[uQ]at hm
  | own=>simp[frz]at h
  | nilp=>simp[frz]at h
  | sub=>simp[frz]at h
  | ptr=>simp[frz]at h
  | opq=>simp[frz]at h
  | mpv=>simp[frz]at h
 | [],_::_,_,_,_,hm,_=>by simp[cy]at hm
 | _::_,[],_,_,_,hm,_=>by simp[cy]at hm
theorem KA:∀{vs:List Value} {cs:List AC} {ts:List Tr} {fr:Bool} {ids:List Id},cy vs cs=true->frz (fun _=>none) cs=some (ts,fr,ids)->∀(w:World) (F:Nat->Prop) (p:Nat) (v:Value) (t:Tr),vs[p]?=some v->ts[p]?=some t->DT w F v t
 | [],[],ts,fr,ids,_,_,w,F,p,v,t,hv,_=>by simp at hv
 | v0::vs,c::cs,ts,fr,ids,hm,h,w,F,p,v,t,hv,ht=>by
  simp only[cy,b9]at hm
  have head:∀(t0:Tr) (rest:List Tr),ts=t0::rest->DT w F v0 t0->(∀(q:Nat) (v:Value) (t:Tr),vs[q]?=some v->rest[q]?=some t->DT w F v t)->DT w F v t:=by
   intro t0 rest e h0 hr;subst e
   cases p with|zero=>simp at hv ht;subst hv;subst ht;exact h0|succ p=>exact hr p v t (by simpa using hv) (by simpa using ht)
  have h1:=hm.1
  cases hf:frz (fun _=>none) cs with
  | none=>cases c<;>simp[frz,hf]at h
  | some q=>
   obtain⟨Qp,fr',N4⟩:=q;have N0:=fun q v t=>KA hm.2 hf w F q v t;unfold uQ at h1;split at h1
   ·simp only[b9,j6]at h1;obtain⟨rfl,rfl⟩:=h1;simp only[frz,hf,Option.some.injEq,Prod.mk.injEq]at h;exact head _ _ h.1.symm (.int _ _ _) N0
   ·simp only[w9]at h1;subst h1;simp only[frz,hf,Option.some.injEq,Prod.mk.injEq]at h;exact head _ _ h.1.symm (.bool _ _) N0
   ·rename_i s l;simp only[b9,D1]at h1;obtain⟨h2,rfl⟩:=h1
    have:s=⟨#[]⟩:=by obtain⟨d⟩:=s;have:d=#[]:=(by simpa using h2);rw[this]
    subst this;simp only[frz,hf,Option.some.injEq,Prod.mk.injEq]at h;exact head _ _ h.1.symm (.str _ []) N0
   ·simp only[frz,hf,Option.some.injEq,Prod.mk.injEq]at h;exact head _ _ h.1.symm (.nil _ _) N0
   ·simp[frz]at h
   ·simp[frz]at h
   ·simp[frz]at h
   ·simp[frz]at h
   ·cases h1
 | [],_::_,_,_,_,hm,_,_,_,_,_,_,_,_=>by simp[cy]at hm
 | _::_,[],_,_,_,hm,_,_,_,_,_,_,_,_=>by simp[cy]at hm
theorem Cells.replicate (hc:Conc N B M w0 ρ s a w){bad:Nat->Prop}{vs:List Value}{ds:List DC}(h:Cells ρ s w [] bad vs ds):∀n:Nat,Cells ρ s w [] bad (List.replicate n vs).flatten (List.replicate n ds).flatten
 | 0=>Cells.nil
 | n+1=>by
  simp only[List.replicate_succ,r9];exact Cells.append hc h (Cells.replicate hc h n) s_
theorem CQ {T e:TypeId}{d:Nat}{l c:Operand}{ti te:Mm}(hΓ:Γ.chk P=true)(hT:Γ.get T=some ti)(he:ti.elem=some e)(hE:Γ.get e=some te)(Nq:o.dst=some d)
  (ho:o.op= .makeSlice T l c) (h:zo d te.size te.bytes te.zero (ev l) (ev c) K):∃ef,K ef/\Good P o ev H ef:=by
 obtain⟨ii,dd,fit⟩:=Env.fit hΓ hT;obtain⟨ie,de,fite⟩:=Env.fit hΓ hE;have hd:=nF fit he;subst hd;obtain⟨z,hz,hm⟩:=fite.zero;unfold zo at h;split at h
 ·rename_i k n k' m zt _ _ hl M6 XB;obtain⟨j,rfl,rfl,hj,hb,hK⟩:=h;split at hK
  ·refine⟨_,hK,?_⟩;intro N B M w0 ρ s a w Q K hc M1 hR Nl hd hK;rw[Nq]at hd hK;have QL:=(hc.eval l).1;have Ub:=(hc.eval c).1;rw[M1 l aaa,hl]at QL;rw[M1 c aaa,M6]at Ub;have e1:=cI QL;have e2:=cI Ub;have Vc:=dX (B:=B) (ρ:=ρ) (w:=w) (ok:=okB ρ s.H w) hm;have Qn:z.cells.size=te.size:=(by have h1:=Vc.length;rw[fite.zlen]at h1;simpa using h1);have RG:∀ok':Nat->Prop,RTs w ok' z.cells.toList zt:=fun ok'=>uv hm XB
   have PC:(ie.bytes:Int)*(j:Int)<=281474976710656:=by rw[fite.bytes,I8];omega
   have M8:=run_make (P:=P) w T e ie z fit.und fite.info hz k k' (j:Int) (j:Int) o_ (u4 _) PC o_;simp only[d6,fite.size]at M8;have Uw:=qN z.cells j (by have:=fite.pos;omega);rw[Qn]at Uw
   have NK:(execOp a.eval o).run P w= .ok (.value (.slice (some ⟨w.heap.size,0,none⟩) j j)) (w.alloc (.cells (madeCells z.cells (j*te.size)) e)):=by simp[execOp,ho,e1,e2,M8]
   have Ua:zt.length=te.size:=by have:=(RG fun _=>True).length;rw[<-this];simpa using Qn
   obtain⟨ρ',h'⟩:=hc.newArr (hd d rfl) (Nl d rfl) [] (w':=w.alloc (.cells (madeCells z.cells (j*te.size)) e)) (Turn.alloc _ _ _) (b:=w.heap.size) (cap:=j) (sz:=te.size) (us:=madeCells z.cells (j*te.size)) (e:=e) (fz:=(0,0)) (rows:=List.replicate j zt) (fr:=true)
    (d8 _) (kN _ _) (dF _) (by intro r hr;rw[(D7.1 hr).2];exact Ua) s_ (by unfold maxLen;omega) aaI
    (fun ok' _ _=>by rw[i7 aaI,Uw];exact(RG _).replicate j) []
   simp only[G0,C7,t7]at h';unfold Oper.wp;rw[NK];show K (a.put o.dst _) _;rw[Nq];exact hK _ _ ρ' h'
  ·refine⟨_,hK,?_⟩;intro N B M w0 ρ s a w Q K hc M1 hR Nl hd hK;rw[Nq]at hd hK;have QL:=(hc.eval l).1;have Ub:=(hc.eval c).1;rw[M1 l aaa,hl]at QL;rw[M1 c aaa,M6]at Ub;have e1:=cI QL;have e2:=cI Ub;have Vc:=dX (B:=B) (ρ:=ρ) (w:=w) (ok:=okB ρ s.H w) hm;have Qn:z.cells.size=te.size:=(by have h1:=Vc.length;rw[fite.zlen]at h1;simpa using h1);have RG:∀ok':Nat->Prop,RTs w ok' z.cells.toList zt:=fun ok'=>uv hm XB
   have PC:(ie.bytes:Int)*(j:Int)<=281474976710656:=by rw[fite.bytes,I8];omega
   have M8:=run_make (P:=P) w T e ie z fit.und fite.info hz k k' (j:Int) (j:Int) o_ (u4 _) PC o_;simp only[d6,fite.size]at M8;have Uw:=qN z.cells j (by have:=fite.pos;omega);rw[Qn]at Uw
   have NK:(execOp a.eval o).run P w= .ok (.value (.slice (some ⟨w.heap.size,0,none⟩) j j)) (w.alloc (.cells (madeCells z.cells (j*te.size)) e)):=by simp[execOp,ho,e1,e2,M8]
   have Ua:zt.length=te.size:=by have:=(RG fun _=>True).length;rw[<-this];simpa using Qn
   obtain⟨ρ',h'⟩:=hc.newDar (hd d rfl) (Nl d rfl) [] (w':=w.alloc (.cells (madeCells z.cells (j*te.size)) e)) (D:=fun _=>False) (Turn.alloc _ _ _) (b:=w.heap.size) (cap:=j) (sz:=te.size) (us:=madeCells z.cells (j*te.size)) (e:=e) (fz:=(0,0)) (rows:=List.replicate j (zt.map .d))
    (fun _ h=>h.elim) (.inl (d8 _)) (kN _ _) (dF _) (by intro r hr;rw[(D7.1 hr).2,e7];exact Ua) s_ (by unfold maxLen;omega) aaI
    (by
     rw[G0,i7 aaI,Uw];refine Cells.replicate hc ⟨fun _ _=>False,by rw[e7,Ua];simpa using Qn,fun p v dd hv Su=>?_,fun _ _ h=>h.elim,fun _ _ _ _ h=>h.elim⟩ j;rw[p6,v5]at Su;obtain⟨t,ht,rfl⟩:=Su
     exact KA hm XB w _ p v t hv ht) []
   simp only[G0,C7,t7]at h';unfold Oper.wp;rw[NK];show K (a.put o.dst _) _;rw[Nq];exact hK _ _ ρ' h'
 ·exact h.elim
theorem wV {ti:Mm}(hΓ:Γ.chk P=true)(h:uz Γ ti=true):∃e te ie de,ti.elem=some e/\Γ.get e=some te/\te.Fit P e ie de/\de= .int .u8:=by
 unfold uz at h;split at h
 ·rename_i e he;split at h
  ·rename_i te hE;obtain⟨ie,de,fite⟩:=Env.fit hΓ hE;split at h
   ·rename_i hk;refine⟨e,te,ie,de,he,hE,fite,?_⟩;have:=fite.kind;rw[hk]at this
    cases de<;>simp[je]at this
    rw[this]
   ·cases h
  ·cases h
 ·cases h
theorem qX (bs:List UInt8):(bs.map aT).flatten=bs.map fun u=>Tr.int .u8 u.toNat:=by
 induction bs with
 | nil=>rfl
 | cons b bs ih=>simp[aT,<-ih]
theorem tC {ok:Nat->Prop}:∀bs:List UInt8,RTs w ok (bs.map fun u=>Value.int .u8 u.toNat) (bs.map fun u=>Tr.int .u8 u.toNat)
 | []=>trivial
 | _::bs=>⟨.int _ _,tC bs⟩
theorem xS {ok:Nat->Prop}:∀{vs:List Value} {bs:List UInt8},RTs w ok vs (bs.map fun u=>Tr.int .u8 u.toNat)->vs=bs.map fun u=>Value.int .u8 u.toNat
 | [],[],_=>rfl
 | v::vs,b::bs,h=>by
  have h1:RT w ok v (.int .u8 b.toNat):=h.1;have:v= .int .u8 b.toNat:=by cases h1;rfl
  rw[this,xS h.2]
  rfl
 | [],_::_,h=>h.elim
 | _::_,[],h=>h.elim
theorem Ge {esz:Nat}{y:AV}{K2:Bool->List (List Tr)->List Id->Prop}{ok:Nat->Prop}{v:Value}(h:fZ esz y H K2)(hn:∀t,y≠tS t)(hv:RV B ρ w ok v y):∃A n c,v= .slice A n c:=by
 unfold fZ at h;split at h
 ·rename_i b;exact absurd rfl (hn b)
 ·exact⟨_,_,_,hv⟩
 ·have hv:RT w ok v (.lst _ _):=hv;obtain⟨A,c,e,_⟩:=hv.slice_inv;exact⟨_,_,_,e⟩
 ·have hv:RT w (okF B ok true) v (.lst _ _):=hv;obtain⟨A,c,e,_⟩:=hv.slice_inv;exact⟨_,_,_,e⟩
 ·obtain⟨⟨A,n,c,e⟩,e1⟩:=hv;exact⟨_,_,_,e1.trans e⟩
 ·obtain⟨A,n,c,_,e1,_⟩:=hv;exact⟨_,_,_,e1⟩
 ·exact h.elim
theorem xl {Ts Td:TypeId}{d:Nat}{x:Operand}{ts td:Mm}(hΓ:Γ.chk P=true)(hTs:Γ.get Ts=some ts)(hTd:Γ.get Td=some td)(Nq:o.dst=some d)
  (ho:o.op= .convert Ts Td x) (h:pO Γ ts td d (ev x) H K):∃ef,K ef/\Good P o ev H ef:=by
 obtain⟨is,ds,fits⟩:=Env.fit hΓ hTs;obtain⟨id,dd,fitd⟩:=Env.fit hΓ hTd;have Na:x∈o.op.operands.toList:=by simp[ho,Op.operands]
 unfold pO at h;split at h
 ·rename_i k n hx;split at h
  ·rename_i k' hk;have hd:dd= .int k':=(by have:=fitd.kind;rw[hk]at this;cases dd<;>simp[je]at this;rw[this]);subst hd;refine⟨_,h,aG fun N B M w0 ρ s a w hc M1 hR=>?_⟩;have hv:=(hc.eval x).1;rw[M1 x Na,hx]at hv;have e1:=cI hv;refine⟨.int k' (k'.wrap n),?_,.int _ _,by simp[AV.ids,AR.ids,AC.ids]⟩
   have:(convert Ts Td (.int k n)).run P w= .ok (.int k' (k'.wrap n)) w:=by
    simp only[convert,m8,run_underlying fits.und,run_underlying fitd.und,j5]
    cases ds<;>simp[Conv.intToInt]
   simp only[execOp,ho,e1,m8,this,j5,o9]
  ·exact h.elim
 ·rename_i t hx;split at h
  ·rename_i hs;have hd:dd= .string:=(by have:=fitd.str;rw[hs]at this;cases dd<;>simp[xo]at this⊢);subst hd;refine⟨_,h,aG fun N B M w0 ρ s a w hc M1 hR=>?_⟩;have hv:=(hc.eval x).1;rw[M1 x Na,hx]at hv;have e1:=fK hv;refine⟨.string ⟨t.toArray⟩,?_,.str _,by simp[AV.ids,AR.ids,AC.ids]⟩
   have:(convert Ts Td (.string ⟨t.toArray⟩)).run P w= .ok (.string ⟨t.toArray⟩) w:=by
    simp only[convert,m8,run_underlying fits.und,run_underlying fitd.und,j5]
    cases ds<;>simp
   simp only[execOp,ho,e1,m8,this,j5,o9]
  ·split at h
   ·rename_i Ri;simp only[b9]at Ri;obtain⟨ZO,Ri⟩:=Ri;obtain⟨e,te,ie,de,he,hE,fite,rfl⟩:=wV hΓ Ri;have hsd:ds= .string:=(by have:=fits.str;rw[ZO]at this;cases ds<;>simp[xo]at this⊢);subst hsd;have hd:=nF fitd he;subst hd;obtain⟨M0,hK⟩:=h;refine⟨_,hK,?_⟩;intro N B M w0 ρ s a w Q K hc M1 hR Nl hd hK;rw[Nq]at hd hK;have hv:=(hc.eval x).1;rw[M1 x Na,hx]at hv;have e1:=fK hv;have N2:(⟨t.toArray⟩:ByteArray).size=t.length:=(by simp[ByteArray.size]);have hr:=run_bytes_of_string w Ts Td e ⟨t.toArray⟩ fits.und fitd.und fite.und;have Nk:=grownCap_ge w (⟨t.toArray⟩:ByteArray).size 0 e;have Nu:=grownCap_le_maxLen w (⟨t.toArray⟩:ByteArray).size 0 e (by rw[N2];unfold maxLen;omega);generalize grownCap w (⟨t.toArray⟩:ByteArray).size 0 e=gc at hr Nk Nu;rw[N2]at hr Nk
    have NK:(execOp a.eval o).run P w= .ok (.value (.slice (some ⟨w.heap.size,0,none⟩) t.length gc)) (w.drew.alloc (.cells (bytesRow ⟨t.toArray⟩ gc) e ((bytesRow ⟨t.toArray⟩ gc).size,(bytesRow ⟨t.toArray⟩ gc).size+1))):=by simp only[execOp,ho,e1,m8,hr,j5,o9]
    have O3:(bytesRow ⟨t.toArray⟩ gc).size=gc:=by simp[bytesRow,ByteArray.size];omega
    have N7:(bytesRow ⟨t.toArray⟩ gc).toList.take t.length=t.map fun u=>Value.int .u8 u.toNat:=by simp only[bytesRow,B7];rw[A3 s_];rw[i7 s_];simp
    obtain⟨ρ',h'⟩:=hc.newArr (hd d rfl) (Nl d rfl) [] (w':=w.drew.alloc (.cells (bytesRow ⟨t.toArray⟩ gc) e ((bytesRow ⟨t.toArray⟩ gc).size,(bytesRow ⟨t.toArray⟩ gc).size+1))) ((Turn.drew _ w).trans (Turn.alloc _ _ _)) (b:=w.heap.size) (cap:=gc) (sz:=1)
     (us:=bytesRow ⟨t.toArray⟩ gc) (e:=e) (fz:=((bytesRow ⟨t.toArray⟩ gc).size,(bytesRow ⟨t.toArray⟩ gc).size+1)) (rows:=t.map aT) (fr:=true) (d8 _) (heap_alloc_new w.drew _) (fun p hp h=>o_) (by intro r hr;obtain⟨u,_,rfl⟩:=n9.1 hr;rfl) (by simpa using Nk) Nu
     (by rw[O3];omega) (fun ok' _ _=>by
      simp only[e7,Nat.mul_one];rw[N7,qX]
      exact tC t) []
    simp only[e7,C7,t7]at h';unfold Oper.wp;rw[NK];show K (a.put o.dst _) _;rw[Nq];exact hK _ _ ρ' h'
   ·exact h.elim
 ·rename_i Rq Qf;split at h
  ·rename_i hs Ri;obtain⟨e,te,ie,de,he,hE,fite,rfl⟩:=wV hΓ Ri;have hd:=nF fits he;subst hd;have hd:dd= .string:=(by have:=fitd.str;rw[hs]at this;cases dd<;>simp[xo]at this⊢);subst hd;obtain⟨_,rows,R,⟨bs,rfl,hK⟩,Oa⟩:=xk h;refine⟨_,hK,aG fun N B M w0 ρ s a w hc M1 hR=>?_⟩;obtain⟨nv,f1,f2,f3,f4⟩:=Oa N B M w0 ρ s a w hc (M1 x Na) hR;rw[qX]at f3;have Ul:=xS f3;subst Ul;refine⟨.string ⟨bs.toArray⟩,?_,.str _,by simp[AV.ids,AR.ids,AC.ids]⟩;have hv:=(hc.eval x).1;rw[M1 x Na]at hv;obtain⟨A,n,c,e1⟩:=Ge h (fun t ht=>Qf t ht) hv;have M0:=f1 P w;rw[e1]at M0;simp only[Builtin.lenOf,o9,Result.ok.injEq,and_true,e7]at M0;subst M0;have Ne:=f2 P w rfl;rw[e1]at Ne
   have Ui:(convert Ts Td (.slice A bs.length c)).run P w= .ok (.string ⟨bs.toArray⟩) w:=by
    cases A with
    | none=>
     simp only[Builtin.firstCells,o9,Result.ok.injEq,and_true]at Ne
     have:bs=[]:=by have:=congrArg Array.size Ne;simp at this;exact w7 this.symm
     subst this;rw[run_convert_bytes_string w Ts Td e none _ c fits.und fite.und fitd.und];simp[Conv.bytesToString]
     rfl
    | some ad=>simp only[Builtin.firstCells,e7,Nat.mul_one]at Ne;rw[run_convert_bytes_string w Ts Td e (some ad) _ c fits.und fite.und fitd.und];rw[run_bytesToString w ad bs.length c (bs.map fun u=>(u.toNat:Int)) (by rw[Ne];simp),foldl_push_byteCells];simp
   simp only[execOp,ho,e1,m8,Ui,j5,o9]
  ·exact h.elim
theorem Br {T ft:TypeId}{x:Operand}{f off sz:Nat}{ti to:Mm}(hΓ:Γ.chk P=true)(hT:Γ.get T=some ti)(hf:ti.fields[f]?=some (off,sz,ft))(Uk:Γ.get ft=some to)
  (ho:o.op= .field T x f) (h:wi off to (ev x) KV):∃v,KV v/\Good P o ev H (.val v []):=by
 obtain⟨i,d,fit⟩:=Env.fit hΓ hT;obtain⟨fs,F,rfl,h1,h2,h3,_⟩:=fit.field hf;subst h3;obtain⟨io,dO,fito⟩:=Env.fit hΓ Uk;have Na:x∈o.op.operands.toList:=by simp[ho,Op.operands]
 unfold wi at h;split at h
 ·rename_i cs hx
  have base:∀(N B:Nat) (M:Nat->Prop) (w0:Start) (ρ:Rho) (s:F_) (a:Act) (w:World),Conc N B M w0 ρ s a w->(∀x∈o.op.operands.toList,evL s.L x=ev x)->
    ∃us,a.eval x= .agg us/\RCs B ρ w (okB ρ s.H w) us.toList cs/\∀id∈cs.flatMap AC.ids,s.U id.1:=by
   intro N B M w0 ρ s a w hc M1;have hv:=hc.eval x;rw[M1 x Na,hx]at hv;obtain⟨⟨us,e1,e2⟩,e3⟩:=hv;exact⟨us,e1,e2,e3⟩
  split at h
  ·rename_i NB;split at h
   ·rename_i xs Ng;obtain⟨g1,g2⟩:=gB Ng;refine⟨_,h,aG fun N B M w0 ρ s a w hc M1 hR=>?_⟩;obtain⟨us,e1,e2,e3⟩:=base N B M w0 ρ s a w hc M1;refine⟨.agg (us.extract off (off+to.size)),?_,⟨_,rfl,?_⟩,?_⟩
    ·simp[execOp,ho,e1,Instr.field,run_underlying fit.und,h1,asAgg,part,jt fito.und,fito.agg,NB,cv fito.info,fito.size,h2]
    ·rw[g2];have:=(e2.drop off).take to.size;simpa [G9]using this
    ·rw[g2];exact kw e3 off to.size
   ·exact h.elim
  ·rename_i NB;split at h
   ·rename_i c Ng;obtain⟨g1,g2⟩:=gB Ng;refine⟨_,h,aG fun N B M w0 ρ s a w hc M1 hR=>?_⟩;obtain⟨us,e1,e2,e3⟩:=base N B M w0 ρ s a w hc M1
    have Po:cs[off]?=some c:=by have:((cs.drop off).take 1)[0]?=some c:=(by rw[<-g2];rfl);simpa using this
    obtain⟨u,hu,SK⟩:=e2.get off c Po;have NE:us[off]?=some u:=(by simpa using hu);refine⟨u,?_,SK,fun id M7=>e3 id (u0.2 ⟨c,c9 Po,M7⟩)⟩;simp[execOp,ho,e1,Instr.field,run_underlying fit.und,h1,asAgg,part,jt fito.und,fito.agg,NB,h2,NE]
   ·exact h.elim
 ·exact h.elim
theorem AX (places:Nat->Option (Nat×Nat)){B:Nat}{ρ:Rho}{w:World}{ok:Nat->Prop}{f:Operand->Value}{fs:List (Nat×Nat×TypeId)}(hp:∀i off sz ft,fs[i]?=some (off,sz,ft)->places i=some (off,sz)):
  ∀(parts:List (Nat×Operand)) (zero:List AC) (cells:Array Value) (K:List AC->Prop),(∀p∈parts,RV B ρ w ok (f p.2) (ev p.2))->RCs B ρ w ok cells.toList zero->
   eB fs zero (parts.map fun p=>(p.1,ev p.2)) K->∃cs out,K cs/\Instr.fill places cells (parts.map fun p=>(p.1,f p.2))=some out/\RCs B ρ w ok out.toList cs
 | [],zero,cells,K,_,hr,h=>⟨zero,cells,h,by simp[Instr.fill],hr⟩
 |(i,x)::parts,zero,cells,K,hv,hr,h=>by
  simp only[p7,eB]at h
  cases hx:ev x with
  | r ar=>
   rw[hx]at h;simp only[eB]at h;split at h
   ·rename_i off sz ft OJ;split at h
    ·rename_i z hbq Pd;have hs:ar.cells.length=sz:=(by simpa using hbq);have Pv:=hp i off sz ft OJ;obtain⟨g1,g2⟩:=iK Pd;have Pc:=hv (i,x) s_;simp only at Pc;rw[hx]at Pc;have Ne:=RR.cells Pc;have Np:=Ne.length;have N7:=hr.length
     have Qz:(f x).cells.zipIdx.foldl (fun cs (y:Value×Nat)=>cs.setIfInBounds (off+y.2) y.1) cells=(cells.toList.take off++(f x).cells.toList++cells.toList.drop (off+(f x).cells.toList.length)).toArray:=by
      have key:∀(vs:List Value) (k:Nat) (cells:Array Value),off+k+vs.length<=cells.size->
        (vs.zipIdx k).foldl (fun(cs:Array Value) (y:Value×Nat)=>cs.setIfInBounds (off+y.2) y.1) cells=(cells.toList.take (off+k)++vs++cells.toList.drop (off+k+vs.length)).toArray:=by
       intro vs
       induction vs with
       | nil=>intro k cells _;simp
       | cons u vs ih=>
        intro k cells hl;simp only[d5]at hl;simp only[List.zipIdx_cons,F1];rw[ih (k+1) _ aab];have M3:off+k<cells.toList.length:=by simp;omega
        have e1:(cells.toList.set (off+k) u).take (off+(k+1))=cells.toList.take (off+k)++[u]:=by rw[show off+(k+1)=off+k+1 by omega,z6 aab];simp[G5]
        have e2:(cells.toList.set (off+k) u).drop (off+(k+1)+vs.length)=cells.toList.drop (off+k+(vs.length+1)):=by rw[List.drop_set_of_lt o_];congr 1;omega
        simp only[Array.toList_setIfInBounds,d5,e1,e2];simp
      have:=key (f x).cells.toList 0 cells (by rw[Np];simp at N7;omega);rw[<-Array.foldl_toList,Array.toList_zipIdx];simpa using this
     have Qc:RCs B ρ w ok (cells.toList.take off++(f x).cells.toList++cells.toList.drop (off+(f x).cells.toList.length)) z:=by rw[g2,Np];exact((hr.take off).append Ne).append (hr.drop _)
     obtain⟨cs,out,k1,k2,k3⟩:=AX places hp parts z (cells.toList.take off++(f x).cells.toList++cells.toList.drop (off+(f x).cells.toList.length)).toArray K (fun p P1=>hv p (by simp[P1])) Qc h;refine⟨cs,out,k1,?_,k3⟩;simp only[p7,Instr.fill,Pv];have OD:(f x).cells.size=sz:=(by rw[<-hs,<-Np];simp);rw[b8 (by simp at N7;simp[OD];omega),Qz];exact k2
    ·exact h.elim
   ·exact h.elim
  | tup=>rw[hx]at h;exact h.elim
  | el=>rw[hx]at h;exact h.elim
  | ro=>rw[hx]at h;exact h.elim
  | unk=>rw[hx]at h;exact h.elim
theorem BT {α β:Type}(g:α->Sem β)(g':α->β)(w:World):∀l:List α,(∀x∈l,(g x).run P w= .ok (g' x) w)->(l.mapM g).run P w= .ok (l.map g') w
 | [],_=>s_
 | x::l,h=>by
  simp only[List.mapM_cons,m8,h x s_,j5,BT g g' w l (fun y hy=>h y aaS),o9,p7]
theorem AA {T:TypeId}{parts:Array (Nat×Operand)}{ti:Mm}(hΓ:Γ.chk P=true)(hT:Γ.get T=some ti)(ho:o.op= .build T parts)(M9:ti.fields≠[])
  (h:eB ti.fields ti.zero (parts.toList.map fun p=>(p.1,ev p.2)) fun cs=>K (.val (.r (.agg cs)) [])):∃ef,K ef/\Good P o ev H ef:=by
 obtain⟨i,d,fit⟩:=Env.fit hΓ hT;obtain⟨z,hz,hm⟩:=fit.zero
 have RN:∃fs,d= .struct fs/\fs.toList.map (fun f=>(f.offset,P.cellsOf f.type,f.type))=ti.fields/\∀F∈fs.toList,P.cellsOf F.type≠0:=by
  have ho:=fit.fields
  cases d<;>simp only[kj]at ho<;>try(rw[D1]at ho;exact absurd ho M9)
  rename_i fs;simp only[b9,j6,o8,v2]at ho;refine⟨fs,rfl,ho.1,fun F hF e=>?_⟩;have:=ho.2 (F.offset,P.cellsOf F.type,F.type) (by rw[<-ho.1];exact n9.2 ⟨F,hF,rfl⟩);simp only[e]at this;simp at this
 obtain⟨fs,rfl,PQ,Ny⟩:=RN
 have Sh:∀w:World,(fs.mapM (fun f:Field=>(do pure (f.offset,<-sizeOf f.type):Sem (Nat×Nat)))).run P w= .ok (fs.map fun f:Field=>(f.offset,P.cellsOf f.type)) w:=by
  intro w;rw[Array.mapM_eq_mapM_toList]
  have:=BT (P:=P) (fun f:Field=>(do pure (f.offset,<-sizeOf f.type):Sem (Nat×Nat))) (fun f:Field=>(f.offset,P.cellsOf f.type)) w fs.toList (fun F hF=>by
   have:=Ny F hF;unfold Program.cellsOf at this⊢
   cases hi:P.info? F.type with
   | none=>rw[hi]at this;simp at this
   | some j=>simp[cv hi])
  rw[Sem.run_map,this,j5];congr 1;apply Array.ext';simp
 have Pv:∀(i off sz:Nat) (ft:TypeId),ti.fields[i]?=some (off,sz,ft)->(fs.map fun f:Field=>(f.offset,P.cellsOf f.type))[i]?=some (off,sz):=by
  intro i off sz ft hi;rw[<-PQ,p6,v5]at hi;obtain⟨F,g1,g2⟩:=hi;simp only[Prod.mk.injEq]at g2;have:fs[i]?=some F:=by simpa using g1
  simp[this,g2.1,g2.2.1]
 have key:∀(B:Nat) (ρ:Rho) (w:World) (ok:Nat->Prop) (f:Operand->Value) (K2:List AC->Prop),(∀p∈parts.toList,RV B ρ w ok (f p.2) (ev p.2))->eB ti.fields ti.zero (parts.toList.map fun p=>(p.1,ev p.2)) K2->
   ∃cs out,K2 cs/\Instr.fill (fun i=>(fs.map fun f:Field=>(f.offset,P.cellsOf f.type))[i]?) z.cells (parts.toList.map fun p=>(p.1,f p.2))=some out/\RCs B ρ w ok out.toList cs:=by
  intro B ρ w ok f K2 hv h;exact AX _ Pv parts.toList ti.zero z.cells K2 hv (dX hm) h
 have det:∀(l:List (Nat×AV)) (zero:List AC) (K1:List AC->Prop),eB ti.fields zero l K1->∃cs,K1 cs/\∀K2:List AC->Prop,K2 cs->eB ti.fields zero l K2:=by
  intro l
  induction l with
  | nil=>intro zero K1 h;exact⟨zero,h,fun K2 h=>h⟩
  | cons p l ih=>
   intro zero K1 h;obtain⟨i,v⟩:=p
   cases v with
   | r ar=>
    simp only[eB]at h⊢;split at h
    ·rename_i off sz ft hf;split at h
     ·rename_i z' h1 h2;obtain⟨cs,g1,g2⟩:=ih _ _ h;exact⟨cs,g1,fun K2 hk=>g2 K2 hk⟩
     ·exact h.elim
    ·exact h.elim
   | tup=>exact h.elim
   | el=>exact h.elim
   | ro=>exact h.elim
   | unk=>exact h.elim
 obtain⟨cs,hK,UC⟩:=det _ _ _ h;refine⟨_,hK,aG fun N B M w0 ρ s a w hc M1 hR=>?_⟩
 have N5:∀p∈parts.toList,RV B ρ w (okB ρ s.H w) (a.eval p.2) (ev p.2)/\∀id∈(ev p.2).ids,s.U id.1:=fun p hp=>by
  have:=hc.eval p.2;rwa [M1 p.2 (by simp only[ho,Op.operands];exact n9.2 ⟨p,hp,rfl⟩)]at this
 obtain⟨cs',out,rfl,g2,g3⟩:=key B ρ w (okB ρ s.H w) a.eval (fun x=>x=cs) (fun p hp=>(N5 p hp).1) (UC _ rfl);refine⟨.agg out,?_,⟨out,rfl,g3⟩,?_⟩
 ·have:(Instr.build T (parts.map fun p=>(p.1,a.eval p.2))).run P w= .ok (.agg out) w:=by simp only[Instr.build,m8,fF fit.info hz,j5,run_underlying fit.und,Sh,I3];simp only[Array.getElem?_map]at g2⊢;rw[g2];rfl
  simp only[execOp,ho,m8,this,j5,o9]
 ·
  have idsb:∀(l:List (Nat×AV)) (zero cs:List AC),(∀id∈zero.flatMap AC.ids,s.U id.1)->(∀p∈l,∀id∈p.2.ids,s.U id.1)->eB ti.fields zero l (fun x=>x=cs)->∀id∈cs.flatMap AC.ids,s.U id.1:=by
   intro l
   induction l with
   | nil=>intro zero cs hz _ h;cases h;exact hz
   | cons p l ih=>
    intro zero cs hz hl h;obtain⟨i,v⟩:=p
    cases v with
    | r ar=>
     simp only[eB]at h;split at h
     ·split at h
      ·rename_i z' h1 h2;refine ih z' cs (fun id M7=>?_) (fun p hp=>hl p (by simp[hp])) h;obtain⟨_,g⟩:=iK h2;rw[g]at M7;simp only[List.flatMap_append,f0]at M7;rcases M7 with(M7|M7)|M7
       ·obtain⟨c,c1,c2⟩:=u0.1 M7;exact hz id (u0.2 ⟨c,t9 c1,c2⟩)
       ·refine hl (i,.r ar) s_ id ?_
        cases ar with|c x=>simpa [AR.cells,AV.ids,AR.ids]using M7|agg xs=>exact M7
       ·obtain⟨c,c1,c2⟩:=u0.1 M7;exact hz id (u0.2 ⟨c,z7 c1,c2⟩)
      ·exact h.elim
     ·exact h.elim
    | tup=>exact h.elim
    | el=>exact h.elim
    | ro=>exact h.elim
    | unk=>exact h.elim
  exact idsb _ _ _ (by rw[pP hm];simp) (fun p hp=>by
   obtain⟨q,hq,rfl⟩:=n9.1 hp
   exact(N5 q hq).2) (UC _ rfl)
end
section
variable {P:Program} {Γ:Env} {N B:Nat} {M:Nat->Prop} {w0:Start} {ρ:Rho} {s:F_} {a:Act} {w:World} {o:Oper} {ev:Operand->AV} {H:Id->Option AO} {K:Eff->Prop} {KV:AV->Prop}
theorem oz:∀(parts:List (Nat×Operand)) (n:Nat) (K:List (List DC)->List Id->Prop),kM H n (parts.map fun p=>(p.1,ev p.2)) K->
  ∃rows ids,K rows ids/\rows.length=parts.length/\(∀(j:Nat) (p:Nat×Operand),parts[j]?=some p->p.1=n+j)/\
   ∀(N B:Nat) (M:Nat->Prop) (w0:Start) (ρ:Rho) (s:F_) (a:Act) (w:World),Conc N B M w0 ρ s a w->(∀o∈ids,s.H o=H o)->ids.Nodup->
    (∀p∈parts,RV B ρ w (okB ρ s.H w) (a.eval p.2) (ev p.2))->Cells ρ s w ids (fun _=>False) ((parts.map fun p=>(a.eval p.2).cells.toList).flatten) rows.flatten/\
     ∀(j:Nat) (p:Nat×Operand) (row:List DC),parts[j]?=some p->rows[j]?=some row->(a.eval p.2).cells.size=row.length
 | [],n,K,h=>⟨[],[],h,rfl,s_,fun N B M w0 ρ s a w _ _ _ _=>⟨Cells.nil,s_⟩⟩
 |(i,x)::parts,n,K,h=>by
  simp only[p7,kM]at h
  cases hx:ev x with
  | r ar=>
   rw[hx]at h;simp only[kM]at h;split at h
   ·rename_i hn;have hin:i=n:=(by simpa using hn);obtain⟨ds,ids0,h0,Qg⟩:=ru _ _ h;obtain⟨rows,ids,h1,h2,h3,h4⟩:=oz parts (n+1) _ h0;refine⟨ds::rows,ids0++ids,h1,by simp[h2],fun j p hj=>?_,fun N B M w0 ρ s a w hc hH Pm hf=>?_⟩
    ·cases j with|zero=>simp at hj;subst hj;simpa using hin|succ j=>have:=h3 j p aaA;omega
    ·have hv:=hf (i,x) s_;simp only at hv;rw[hx]at hv;have c1:=Qg hc (fun o ho=>hH o aah) (E3.1 Pm).1 _ (RR.cells hv);obtain⟨c2,c3⟩:=h4 N B M w0 ρ s a w hc (fun o ho=>hH o aah) (E3.1 Pm).2.1 (fun p hp=>hf p (by simp[hp]));refine⟨?_,fun j p row hj hr=>?_⟩
     ·simp only[p7,r9];exact Cells.append hc c1 c2 fun o ho Nr=>(E3.1 Pm).2.2 o ho o Nr rfl
     ·cases j with
      | zero=>
       simp at hj hr;subst hj;subst hr;obtain⟨_,g,_⟩:=c1
       simpa using g
      | succ j=>exact c3 j p row aaA aaO
   ·exact h.elim
  | tup=>rw[hx]at h;exact h.elim
  | el=>rw[hx]at h;exact h.elim
  | ro=>rw[hx]at h;exact h.elim
  | unk=>rw[hx]at h;exact h.elim
 termination_by parts=>parts.length
theorem qZ {T e:TypeId}{d n:Nat}{parts:Array (Nat×Operand)}{ti te:Mm}(hΓ:Γ.chk P=true)(hT:Γ.get T=some ti)(he:ti.elem=some e)(hE:Γ.get e=some te)(Nq:o.dst=some d)(ho:o.op= .buildSlice T n parts)
  (hn:parts.toList.length=n)
  (h:kM H 0 (parts.toList.map fun p=>(p.1,ev p.2)) fun rows ids=>(∀r∈rows,r.length=te.size)/\n*te.size<=16777216/\ia ids=true/\K ⟨.r (.c (.own (d,0,0))),ids.map (fun r=>(r,none))++[((d,0,0),some (.dar te.size rows none))],some d,ids⟩):
  ∃ef,K ef/\Good P o ev H ef:=by
 obtain⟨ii,dd,fit⟩:=Env.fit hΓ hT;obtain⟨ie,de,fite⟩:=Env.fit hΓ hE;have hd:=nF fit he;subst hd;obtain⟨z,hz,hm⟩:=fite.zero;obtain⟨rows,ids,⟨hu,N2,Pm,hK⟩,N7,Tg,OX⟩:=oz parts.toList 0 _ h;refine⟨_,hK,?_⟩;intro N B M w0 ρ s a w Q K hc M1 hR Nl hd hK;rw[Nq]at hd hK
 have N5:∀p∈parts.toList,RV B ρ w (okB ρ s.H w) (a.eval p.2) (ev p.2):=fun p hp=>by
  exact V115
 let vss:List (List Value):=parts.toList.map fun p=>(a.eval p.2).cells.toList
 have P9:vss.length=rows.length:=by simp[vss,N7]
 obtain⟨Ne,P7⟩:=OX N B M w0 ρ s a w hc hR (nodupI_iff.1 Pm) N5
 have Nc:∀(j:Nat) (p:Nat×Operand),parts.toList[j]?=some p->p.1=j/\(a.eval p.2).cells.size=te.size:=by
  intro j p hj
  have Ol:j<parts.toList.length:=by exact V113
  have UX:rows[j]?=some (rows[j]'o_):=i8 o_;have:=P7 j p _ hj UX;rw[hu _ (c9 UX)]at this;exact⟨by simpa using Tg j p hj,this⟩
 let init:Array Value:=(Array.range (n*te.size)).map (fun i=>(if n*te.size=0 then #[]else z.cells)[i%(if n*te.size=0 then #[]else z.cells).size]!)
 have So:init.size=n*te.size:=by simp[init]
 have SC:Instr.fill (fun i=>some (i*te.size,te.size)) init ((parts.map fun p=>(p.1,a.eval p.2)).toList)=some vss.flatten.toArray:=by exact V23
 have M8:(execOp a.eval o).run P w= .ok (.value (.slice (some ⟨w.heap.size,0,none⟩) n n)) (w.alloc (.cells vss.flatten.toArray e)):=by exact V49
 have M0:rows.length=n:=by rw[N7,hn]
 have Rg:n<=maxLen:=by have:=fite.pos;have h1:n*1<=n*te.size:=A9 _ o_;unfold maxLen;omega
 have Nh:vss.flatten.length=n*te.size:=by obtain⟨_,g,_⟩:=Ne;rw[show vss.flatten.length=rows.flatten.length from g,aR te.size rows hu,M0]
 obtain⟨ρ',h'⟩:=hc.newDar (hd d rfl) (Nl d rfl) ids (w':=w.alloc (.cells vss.flatten.toArray e)) (D:=fun _=>False) (Turn.alloc _ _ _) (b:=w.heap.size) (cap:=n) (sz:=te.size) (us:=vss.flatten.toArray) (e:=e) (fz:=(0,0)) (rows:=rows)
  (fun _ h=>h.elim) (.inl (d8 _)) (kN _ _) (dF _) hu o_ Rg (by simp only[B3,Nh]) (by
   rw[M0,i7 (by simp only[Nh];omega)];obtain⟨Fp,c1,c2,c3,c4⟩:=Ne;refine⟨Fp,c1,c2,fun p c Oy=>⟨(c3 p c Oy).1,fun e=>?_⟩,c4⟩;obtain⟨⟨o1,x1,m1,m2,m3⟩,_⟩:=c3 p c Oy;have:=(hc.rng o1 x1 c m2 m3).1
   omega) ids
 rw[M0]at h';unfold Oper.wp;rw[M8];show K (a.put o.dst _) _;rw[Nq];exact hK _ _ ρ' h'
end
section
variable {P:Program} {Γ:Env} {N B:Nat} {M:Nat->Prop} {w0:Start} {ρ:Rho} {s:F_} {a:Act} {w:World} {o:Oper} {ev:Operand->AV} {H:Id->Option AO} {K:Eff->Prop} {KV:AV->Prop}
theorem Conc.upd (h:Conc N B M w0 ρ s a w){q:Id}{x x':AO}(hq:s.H q=some x){b:Nat}(hb:blk (ρ q)=some b)(rm:List Id)(Xu:q∉rm)(F:Nat->Prop)(hF:∀c,F c->∃o x,o∈rm/\s.H o=some x/\Own ρ o c){w':World}(hT:Turn (fun k=>k=b) w w')(S5:∀id∈x'.ids,s.U id.1)
  (Nz:∀(ρ':Rho) (ok':Nat->Prop),(∀o,ρ' o=ρ o)->(∀c,ρ.fp q c\/F c->ρ'.fp q c)->(∀c,okB ρ s.H w c->w'.heap[c]?=w.heap[c]?/\ok' c)->(∀o x c,o∈rm->s.H o=some x->Own ρ o c->¬F c->w'.heap[c]?=w.heap[c]?/\ok' c)->
   (∀c,F c->w'.heap[c]?=w.heap[c]?/\c≠b)->(∀c,ρ.fp q c->c≠b->w'.heap[c]?=w.heap[c]?)->RO B ρ' w' ok' q x') {dst:Option Nat} (hd:∀d,dst=some d->d<N) (vv:Value) (R:List Id):
  ∃ρ',Conc N B M w0 ρ' (s.app dst ⟨.unk,rm.map (fun r=>(r,none))++[(q,some x')],none,R⟩) (a.put dst vv) w':=by
 let ρ':Rho:=⟨ρ.val,fun o c=>ρ.fp o c\/(o=q/\F c),ρ.al⟩
 have Nj:∀o c,Own ρ' o c↔(Own ρ o c\/(o=q/\F c)):=fun o c=>by
  show(blk (ρ o)=some c\/(ρ.fp o c\/(o=q/\F c)))↔_;unfold Own;rw[or_assoc]
 have RE:Own ρ q b:= .inl hb;have hr:=h.rng q x b hq RE;have Ra:=zS rm s.H q (some x')
 have YW:∀c,F c->c≠b:=fun c hc e=>by
  obtain⟨o,x1,g1,g2,g3⟩:=hF c hc;subst e;exact h.sep o q x1 x c g2 hq (fun e=>Xu (e▸g1)) g3 RE
 have PK:∀o x1 c,o∈rm->s.H o=some x1->Own ρ o c->¬F c->w'.heap[c]?=w.heap[c]?/\okB ρ' (bW s.H (rm.map (fun r=>(r,none))++[(q,some x')])) w' c:=by
  intro o x1 c h1 h2 h3 Zs;have M3:=(h.rng o x1 c h2 h3).1;have M9:c≠b:=fun e=>by subst e;exact h.sep o q x1 x c h2 hq (fun e=>Xu (e▸h1)) h3 RE
  refine⟨hT.block c M3 M9,⟨z8 M3 hT.size,h.alw c (h.rng o x1 c h2 h3).2⟩,fun o1 x2 h5 h6=>?_⟩;rw[Ra]at h5;rw[Nj]at h6;rcases h6 with h6|⟨_,h6⟩
  ·by_cases e:o1=q
   ·subst e;exact h.sep o o1 x1 x c h2 hq (fun e3=>Xu (e3▸h1)) h3 h6
   ·simp only[b8 e]at h5;by_cases e2:o1∈rm
    ·simp[e2]at h5
    ·simp only[b8 e2]at h5;exact h.sep o o1 x1 x2 c h2 h5 (fun e3=>e2 (e3▸h1)) h3 h6
  ·exact Zs h6
 refine⟨ρ',?_⟩
 have:=h.step (fun k=>k=b) (q::rm) (w':=w') (ρ':=ρ') (H':=bW s.H (rm.map (fun r=>(r,none))++[(q,some x')])) (U':=s.U) (a':=a.put dst vv) (L':=mE s.L dst .unk) hT aaK aaH
  (fun _ _=>rfl) (fun o x1 ho _=>by
   funext c;have:o≠q:=fun e=>ho (by simp[e])
   exact propext ⟨fun hc=>hc.elim id fun hc=>absurd hc.1 this,.inl⟩) rfl (fun o ho=>by
   rw[Ra];simp only[d7,not_or]at ho
   simp only[b8 ho.1,b8 ho.2]) (fun _ h=>h)
  (fun c hc e=>by subst e;exact hc.2 q x hq RE)
  (fun o x1 c h1 h2 h3 e=>by subst e;exact h.sep o q x1 x c h1 hq (fun e=>h2 (by simp[e])) h3 RE)
  (fun c hc hM e=>by
   subst e;rcases hr.2 with g|g
   ·omega
   ·exact hM g)
  (fun o x1 c h1 h2 h3=>by
   rw[Ra]at h2;by_cases e:o=q
   ·subst e;rw[Nj]at h3;rcases h3 with h3|⟨_,h3⟩
    ·have:=h.rng o x c hq h3;exact⟨z8 this.1 hT.size,this.2,.inr ⟨o,x,hq,s_,h3⟩⟩
    ·obtain⟨o',x2,g1,g2,g3⟩:=hF c h3;have:=h.rng o' x2 c g2 g3;exact⟨z8 this.1 hT.size,this.2,.inr ⟨o',x2,g2,by simp[g1],g3⟩⟩
   ·simp only[d7,e,false_or]at h1;simp only[b8 e,c7 h1]at h2
    cases h2)
  (fun o o' x1 x2 c h1 h2 h3 h4 M9=>by
   rw[Ra]at h3 h4;exfalso;by_cases e:o=q
   ·exact V91
   ·simp only[d7,e,false_or]at h1;simp only[b8 e,c7 h1]at h3
    cases h3)
  (fun hk o x1 h1 h2=>by
   rw[Ra]at h2;by_cases e:o=q
   ·subst e;simp only[if_true,Option.some.injEq]at h2;subst h2;refine⟨Nz ρ' _ (fun _=>rfl) (fun c hc=>hc.elim .inl fun hc=> .inr ⟨rfl,hc⟩) hk PK (fun c hc=>?_) (fun c hc M9=>hT.block c (h.rng o x c hq (.inr hc)).1 M9),(h.usedH o x hq).1,S5⟩;obtain⟨o',x2,g1,g2,g3⟩:=hF c hc;exact⟨hT.block c (h.rng o' x2 c g2 g3).1 (YW c hc),YW c hc⟩
   ·simp only[d7,e,false_or]at h1;simp only[b8 e,c7 h1]at h2
    cases h2)
  (fun hk t=>h.slots hd (av:= .unk) trivial aaT t)
 exact this.congr (fun _=>rfl) (fun _=>rfl) (fun n=>by simp[F_.app])
theorem my {T:TypeId}{ti:Mm}{i:TypeInfo}{d:TypeDesc}(fit:ti.Fit P T i d)(b off:Nat)(v:Value)(hl:v.cells.size=ti.size){cur:Array Value}{e:TypeId}{fz:Nat×Nat}(hb:w.heap[b]?=some (.cells cur e fz))(hz:cp cur.size fz)
  (Nx:off+ti.size<=cur.size) (h1:∀u∈v.cells.toList,u.oneCell'=true):(Instr.storeAt T (.pointer (some ⟨b,off,none⟩)) v).run P w= .ok () (w.setCells b off v.cells.toList):=by
 have OS:v.cells.toList.length=ti.size:=by simpa using hl
 have Nw:=run_storeCells_cells (P:=P) b off v.cells.toList 0 w (fun j hj=>by
   rw[cell_of_row w b _ cur e fz hb];simp only[y6]
   rw[w8 o_];rfl) (fun j hj=>by
   simp only[World.frozen?,hb,y6];have:=hz (off+j) o_;simp only[B1,p9,Nat.not_le,Nat.not_lt]
   omega) h1
 simp only[y6]at Nw;simp[Instr.storeAt,Instr.sureAddr,storeVar,cv fit.info,fit.size,hl,Nw]
theorem Ko {U:Nat->Prop}{off:Nat}{xs l l':List AC}(h:lay off xs l=some l')(h1:∀id∈xs.flatMap AC.ids,U id.1)(h2:∀id∈l.flatMap AC.ids,U id.1):∀id∈l'.flatMap AC.ids,U id.1:=by
 obtain⟨_,rfl⟩:=iK h;intro id M7;simp only[List.flatMap_append,f0]at M7;rcases M7 with(M7|M7)|M7
 ·obtain⟨c,c1,c2⟩:=u0.1 M7;exact h2 id (u0.2 ⟨c,t9 c1,c2⟩)
 ·exact h1 id M7
 ·obtain⟨c,c1,c2⟩:=u0.1 M7;exact h2 id (u0.2 ⟨c,z7 c1,c2⟩)
theorem LB {ar:AR}:∀id∈ar.cells.flatMap AC.ids,id∈(AV.r ar).ids:=by
 intro id M7
 cases ar with|c x=>simpa [AR.cells,AV.ids,AR.ids]using M7|agg xs=>exact M7
theorem jX {α:Type}{sz off:Nat}{row row' ts:List α}(l1:off+ts.length<=row.length)(l2:row'=row.take off++ts++row.drop (off+ts.length)):∀(rows:List (List α)) (i:Nat),(∀r∈rows,r.length=sz)->rows[i]?=some row->
  (rows.set i row').flatten=rows.flatten.take (i*sz+off)++ts++rows.flatten.drop (i*sz+off+ts.length)
 | [],i,_,h=>by simp at h
 | r::rows,0,hu,h=>by
  simp at h;subst h;simp only[D6,r9,Nat.zero_mul,u6];rw[A3 o_,l2];rw[List.drop_append_of_le_length o_]
  simp
 | r::rows,i+1,hu,h=>by
  have hr:=hu r s_;simp only[List.set_cons_succ,r9];rw[jX l1 l2 rows i (fun r hr=>hu r aaz) aaf];have e1:(i+1)*sz+off=r.length+(i*sz+off):=by rw[p8,hr];omega
  rw[e1,List.take_length_add_append,I1 r.length,List.drop_length_add_append];simp
theorem vR {α:Type}{A ys:List α}{k:Nat}(h:k+ys.length<=A.length)(p:Nat):(A.take k++ys++A.drop (k+ys.length))[p]?=if p<k then A[p]? else if p<k+ys.length then ys[p-k]? else A[p]?:=by
 have hk:(A.take k).length=k:=by rw[j8];omega
 have Ni:(A.take k++ys).length=k+ys.length:=by rw[c8,hk]
 split
 ·rw[j7 o_,j7 o_,n3];simp_all
 ·split
  ·rw[j7 o_,m6 o_,hk]
  ·rw[m6 o_,Ni,v3];congr 1;omega
theorem yJ {T:TypeId}{x y:Operand}{ti:Mm}{i:TypeInfo}{d:TypeDesc}(fit:ti.Fit P T i d)(ho:o.op= .store T x y)(Na:x∈o.op.operands.toList)(Qh:y∈o.op.operands.toList){ar:AR}{q:Id}{sz i' off:Nat}{rows:List (List DC)}{hole:Option (Nat×Nat×Id)}{row:List DC}
  (hy:ev y= .r ar) (hx:ev x= .el q sz i' off) (hq:H q=some (.dar sz rows hole)) (M0:ar.cells.length=ti.size) (Nd:rows[i']?=some row) (hh:∀p,(p<i'*sz+off\/i'*sz+off+ti.size<=p)->cA sz hole p=none)
  (h:jS H ar.cells fun cs ids=>ia (q::ids)=true/\(match lay off cs row with
   | some row'=>K ⟨.unk,ids.map (fun r=>(r,none))++[(q,some (.dar sz (rows.set i' row') none))],none,q::ids⟩
   | none=>False)):∃e,K e/\Good P o ev H e:=by
 obtain⟨ds,ids,⟨Pm,h⟩,Qg⟩:=ru _ _ h;rw[nodupI_iff]at Pm;obtain⟨Wr,Pm⟩:=F2.1 Pm;split at h
 rotate_left
 ·exact h.elim
 rename_i row' Pd;refine⟨_,h,?_⟩;intro N B M w0 ρ s a w Q K hc M1 hR Nl hd hK;have Nb:s.H q=some (.dar sz rows hole):=by rw[hR q s_];exact hq
 obtain⟨hu,g⟩:=hc.dar Nb;have Pc:=(hc.eval x).1;rw[M1 x Na,hx]at Pc;obtain⟨b',n,c,e1,e2,e3⟩:=Pc;have R7:=hc.eval y;rw[M1 y Qh,hy]at R7;have Px:=RR.cells R7.1;obtain⟨Fn,f1,f2,f3,f4⟩:=Qg hc (fun o ho=>hR o aah) Pm _ Px;have Np:(a.eval y).cells.size=ti.size:=by rw[<-M0,<-Px.length];simp
 obtain⟨l1,l2⟩:=iK Pd;have N7:row.length=sz:=hu row (c9 Nd)
 have N6:i'<rows.length:=by
  rcases m5 i' rows.length with h'|h'
  ·exact h'
  ·rw[e9 h']at Nd;cases Nd
 rcases g with⟨g1,g2,_⟩|⟨b,cap,cur,e,fz,Fp,g1,g2,g3,g4,g5,g6,g7,g8,g9,g10⟩
 ·subst g2;simp at N6
 ·rw[g1]at e1;injection e1 with e1 VO e1'';injection e1 with e1;injection e1 with e1;subst e1;have aaR:(a.eval y).cells.toList.length=ti.size:=by simpa using Np
  have Th:(i'+1)*sz<=cap*sz:=l8 _ o_;have Us:(i'+1)*sz=i'*sz+sz:=by rw[p8];omega
  have M8:=my (w:=w) fit b (i'*sz+off) (a.eval y) Np g2 g3 o_ Px.one;obtain⟨Ns,c1,c2,c3⟩:=eG b e fz (a.eval y).cells.toList (i'*sz+off) w cur g2 (by simp[Np];omega);have PE:row'.length=sz:=by rw[l2];simp;omega
  have NW:=jX l1 l2 rows i' hu Nd;have Tl:=aR sz rows hu;have Vi:(i'+1)*sz<=rows.length*sz:=l8 _ N6;have aax:rows.length*sz<=cap*sz:=l8 _ g4;have YC:cur.toList.length=cap*sz:=by simpa using g6
  let Fq:Nat->Nat->Prop:=fun p c=>if p<i'*sz+off then Fp p c else if p<i'*sz+off+ds.length then Fn (p-(i'*sz+off)) c else Fp p c
  have hqo:Own ρ q b:= .inl aai
  have Fq_cases:∀p c,Fq p c->(Fp p c/\¬(i'*sz+off<=p/\p<i'*sz+off+ds.length))\/(Fn (p-(i'*sz+off)) c/\i'*sz+off<=p/\p<i'*sz+off+ds.length):=by
   intro p c Nt;simp only[Fq]at Nt;split at Nt
   ·exact .inl ⟨Nt,o_⟩
   ·split at Nt
    ·exact .inr ⟨Nt,o_,o_⟩
    ·exact .inl ⟨Nt,o_⟩
  have apart:∀p p' c,Fp p c->¬Fn p' c:=by intro p p' c h1 h2;obtain⟨⟨o,x1,k1,k2,k3⟩,_⟩:=f3 p' c h2;exact hc.sep o q x1 _ c k2 Nb (fun e=>Wr (e▸k1)) k3 (.inr (g7 p c h1).1)
  obtain⟨ρ',this⟩:=hc.upd Nb (x':= .dar sz (rows.set i' row') none) (b:=b) aai ids Wr (fun c=>∃p,Fn p c) (fun c Oy=>by obtain⟨p,hp⟩:=Oy;exact(f3 p c hp).1) (eH b _ (i'*sz+off) w) aaU (fun ρ' ok' hρ Ov hk PK Zc Yw=>by
   refine⟨fun r hr=>?_,.inr ⟨b,cap,Ns,e,fz,Fq,by rw[hρ,g1,q8],c1,by rw[c2];exact g3,by rw[q8];exact g4,g5,by rw[c2];exact g6,fun p c Nt=>?_,fun p p' c M9 h1 h2=>?_,?_,fun p v d hv hd=>?_⟩⟩
   ·rcases u7 hr with h'|h'
    ·exact hu r h'
    ·rw[h'];exact PE
   ·rcases Fq_cases p c Nt with⟨h1,_⟩|⟨h1,_⟩
    ·exact⟨Ov c (.inl (g7 p c h1).1),(g7 p c h1).2⟩
    ·exact⟨Ov c (.inr ⟨_,h1⟩),(Zc c ⟨_,h1⟩).2⟩
   ·rcases Fq_cases p c h1 with⟨h1,m1⟩|⟨h1,m1⟩<;>rcases Fq_cases p' c h2 with⟨h2,m2⟩|⟨h2,m2⟩
    ·exact g8 p p' c M9 h1 h2
    ·exact apart _ _ _ h1 h2
    ·exact apart _ _ _ h2 h1
    ·exact f4 _ _ c o_ h1 h2
   ·rw[q8,NW,c3];simp only[c8,j8,r7];rw[<-f1];omega
   ·simp only[cA];rw[NW,vR o_]at hd;rw[q8,n3,c3,vR o_,f1]at hv;split at hv
    rotate_left
    ·cases hv
    rename_i hp;by_cases q1:p<i'*sz+off
    ·rw[c7 q1]at hv hd;have:=g9.2 p v d (by rw[n3,c7 hp];exact hv) hd;rw[hh p (.inl q1)]at this;refine this.keep hk fun c M6=>⟨Yw c (g7 p c M6).1 (g7 p c M6).2,?_⟩;simp only[Fq,c7 q1];exact M6
    ·rw[b8 q1]at hv hd;by_cases q2:p<i'*sz+off+ds.length
     ·rw[c7 q2]at hv hd;refine(f2 _ v d hv hd).keep hk fun c M6=>⟨(Zc c ⟨_,M6⟩).1,?_⟩;simp only[Fq,b8 q1,c7 q2];exact M6
     ·rw[b8 q2]at hv hd;have:=g9.2 p v d (by rw[n3,c7 hp];exact hv) hd;rw[hh p (.inr o_)]at this;refine this.keep hk fun c M6=>⟨Yw c (g7 p c M6).1 (g7 p c M6).2,?_⟩
      simp only[Fq,b8 q1,b8 q2];exact M6) hd undef (q::ids)
  have NK:(execOp a.eval o).run P w= .ok .skip (w.setCells b (i'*sz+off) (a.eval y).cells.toList):=by simp only[execOp,ho,e3,m8,M8,j5,o9]
  unfold Oper.wp;rw[NK];exact hK _ _ ρ' this
theorem Bm {T:TypeId}{x y:Operand}{ti:Mm}(hΓ:Γ.chk P=true)(hT:Γ.get T=some ti)(ho:o.op= .store T x y)(h:uL ti (ev x) (ev y) H K):∃e,K e/\Good P o ev H e:=by
 obtain⟨i,d,fit⟩:=Env.fit hΓ hT;have Na:x∈o.op.operands.toList:=by simp[ho,Op.operands]
 have Qh:y∈o.op.operands.toList:=by simp[ho,Op.operands]
 unfold uL at h;split at h
 ·rename_i ar hy;split at h
  ·rename_i M0;have M0:ar.cells.length=ti.size:=(by simpa using M0);split at h
   ·rename_i q off hx;split at h
    ·rename_i cells hq;split at h
     ·rename_i PB Pd;refine⟨_,h,?_⟩;intro N B M w0 ρ s a w Q K hc M1 hR Nl hd hK;have Nb:s.H q=some (.box cells):=(by rw[hR q s_];exact hq);obtain⟨b,us,t,fz,g1,g2,g3,g4,g5⟩:=hc.box Nb;have Pc:=(hc.eval x).1;rw[M1 x Na,hx]at Pc;obtain⟨b',e1,e2⟩:=Pc;rw[g1]at e1;injection e1 with e1;injection e1 with e1;injection e1 with e1;subst e1;have R7:=hc.eval y;rw[M1 y Qh,hy]at R7;have Px:=RR.cells R7.1;have Np:(a.eval y).cells.size=ti.size:=(by rw[<-M0,<-Px.length];simp);obtain⟨l1,l2⟩:=iK Pd;have TE:us.size=cells.length:=(by have:=g4.length;simpa using this);have M8:=my (w:=w) fit b off (a.eval y) Np g2 g3 o_ Px.one;obtain⟨Ns,c1,c2,c3⟩:=eG b t fz (a.eval y).cells.toList off w us g2 (by simp[Np];omega)
      obtain⟨ρ',this⟩:=hc.upd Nb (x':= .box PB) (b:=b) aai [] s_ (fun _=>False) (fun _ h=>h.elim) (eH b _ off w) (Ko Pd (fun id M7=>R7.2 id (LB id M7)) (hc.usedH q _ Nb).2) (fun ρ' ok' hρ _ hk _ _ _=>by
       refine⟨b,Ns,t,fz,by rw[hρ];exact g1,c1,by rw[c2];exact g3,?_⟩;rw[c3,l2];have Xv:(a.eval y).cells.toList.length=ar.cells.length:=Px.length;rw[Xv]
       exact(((g4.take off).append Px).append (g4.drop _)).keep hk fun o _=>hρ o) hd undef [q]
      have NK:(execOp a.eval o).run P w= .ok .skip (w.setCells b off (a.eval y).cells.toList):=by simp only[execOp,ho,e2,m8,M8,j5,o9]
      unfold Oper.wp;rw[NK];exact hK _ _ ρ' this
     ·exact h.elim
    ·exact h.elim
   ·rename_i q Nn i' off hx;split at h
    ·rename_i fr sz rows hq;split at h
     rotate_left
     ·exact h.elim
     rename_i ts fr' ids Ps;obtain⟨rfl,Wr,row,Nd,h⟩:=h;split at h
     ·rename_i row' Pd;refine⟨_,h,?_⟩;intro N B M w0 ρ s a w Q K hc M1 hR Nl hd hK;have Nb:s.H q=some (.arr fr sz rows):=(by rw[hR q s_];exact hq);obtain⟨hu,g⟩:=hc.arr Nb;have Pc:=(hc.eval x).1;rw[M1 x Na,hx]at Pc;obtain⟨b',n,c,e1,e2,e3⟩:=Pc;have R7:=hc.eval y;rw[M1 y Qh,hy]at R7;have Px:=RR.cells R7.1
      have PX:∀ok':Nat->Prop,(∀c,okB ρ s.H w c->ok' c)->(∀o x c,o∈ids->s.H o=some x->Own ρ o c->ok' c)->RTs w (okF B ok' fr') (a.eval y).cells.toList ts:=
       fun ok' M5 hb=>lA hc M5 Ps (fun o ho=>hR o aah) Px hb
      have VY:ts.length=ti.size:=(by rw[<-(PX (fun _=>True) (fun _ _=>trivial) (fun _ _ _ _ _ _=>trivial)).length,Px.length,M0]);have Np:(a.eval y).cells.size=ti.size:=(by rw[<-M0,<-Px.length];simp);obtain⟨l1,l2⟩:=iK Pd;have N7:row.length=sz:=hu row (c9 Nd)
      have N6:i'<rows.length:=by
       rcases m5 i' rows.length with h'|h'
       ·exact h'
       ·rw[e9 h']at Nd;cases Nd
      rcases g with⟨g1,g2⟩|⟨b,cap,cur,e,fz,g1,g2,g3,g4,g5,g6,g7,g8,g9⟩
      ·subst g2;simp at N6
      ·rw[g1]at e1;injection e1 with e1 VO e1'';injection e1 with e1;injection e1 with e1;subst e1;have Th:(i'+1)*sz<=cap*sz:=l8 _ o_;have Us:(i'+1)*sz=i'*sz+sz:=(by rw[p8];omega);have M8:=my (w:=w) fit b (i'*sz+off) (a.eval y) Np g2 g3 o_ Px.one;obtain⟨Ns,c1,c2,c3⟩:=eG b e fz (a.eval y).cells.toList (i'*sz+off) w cur g2 (by simp[Np];omega);have PE:row'.length=sz:=(by rw[l2];simp;omega);have Sp:(a.eval y).cells.toList.length=ts.length:=(PX (fun _=>True) (fun _ _=>trivial) (fun _ _ _ _ _ _=>trivial)).length
       have NW:(rows.set i' row').flatten=rows.flatten.take (i'*sz+off)++ts++rows.flatten.drop (i'*sz+off+ts.length):=by exact jX l1 l2 rows i' hu Nd
       have Tl:=aR sz rows hu;have Vi:(i'+1)*sz<=rows.length*sz:=l8 _ N6
       obtain⟨ρ',this⟩:=hc.upd Nb (x':= .arr (fr&&fr') sz (rows.set i' row')) (b:=b) aai ids Wr (fun _=>False) (fun _ h=>h.elim) (eH b _ (i'*sz+off) w) aaU (fun ρ' ok' hρ _ hk Xx _ _=>by
        have PK:=fun o x c h1 h2 h3=>Xx o x c h1 h2 h3 (fun h=>h);refine⟨fun r hr=>?_,.inr ⟨b,cap,Ns,e,fz,by rw[hρ,g1,q8],c1,by rw[c2];exact g3,by rw[q8];exact g4,g5,by rw[c2];exact g6,?_,fun e=>g9 (by simp at e;exact e.1)⟩⟩
        ·rcases u7 hr with h'|h'
         ·exact hu r h'
         ·rw[h'];exact PE
        ·rw[q8,NW,c3,Sp]
         have e1:(cur.toList.take (i'*sz+off)++(a.eval y).cells.toList++cur.toList.drop (i'*sz+off+ts.length)).take (rows.length*sz)=
           (cur.toList.take (rows.length*sz)).take (i'*sz+off)++(a.eval y).cells.toList++(cur.toList.take (rows.length*sz)).drop (i'*sz+off+ts.length):=by
          rw[H3,y8 o_]
          have RF:(cur.toList.take (i'*sz+off)++(a.eval y).cells.toList).length=i'*sz+off+ts.length:=by rw[c8,Sp,j8];simp;omega
          rw[I4,i7 (by rw[RF];omega),RF];congr 1;rw[G9]
         rw[e1]
         have QT:∀c,okB ρ s.H w c\/(∃o x,o∈ids/\s.H o=some x/\Own ρ o c)->(w.setCells b (i'*sz+off) (a.eval y).cells.toList).heap[c]?=w.heap[c]?/\ok' c:=by
          rintro c (M6|⟨o,x,k1,k2,k3⟩)
          ·exact hk c M6
          ·exact PK o x c k1 k2 k3
         have Zu:=(PX (fun c=>okB ρ s.H w c\/(∃o x,o∈ids/\s.H o=some x/\Own ρ o c)) (fun c h=> .inl h) (fun o x c k1 k2 k3=> .inr ⟨o,x,k1,k2,k3⟩)).keep (iS (B:=B) QT);have ht2:=Zu.keep (gq (B:=B) (ok:=ok') (w:=w.setCells b (i'*sz+off) (a.eval y).cells.toList) (fr':=fr&&fr') fun e=>by simp at e;exact e.2);have Yd:=(g7.keep (iS (B:=B) hk)).keep (gq (B:=B) (ok:=ok') (w:=w.setCells b (i'*sz+off) (a.eval y).cells.toList) (fr':=fr&&fr') fun e=>by simp at e;exact e.1)
         exact((Yd.take _).append ht2).append (Yd.drop _)) hd undef (q::ids)
       have NK:(execOp a.eval o).run P w= .ok .skip (w.setCells b (i'*sz+off) (a.eval y).cells.toList):=by simp only[execOp,ho,e3,m8,M8,j5,o9]
       unfold Oper.wp;rw[NK];exact hK _ _ ρ' this
     ·exact h.elim
    ·rename_i sz rows hq;obtain⟨rfl,row,Nd,h⟩:=h;exact yJ fit ho Na Qh hy hx hq M0 Nd (fun _ _=>rfl) h
    ·rename_i sz rows i2 off2 n2 hq;obtain⟨rfl,rfl,rfl,h1,row,Nd,h⟩:=h;refine yJ fit ho Na Qh hy hx hq M0 Nd (fun p hp=>?_) h;simp only[cA];rw[b8 o_]
    ·exact h.elim
   ·exact h.elim
  ·exact h.elim
 ·exact h.elim
end
section
variable {P:Program} {Γ:Env} {N B:Nat} {M:Nat->Prop} {w0:Start} {ρ:Rho} {s:F_} {a:Act} {w:World} {o:Oper} {ev:Operand->AV} {H:Id->Option AO} {K:Eff->Prop} {KV:AV->Prop}
theorem nq:∀(us Tt:List (Id×Option AO)) (H:Id->Option AO),bW H (us++Tt)=bW (bW H us) Tt
 | [],_,_=>rfl
 | p::us,Tt,H=>by rw[u3,bW,nq us Tt];rfl
theorem Conc.ghost (h:Conc N B M w0 ρ s a w)(keys:List Id){ρ':Rho}{H':Id->Option AO}(hρ:∀o,ρ' o=ρ o)(Ov:∀o x,o∉keys->s.H o=some x->ρ'.fp o=ρ.fp o)(NA:ρ'.al=ρ.al)(hH:∀o,o∉keys->H' o=s.H o)
  (Nl:∀o x b,o∈keys->H' o=some x->Own ρ' o b->∃o' x',s.H o'=some x'/\o'∈keys/\Own ρ o' b)
  (Rc:∀o o' x x' b,o∈keys->o'∈keys->H' o=some x->H' o'=some x'->o≠o'->Own ρ' o b->¬Own ρ' o' b)
  (Nz:∀(_:∀b,okB ρ s.H w b->okB ρ' H' w b),∀o x,o∈keys->H' o=some x->RO B ρ' w (okB ρ' H' w) o x/\s.U o.1/\∀o'∈x.ids,s.U o'.1):Conc N B M w0 ρ' ⟨s.L,H',s.U⟩ a w:=by
 have:=h.step (fun _=>False) keys (w':=w) (ρ':=ρ') (H':=H') (U':=s.U) (a':=a) (L':=s.L) (Turn.refl _ _) h.size h.defers (fun o _=>hρ o) Ov NA hH (fun _ h=>h) (fun _ _ h=>h) (fun _ _ _ _ _ _ h=>h) (fun _ _ _ h=>h)
  (fun o x b h1 h2 h3=>by
   obtain⟨o',x',g1,g2,g3⟩:=Nl o x b h1 h2 h3;have:=h.rng o' x' b g1 g3
   exact⟨this.1,this.2,.inr ⟨o',x',g1,g2,g3⟩⟩) Rc (fun hk=>Nz fun b hb=>(hk b hb).2) (fun _ t=> .inl ⟨rfl,rfl⟩)
 exact this
theorem Conc.close (h:Conc N B M w0 ρ s a w){q n:Id}(PV:n≠q){sz:Nat}{rows:List (List DC)}{i off:Nat}(hq:s.H q=some (.dar sz rows (some (i,off,n)))){y:AO}(hy:s.H n=some y){t:Nat}{rs:List (List Tr)}
  (Tj:DT w (Own ρ n) (ρ n) (.lst t rs)) {row:List DC} (hr:rows[i]?=some row) (ho:off<sz):
  ∃ρ',Conc N B M w0 ρ' ⟨s.L,bW s.H [(n,none),(q,some (.dar sz (rows.set i (row.set off (.d (.lst t rs)))) none))],s.U⟩ a w:=by
 obtain⟨hu,g⟩:=h.dar hq
 have hi:i<rows.length:=by exact V118
 rcases g with⟨_,g,_⟩|⟨b,cap,cur,e,fz,Fp,g1,g2,g3,g4,g5,g6,g7,g8,g9,g10⟩
 ·subst g;simp at hr
 let ρ':Rho:=⟨ρ.val,fun o c=>ρ.fp o c\/(o=q/\Own ρ n c),ρ.al⟩
 have Nj:∀o c,Own ρ' o c↔(Own ρ o c\/(o=q/\Own ρ n c)):=fun o c=>by
  show(blk (ρ o)=some c\/(ρ.fp o c\/(o=q/\Own ρ n c)))↔(Own ρ o c\/(o=q/\Own ρ n c));rw[<-or_assoc];rfl
 have PD:∀o,bW s.H [(n,none),(q,some (.dar sz (rows.set i (row.set off (.d (.lst t rs)))) none))] o=if o=q then some (.dar sz (rows.set i (row.set off (.d (.lst t rs)))) none)else if o=n then none else s.H o:=by intro o;simp only[bW]
 refine⟨ρ',?_⟩;refine h.ghost [q,n] (ρ':=ρ') (fun _=>rfl) (fun o x h1 _=>?_) rfl (fun o h1=>?_) (fun o x c h1 h2 h3=>?_) (fun o o' x x' c h1 h2 h3 h4 M9=>?_) (fun hk o x h1 h2=>?_)
 ·simp only[d7,l9,or_false,not_or]at h1;funext c;exact propext ⟨fun hc=>hc.elim id fun hc=>absurd hc.1 h1.1,.inl⟩
 ·simp only[d7,l9,or_false,not_or]at h1;rw[PD,b8 h1.1,b8 h1.2]
 ·simp only[d7,l9,or_false]at h1;rw[PD]at h2;rcases h1 with rfl|rfl
  ·rw[Nj]at h3;rcases h3 with h3|⟨_,h3⟩
   ·exact⟨o,_,hq,s_,h3⟩
   ·exact⟨n,_,hy,s_,h3⟩
  ·rw[b8 PV,c7 rfl]at h2;cases h2
 ·exfalso;rw[PD]at h3 h4;simp only[d7,l9,or_false]at h1 h2;rcases h1 with rfl|rfl
  ·rcases h2 with rfl|rfl
   ·exact M9 rfl
   ·rw[b8 PV,c7 rfl]at h4;cases h4
  ·rw[b8 PV,c7 rfl]at h3;cases h3
 ·rw[PD]at h2;simp only[d7,l9,or_false]at h1;rcases h1 with rfl|rfl
  ·rw[c7 rfl]at h2;injection h2 with h2;subst h2;have Nd:=hu row (c9 hr);have Nh:=sJ sz rows i off row (.d (.lst t rs)) hu hr ho;refine⟨⟨fun r Qc=>?_,.inr ⟨b,cap,cur,e,fz,fun p c=>(p≠i*sz+off/\Fp p c)\/(p=i*sz+off/\Own ρ n c),by rw[q8];exact g1,g2,g3,by rw[q8];exact g4,g5,g6,fun p c hc=>?_,fun p p' c M9 h1 h2=>?_,?_,fun p v d hv hd=>?_⟩⟩,(h.usedH o _ hq).1,by simp[AO.ids]⟩
   ·rcases u7 Qc with h'|h'
    ·exact hu r h'
    ·rw[h',q8];exact Nd
   ·rcases hc with⟨_,hc⟩|⟨_,hc⟩
    ·exact⟨.inl (g7 p c hc).1,(g7 p c hc).2⟩
    ·refine⟨.inr ⟨rfl,hc⟩,fun e=>?_⟩;subst e;exact h.sep n o y _ c hy hq PV hc (.inl aai)
   ·rcases h1 with⟨m1,h1⟩|⟨m1,h1⟩<;>rcases h2 with⟨m2,h2⟩|⟨m2,h2⟩
    ·exact g8 p p' c M9 h1 h2
    ·exact h.sep n o y _ c hy hq PV h2 (.inr (g7 p c h1).1)
    ·exact h.sep n o y _ c hy hq PV h1 (.inr (g7 p' c h2).1)
    ·omega
   ·rw[q8,Nh,q8];exact g9.1
   ·simp only[cA];rw[Nh]at hd;rw[q8]at hv;by_cases hp:p=i*sz+off
    ·subst hp
     rw[x7 (by
      rw[<-g9.1];have:=y0.1 hv
      exact this.1)]at hd
     injection hd with hd;subst hd
     have M3:i*sz+off<rows.flatten.length:=by rw[<-g9.1];exact(y0.1 hv).1
     have:=g9.2 _ v _ hv (i8 M3);simp only[cA,if_true]at this;rw[this.1];exact Tj.keep fun c hc=>⟨rfl,.inr ⟨rfl,hc⟩⟩
    ·rw[C8 (fun e=>hp e.symm)]at hd;have:=g9.2 p v d hv hd;simp only[cA,b8 hp]at this;exact RD.keep this (fun b' Nf=>⟨rfl,hk b' Nf⟩) fun c hc=>⟨rfl,.inl ⟨hp,hc⟩⟩
  ·rw[b8 PV,c7 rfl]at h2;cases h2
theorem pB {x:AV}{K:(Id->Option AO)->List (Id×Option AO)->List Id->Prop}(hx:qq H x K):∃H' us R,K H' us R/\∀{N B:Nat} {M:Nat->Prop} {w0:Start} {ρ:Rho} {s:F_} {a:Act} {w:World},Conc N B M w0 ρ s a w->
  (∀id∈R,s.H id=H id)->(∃ρ',Conc N B M w0 ρ' ⟨s.L,bW s.H us,s.U⟩ a w)/\∀id,s.H id=H id->bW s.H us id=H' id:=by
 have same:∀{K:(Id->Option AO)->List (Id×Option AO)->List Id->Prop},K H [] []->∃H' us R,K H' us R/\∀{N B:Nat} {M:Nat->Prop} {w0:Start} {ρ:Rho} {s:F_} {a:Act} {w:World},Conc N B M w0 ρ s a w->
   (∀id∈R,s.H id=H id)->(∃ρ',Conc N B M w0 ρ' ⟨s.L,bW s.H us,s.U⟩ a w)/\∀id,s.H id=H id->bW s.H us id=H' id:=
  fun h=>⟨H,[],[],h,fun hc _=>⟨⟨_,hc⟩,fun id M7=>M7⟩⟩
 have agree:∀{s:F_} {q n:Id} {d:AO} (id:Id),s.H id=H id->bW s.H [(n,none),(q,some d)] id=DJ (DJ H n none) q (some d) id:=by
  intro s q n d id M7
  have he:∀x y:Id,(bif fw x y then true else false)=decide (x=y):=fun x y=>by
   cases hb:fw x y with
   | true=>rw[idEq_iff]at hb;simp[hb]
   | false=>symm;simp only[cond_false,p9];intro e;rw[idEq_iff.2 e]at hb;cases hb
  have hb:∀(x y:Id) (A B:Option AO),(bif fw x y then A else B)=if x=y then A else B:=fun x y A B=>by
   have:=he x y
   cases hb:fw x y with
   | true=>
        rw[hb]at this;have h2:x=y:=by simpa using this
        simp[h2]
   | false=>
         rw[hb]at this;have h2:¬x=y:=by simpa using this
         simp[h2]
  simp only[bW,DJ,hb];by_cases e1:id=q
  ·simp[e1]
  ·have VO:¬q=id:=fun e=>e1 e.symm;by_cases e2:id=n
   ·subst e2;simp[e1,VO]
   ·have e2':¬n=id:=fun e=>e2 e.symm;simp[e1,VO,e2,e2',M7]
 unfold qq at hx;split at hx
 ·rename_i q Nn i' RM;split at hx
  ·rename_i sz rows i off n hq;split at hx
   ·rename_i fr t rs hn hy;obtain⟨Nh,row,hr,ho,hK⟩:=hx;have PV:n≠q:=fun e=>by rw[idEq_iff.2 e]at hn;cases hn
    refine⟨_,_,_,hK,fun hc hR=>⟨?_,agree⟩⟩;have Nb:=(hR q s_).trans hq;have Pl:=(hR n s_).trans hy;exact hc.close PV Nb Pl (Db hc Pl Nh) hr ho
   ·rename_i t rs hn hy;obtain⟨VI,rfl,row,hr,ho,hK⟩:=hx;have PV:n≠q:=fun e=>by rw[idEq_iff.2 e]at hn;cases hn
    refine⟨_,_,_,hK,fun hc hR=>⟨?_,agree⟩⟩;have Nb:=(hR q s_).trans hq;have Pl:=(hR n s_).trans hy;exact hc.close PV Nb Pl (HR hc Pl) hr ho
   ·exact same hx
   ·exact hx.elim
  ·exact same hx
 ·exact same hx
theorem vY {H':Id->Option AO}{us:List (Id×Option AO)}{R:List Id}{e:Eff}(Np:∀{N B:Nat} {M:Nat->Prop} {w0:Start} {ρ:Rho} {s:F_} {a:Act} {w:World},Conc N B M w0 ρ s a w->
  (∀id∈R,s.H id=H id)->(∃ρ',Conc N B M w0 ρ' ⟨s.L,bW s.H us,s.U⟩ a w)/\∀id,s.H id=H id->bW s.H us id=H' id) (hg:Good P o ev H' e):Good P o ev H ⟨e.v,us++e.us,e.new,R++e.R⟩:=by
 intro N B M w0 ρ s a w Q K hc M1 hR hn hd hK;obtain⟨⟨ρ1,h1⟩,h2⟩:=Np hc fun id M7=>hR id (by simp[M7]);refine hg N B M w0 ρ1 ⟨s.L,bW s.H us,s.U⟩ a w Q K h1 M1 (fun id M7=>h2 id (hR id (by simp[M7]))) hn hd fun v w' ρ' h'=>hK v w' ρ' ?_;refine h'.congr (fun _=>rfl) (fun o=>?_) fun _=>Iff.rfl;simp only[F_.app,nq]
end
section
variable {P:Program} {Γ:Env} {N B:Nat} {M:Nat->Prop} {w0:Start} {ρ ρ':Rho} {s:F_} {a:Act} {w w':World} {o:Oper} {ev:Operand->AV} {H:Id->Option AO} {K:Eff->Prop} {KV:AV->Prop}
theorem Be {α β:Type}(f:α->β)(l:List (List α)):(l.map (·.map f)).flatten=l.flatten.map f:=(I2 ..).symm
theorem HW (hc:Conc N B M w0 ρ s a w){ok':Nat->Prop}(hk:∀b,okB ρ s.H w b->ok' b){q:Id}(Nb:∀x b,s.H q=some x->Own ρ q b->ok' b){fr:Bool}{sz:Nat}{rows:List (List Tr)}(hq:s.H q=some (.arr fr sz rows)):RT w ok' (ρ q) (.lst sz rows):=by
 obtain⟨hu,g⟩:=hc.arr hq;rcases g with⟨g1,g2⟩|⟨b,cap,cur,e,fz,g1,g2,g3,g4,g5,g6,g7,g8,g9⟩
 ·subst g2;rw[g1];exact .emp _ _ _ (w6 _)
 ·have hb:=Nb _ b hq (.inl aai);rw[g1];exact .lst _ _ _ _ _ _ rfl g4 g5 hu hb (by rw[g7.length]) g8 fun p v u hv NE=>(g7.get p v u hv NE).keep fun c M6=>⟨rfl,hk c M6.1⟩
theorem Iw (hc:Conc N B M w0 ρ s a w){ok':Nat->Prop}(hk:∀b,okB ρ s.H w b->ok' b){q:Id}(Nb:∀x b,s.H q=some x->Own ρ q b->ok' b){sz:Nat}{rows:List (List DC)}(hq:s.H q=some (.dar sz rows none)):RT w ok' (ρ q) (.lst sz (rows.map (·.map DC.tr))):=by
 obtain⟨hu,g⟩:=hc.dar hq;rcases g with⟨g1,g2,_⟩|⟨b,cap,cur,e,fz,Fp,g1,g2,g3,g4,g5,g6,g7,g8,g9,g10⟩
 ·subst g2;rw[g1];exact .emp _ _ _ (w6 _)
 ·have hb:=Nb _ b hq (.inl aai);rw[g1];refine .lst _ _ _ _ _ _ s_ g4 g5 (fun r hr=>?_) hb (by rw[g9.1,Be,e7]) g10 fun p v u hv NE=>?_
  ·obtain⟨r',h1,rfl⟩:=n9.1 hr;rw[e7];exact hu r' h1
  ·rw[Be,p6]at NE
   cases hd:rows.flatten[p]? with
   | none=>rw[hd]at NE;cases NE
   | some d=>
    rw[hd]at NE;injection NE with NE;subst NE;have:=g9.2 p v d hv hd;simp only[cA]at this
    cases d with
    | t x=>exact RT.keep this fun c M6=>⟨rfl,hk c M6⟩
    | d x=>exact DT.toRT this fun c M6=>Nb _ c hq (.inr (g7 p c M6).1)
theorem jI (hc:Conc N B M w0 ρ s a w){ok':Nat->Prop}(hk:∀b,okB ρ s.H w b->ok' b){v:Value}{c:AC}{t:Tr}(Nb:∀q∈c.ids,∀x b,s.H q=some x->Own ρ q b->ok' b)(hv:RC B ρ w (okB ρ s.H w) v c)(h:eJ s.H c t):RT w ok' v t:=by
 cases c with
 | t x=>cases h;exact RT.keep hv fun b hb=>⟨rfl,hk b hb⟩
 | f x=>cases h;exact RT.keep hv fun b hb=>⟨rfl,hk b hb.1⟩
 | nils n=>
  obtain⟨sz,rfl⟩:=h;have:v= .slice none 0 0:=hv;rw[this]
  exact .emp _ _ _ (w6 _)
 | nilp=>exact h.elim
 | opq=>exact h.elim
 | mpv=>exact h.elim
 | own q=>
  have SZ:=Nb q aam;simp only[eJ]at h;obtain⟨_,e⟩:=hv;rw[e];split at h
  ·rename_i fr sz rows hq;subst h;exact HW hc hk SZ hq
  ·rename_i sz rows hq;subst h;exact Iw hc hk SZ hq
  ·exact h.elim
 | sub q k=>
  have SZ:=Nb q aam;simp only[eJ]at h;obtain⟨A,n,c,e0,e1,e2⟩:=hv;rw[e1]
  have fin:∀(sz:Nat) (rows:List (List Tr)),RT w ok' (.slice A n c) (.lst sz rows)->n=rows.length->RT w ok' (.slice A k c) (.lst sz (rows.take k)):=by
   intro sz rows hf hn;have:=hf.cut 0 k (w6 _) o_;simp only[Nat.zero_mul,Option.map_id',fW,y7,C2]at this;by_cases h0:c=0
   ·rw[c7 h0]at this;exact this
   ·rw[b8 h0]at this;exact this
  split at h
  ·rename_i fr sz rows hq;subst h;have:=HW hc hk SZ hq;rw[e0]at this;obtain⟨_,_,hs,_⟩:=this.slice_inv;injection hs with _ hs _;exact fin _ _ this hs
  ·rename_i sz rows hq;subst h;have:=Iw hc hk SZ hq;rw[e0]at this;obtain⟨_,_,hs,_⟩:=this.slice_inv;injection hs with _ hs _;rw[x8];exact fin _ _ this hs
  ·exact h.elim
 | ptr q off=>exact h.elim
theorem yE (hc:Conc N B M w0 ρ s a w){v:Value}{c:AC}{t:Tr}(hv:RC B ρ w (okB ρ s.H w) v c)(h:eJ s.H c t):RT w (fun b=>b<w.heap.size) v t:=
 jI hc (fun b hb=>hb.1.1) (fun q _ x b hq hb=>(hc.rng q x b hq hb).1) hv h
theorem vA (hc:Conc N B M w0 ρ s a w):∀{vs:List Value} {cs:List AC} {ts:List Tr},RCs B ρ w (okB ρ s.H w) vs cs->qE s.H cs ts->RTs w (fun b=>b<w.heap.size) vs ts
 | [],[],[],_,_=>trivial
 | _::_,_::_,_::_,h,h'=>⟨yE hc h.1 h'.1,vA hc h.2 h'.2⟩
 | [],_::_,_,h,_=>h.elim
 | _::_,[],_,h,_=>h.elim
 | [],[],_::_,_,h=>h.elim
 | _::_,_::_,[],_,h=>h.elim
theorem DX (hc:Conc N B M w0 ρ s a w){v:Value}{x:AV}{t:TV}(hv:RV B ρ w (okB ρ s.H w) v x)(h:uA s.H x t):RTV w (fun b=>b<w.heap.size) v t:=by
 cases x with
 | r ar=>
  cases ar with
  | c c=>cases t with|c t=>exact yE hc hv h|agg=>exact h.elim
  | agg cs=>cases t with|c t=>exact h.elim|agg ts=>obtain⟨us,rfl,hr⟩:=hv;exact⟨us,rfl,vA hc hr h⟩
 | tup=>exact h.elim
 | el=>exact h.elim
 | ro=>exact h.elim
 | unk=>exact h.elim
theorem lq {H H':Id->Option AO}{c:AC}{t:Tr}(hH:∀o∈c.ids,H' o=H o)(h:eJ H c t):eJ H' c t:=by cases c<;>simp only[eJ]at h⊢<;> first|exact h|(rw[hH _ aam];exact h)
theorem oD {H H':Id->Option AO}:∀{cs:List AC} {ts:List Tr},(∀o∈cs.flatMap AC.ids,H' o=H o)->qE H cs ts->qE H' cs ts
 | [],[],_,_=>trivial
 | c::cs,t::ts,hH,h=>⟨lq (fun o ho=>hH o aah) h.1,oD (fun o ho=>hH o aaE) h.2⟩
 | [],_::_,_,h=>h.elim
 | _::_,[],_,h=>h.elim
theorem xt {H H':Id->Option AO}{x:AV}{t:TV}(hH:∀o∈x.ids,H' o=H o)(h:uA H x t):uA H' x t:=by
 cases x with
 | r ar=>
  cases ar with
  | c c=>cases t with
   | c t=>exact lq hH h
   | agg=>exact h.elim
  | agg cs=>cases t with
   | c t=>exact h.elim
   | agg ts=>exact oD hH h
 | tup=>exact h.elim
 | el=>exact h.elim
 | ro=>exact h.elim
 | unk=>exact h.elim
theorem zy (hc:Conc N B M w0 ρ s a w):∀(xs:List Operand) (ts:List TV),(∀x∈xs,evL s.L x=ev x)->(∀o∈(xs.map ev).flatMap AV.ids,s.H o=H o)->eC H (xs.map ev) ts->RTVs w (fun b=>b<w.heap.size) (xs.map a.eval) ts
 | [],[],_,_,_=>trivial
 | x::xs,t::ts,hx,hH,h=>by
  refine⟨DX hc (x:=ev x) ?_ (xt (fun o ho=>hH o aah) h.1),zy hc xs ts (fun y hy=>hx y aaS) (fun o ho=>hH o (by simp only[p7,u9,f0];exact .inr ho)) h.2⟩;have:=(hc.eval x).1
  rwa [hx x s_]at this
 | [],_::_,_,_,h=>h.elim
 | _::_,[],_,_,h=>h.elim
theorem Js {d i j:Nat}{cs:List RC'}{o:Id}{x:AO}(h:(o,x)∈RC'.oss d i j cs):o.1=d/\((0,o.2),x)∈RC'.oss 0 i j cs:=by
 induction cs generalizing j with
 | nil=>simp[RC'.oss]at h
 | cons c cs ih=>
  simp only[RC'.oss,f0]at h⊢;rcases h with h|h
  ·cases c with|t x=>simp[RC'.os]at h|arr sz rows=>simp only[RC'.os,t8,Prod.mk.injEq]at h;obtain⟨rfl,rfl⟩:=h;exact⟨rfl,.inl (by simp[RC'.os])⟩
  ·exact⟨(ih h).1,.inr (ih h).2⟩
theorem zX {d i:Nat}{x:RR'}{o:Id}{y:AO}(h:(o,y)∈x.os d i):o.1=d/\((0,o.2),y)∈x.os 0 i:=by
 cases x with
 | c c=>cases c with
  | t x=>simp[RR'.os,RC'.os]at h
  | arr sz rows=>simp only[RR'.os,RC'.os,t8,Prod.mk.injEq]at h;obtain⟨rfl,rfl⟩:=h;exact⟨rfl,by simp[RR'.os,RC'.os]⟩
 | agg cs=>exact Js h
theorem I_ {d i:Nat}{xs:List RR'}{o:Id}{y:AO}(h:(o,y)∈RR'.oss d i xs):o.1=d/\((0,o.2),y)∈RR'.oss 0 i xs:=by
 induction xs generalizing i with
 | nil=>simp[RR'.oss]at h
 | cons x xs ih=>
  simp only[RR'.oss,f0]at h⊢;rcases h with h|h
  ·exact⟨(zX h).1,.inl (zX h).2⟩
  ·exact⟨(ih h).1,.inr (ih h).2⟩
theorem pR {d:Nat}{r:Res}{o:Id}{y:AO}(h:(o,y)∈r.os d):o.1=d/\((0,o.2),y)∈r.os 0:=by cases r with|r x=>exact zX h|tup xs=>exact I_ h
theorem Ft {B' d i j:Nat}{c:RC'}{v:Value}{ok ok':Nat->Prop}(hρ:∀q:Nat×Nat,ρ' (d,q)=ρ (0,q))(hk:∀b,ok b->ok' b)(h:RC B' ρ w ok v (c.ac 0 i j)):RC B ρ' w ok' v (c.ac d i j):=by
 cases c with
 | t x=>exact RT.keep h fun b hb=>⟨rfl,hk b hb⟩
 | arr sz rows=>obtain⟨⟨A,n,c,e⟩,e1⟩:=h;exact⟨⟨A,n,c,(hρ (i,j)).trans e⟩,e1.trans (hρ (i,j)).symm⟩
theorem Cf {B' d i:Nat}{ok ok':Nat->Prop}(hρ:∀q:Nat×Nat,ρ' (d,q)=ρ (0,q))(hk:∀b,ok b->ok' b):∀{cs:List RC'} {j:Nat} {vs:List Value},RCs B' ρ w ok vs (RC'.acs 0 i j cs)->RCs B ρ' w ok' vs (RC'.acs d i j cs)
 | [],_,[],_=>trivial
 | _::_,_,_::_,h=>⟨Ft hρ hk h.1,Cf hρ hk h.2⟩
 | [],_,_::_,h=>h.elim
 | _::_,_,[],h=>h.elim
theorem Fw {B' d i:Nat}{x:RR'}{v:Value}{ok ok':Nat->Prop}(hρ:∀q:Nat×Nat,ρ' (d,q)=ρ (0,q))(hk:∀b,ok b->ok' b)(h:RR B' ρ w ok v (x.ar 0 i)):RR B ρ' w ok' v (x.ar d i):=by cases x with|c c=>exact Ft hρ hk h|agg cs=>obtain⟨us,e,h⟩:=h;exact⟨us,e,Cf hρ hk h⟩
theorem Ap {B' d:Nat}{ok ok':Nat->Prop}(hρ:∀q:Nat×Nat,ρ' (d,q)=ρ (0,q))(hk:∀b,ok b->ok' b):∀{xs:List RR'} {i:Nat} {vs:List Value},RRs B' ρ w ok vs (RR'.ars 0 i xs)->RRs B ρ' w ok' vs (RR'.ars d i xs)
 | [],_,[],_=>trivial
 | _::_,_,_::_,h=>⟨Fw hρ hk h.1,Ap hρ hk h.2⟩
 | [],_,_::_,h=>h.elim
 | _::_,_,[],h=>h.elim
theorem Jp {B' d:Nat}{r:Res}{v:Value}{ok ok':Nat->Prop}(hρ:∀q:Nat×Nat,ρ' (d,q)=ρ (0,q))(hk:∀b,ok b->ok' b)(h:RV B' ρ w ok v (r.av 0)):RV B ρ' w ok' v (r.av d):=by cases r with|r x=>exact Fw hρ hk h|tup xs=>obtain⟨us,e,h⟩:=h;exact⟨us,e,Ap hρ hk h⟩
theorem IC (d i j:Nat)(c:RC'):∀id∈(c.ac d i j).ids,id.1=d:=by cases c with|t x=>simp[RC'.ac,AC.ids]|arr sz rows=>intro id M7;simp[RC'.ac,AC.ids]at M7;rw[M7]
theorem ED (d i:Nat):∀(cs:List RC') (j:Nat),∀id∈(RC'.acs d i j cs).flatMap AC.ids,id.1=d
 | [],_,id,M7=>by simp[RC'.acs]at M7
 | c::cs,j,id,M7=>by
  simp only[RC'.acs,u9,f0]at M7;rcases M7 with M7|M7
  ·exact IC d i j c id M7
  ·exact ED d i cs (j+1) id M7
theorem EH (d i:Nat)(x:RR'):∀id∈(x.ar d i).ids,id.1=d:=by cases x with|c c=>exact IC d i 0 c|agg cs=>exact ED d i cs 0
theorem EW (d:Nat):∀(xs:List RR') (i:Nat),∀id∈(RR'.ars d i xs).flatMap AR.ids,id.1=d
 | [],_,id,M7=>by simp[RR'.ars]at M7
 | c::cs,i,id,M7=>by
  simp only[RR'.ars,u9,f0]at M7;rcases M7 with M7|M7
  ·exact EH d i c id M7
  ·exact EW d cs (i+1) id M7
theorem av_ids (d:Nat)(r:Res):∀id∈(r.av d).ids,id.1=d:=by cases r with|r x=>exact EH d 0 x|tup xs=>exact EW d xs 0
theorem JE {d i:Nat}{cs:List RC'}{j:Nat}{o:Id}{x:AO}(h:(o,x)∈RC'.oss d i j cs):∃sz rows,x= .arr true sz rows:=by
 induction cs generalizing j with
 | nil=>simp[RC'.oss]at h
 | cons c cs ih=>
  simp only[RC'.oss,f0]at h;rcases h with h|h
  ·cases c with|t x=>simp[RC'.os]at h|arr sz rows=>simp only[RC'.os,t8,Prod.mk.injEq]at h;exact⟨sz,rows,h.2⟩
  ·exact ih h
theorem Fg {d i:Nat}{y:RR'}{o:Id}{x:AO}(h:(o,x)∈y.os d i):∃sz rows,x= .arr true sz rows:=by
 cases y with
 | c c=>cases c with
  | t x=>simp[RR'.os,RC'.os]at h
  | arr sz rows=>simp only[RR'.os,RC'.os,t8,Prod.mk.injEq]at h;exact⟨sz,rows,h.2⟩
 | agg cs=>exact JE h
theorem Jd {d i:Nat}{xs:List RR'}{o:Id}{x:AO}(h:(o,x)∈RR'.oss d i xs):∃sz rows,x= .arr true sz rows:=by
 induction xs generalizing i with
 | nil=>simp[RR'.oss]at h
 | cons y xs ih=>
  simp only[RR'.oss,f0]at h;rcases h with h|h
  ·exact Fg h
  ·exact ih h
theorem zn {d:Nat}{r:Res}{o:Id}{x:AO}(h:(o,x)∈r.os d):∃sz rows,x= .arr true sz rows:=by cases r with|r x=>exact Fg h|tup xs=>exact Jd h
theorem rH:∀(us:List (Id×AO)) (H:Id->Option AO) (o:Id) (x:AO),bW H (us.map fun p=>(p.1,some p.2)) o=some x->(o,x)∈us\/(o∉us.map (·.1)/\H o=some x)
 | [],H,o,x,h=> .inr ⟨s_,h⟩
 | p::us,H,o,x,h=>by
  simp only[p7,bW]at h;rcases rH us _ o x h with h'|⟨h1,h2⟩
  ·exact .inl (by simp[h'])
  ·by_cases e:o=p.1
   ·rw[c7 e]at h2;injection h2 with h2;left;rw[e,<-h2];simp
   ·rw[b8 e]at h2;exact .inr ⟨by simp only[p7,d7,e,false_or];exact h1,h2⟩
theorem Conc.result (h:Conc N B M w0 ρ s a w){d:Nat}(hd:d<N)(hU:¬s.U d){r:Res}{v:Value}(hb:Below w.heap.size w w')(hr:wn w.heap.size w' v r)(R:List Id):
  ∃ρ',Conc N B M w0 ρ' (s.app (some d) ⟨r.av d,r.us d,some d,R⟩) (a.put (some d) v) w':=by
 obtain⟨ρr,okp,SV,X0,Nz,Rc⟩:=hr
 let ρ':Rho:=⟨fun o=>if o.1=d then ρr (0,o.2)else ρ o,fun o c=>o.1≠d/\ρ.fp o c,ρ.al⟩
 have hρ:∀o:Id,s.U o.1->ρ' o=ρ o:=fun o ho=>b8 (fun e:o.1=d=>hU aaV);have Nl:∀q:Nat×Nat,ρ' (d,q)=ρr (0,q):=fun q=>c7 rfl
 have PU:∀o b,o.1=d->Own ρ' o b->blk (ρr (0,o.2))=some b:=fun o b e h1=>by
  rcases h1 with h1|h1
  ·have:ρ' o=ρr (0,o.2):=c7 e;rwa [this]at h1
  ·exact absurd e h1.1
 have UE:∀o b,s.U o.1->Own ρ' o b->Own ρ o b:=fun o b e h1=>by
  rcases h1 with h1|h1
  ·rw[hρ o e]at h1;exact .inl h1
  ·exact .inr h1.2
 have hT:Turn (fun _=>False) w w':=⟨hb.os,hb.tape,hb.output,hb.size,fun k hk _=>hb.block k hk⟩;have hH:∀o x,bW s.H (r.us d) o=some x->(o,x)∈r.os d\/(o∉(r.os d).map (·.1)/\s.H o=some x):=fun o x ho=>rH (r.os d) s.H o x ho
 have M5:∀b,okp b->okB ρ' (bW s.H (r.us d)) w' b:=by
  intro b Nf;refine⟨⟨(SV b Nf).1,h.alw b (.inl (v6 h.base (SV b Nf).2))⟩,fun o x ho he=>?_⟩;rcases hH o x ho with h1|⟨_,h1⟩
  ·obtain⟨g1,g2⟩:=pR h1;exact((Nz _ _ g2).2 b (PU o b g1 he)).2.2 Nf
  ·have:=(h.rng o x b h1 (UE o b (h.usedH o x h1).1 he)).1;have:=(SV b Nf).2;omega
 refine⟨ρ',?_⟩
 have:=h.step (fun _=>False) ((r.os d).map (·.1)) (w':=w') (ρ':=ρ') (H':=bW s.H (r.us d)) (U':=fun n=>s.U n\/n=d) (a':=a.put (some d) v) (L':=mE s.L (some d) (r.av d)) hT aaK aaH hρ
  (fun o x _ ho=>by
   funext c;have:o.1≠d:=fun e=>hU (by rw[<-e];exact(h.usedH o x ho).1)
   exact propext ⟨fun h=>h.2,fun h=>⟨this,h⟩⟩) rfl
  (fun o ho=>cE _ _ o (by simpa [Res.us]using ho)) (fun n hn=> .inl hn) (fun _ _ h=>h) (fun _ _ _ _ _ _ h=>h) (fun _ _ _ h=>h)
  (fun o x b h1 h2 h3=>by
   rcases hH o x h2 with g|⟨g,_⟩
   ·obtain⟨g1,g2⟩:=pR g;have:=(Nz _ _ g2).2 b (PU o b g1 h3);exact⟨this.2.1,.inl (v6 h.base this.1),.inl this.1⟩
   ·exact absurd h1 g)
  (fun o o' x x' b h1 h2 h3 h4 M9 h5 h6=>by
   rcases hH o x h3 with g|⟨g,_⟩
   ·rcases hH o' x' h4 with g'|⟨g',_⟩
    ·obtain⟨e1,e2⟩:=pR g;obtain⟨e3,e4⟩:=pR g';refine Rc _ _ _ _ e2 e4 (fun he=>M9 ?_) b (PU o b e1 h5) (PU o' b e3 h6);have:o.2=o'.2:=congrArg (·.2) he;exact Prod.ext (e1.trans e3.symm) this
    ·exact absurd h2 g'
   ·exact absurd h1 g)
  (fun hk o x h1 h2=>by
   rcases hH o x h2 with g|⟨g,_⟩
   ·obtain⟨g1,g2⟩:=pR g;have e:ρ' o=ρr (0,o.2):=c7 g1;have hx:=(Nz _ _ g2).1;refine⟨?_,.inr g1,?_⟩
    ·obtain⟨sz,rows,rfl⟩:=zn g2;obtain⟨hu,hx⟩:=hx;refine⟨hu,?_⟩;rcases hx with⟨k1,k2⟩|⟨b,cap,cur,e',fz,k1,k2,k3,k4,k5,k6,k7,k8⟩
     ·exact .inl ⟨by rw[e];exact k1,k2⟩
     ·exact .inr ⟨b,cap,cur,e',fz,by rw[e];exact k1,k2,k3,k4,k5,k6,k7.keep (fun c M6=>⟨rfl,M5 c M6.1,fun e=>v6 h.base (M6.2 e)⟩),fun e=>v6 h.base (k8 e)⟩
    ·obtain⟨sz,rows,rfl⟩:=zn g2;simp[AO.ids]
   ·exact absurd h1 g)
  (fun hk t=>h.slots (dst:=some d) (fun d' e=>by injection e with e;omega) (U':=fun n=>s.U n\/n=d) (Jp Nl M5 X0) (fun id M7=> .inr (av_ids d r id M7)) t)
 exact this.congr (fun _=>rfl) (fun _=>rfl) (fun n=>by simp[F_.app,eq_comm])
theorem V108{p:Prop}(h:p:=by
 have he:a.eval (.func f)= .func (.func f) #[] #[]:=rfl
 simp[execOp,ho,resolve,he,Deferred.ofValue,invoke,hs.1 _ _]):p:=h
theorem Dw {f:FuncId}{args:Array Operand}{argTypes:Array TypeId}{d:Nat}(Nq:o.dst=some d)(ho:o.op= .call {callee:= .value (.func f),args,argTypes}){ts:List TV}{r:Res}(ha:eC H (args.toList.map ev) ts)(hs:Spec P f ts r):
  Good P o ev H ⟨r.av d,r.us d,some d,(args.toList.map ev).flatMap AV.ids⟩:=by
 intro N B M w0 ρ s a w Q K hc M1 hR hn hd hK;rw[Nq]at hd hK;have OR:=zy hc args.toList ts (fun x hx=>M1 x aal) hR ha;have Oc:=hs.2 w (args.map a.eval) (by simpa using OR)
 have M8:(execOp a.eval o).run P w= .ok (.enter f (args.map a.eval)) w:=by exact V108
 unfold Oper.wp;rw[M8];show Calls P f (args.map a.eval) w _;refine Oc.mono fun e w' ⟨v,he,hb,hr⟩=>?_;subst he;obtain⟨ρ',h'⟩:=hc.result (hd d rfl) (hn d rfl) hb hr ((args.toList.map ev).flatMap AV.ids);show K (a.put o.dst v) w';rw[Nq];exact hK _ _ ρ' h'
theorem uh {f:FuncId}{args:Array Operand}{argTypes:Array TypeId}(Nq:o.dst=none)(ho:o.op= .call {callee:= .value (.func f),args,argTypes}){ts:List TV}{r:Res}(ha:eC H (args.toList.map ev) ts)(hs:Spec P f ts r):
  Good P o ev H ⟨.unk,[],none,(args.toList.map ev).flatMap AV.ids⟩:=by
 intro N B M w0 ρ s a w Q K hc M1 hR hn hd hK;rw[Nq]at hd hK;have OR:=zy hc args.toList ts (fun x hx=>M1 x aal) hR ha;have Oc:=hs.2 w (args.map a.eval) (by simpa using OR)
 have M8:(execOp a.eval o).run P w= .ok (.enter f (args.map a.eval)) w:=by exact V108
 unfold Oper.wp;rw[M8];show Calls P f (args.map a.eval) w _;refine Oc.mono fun e w' ⟨v,he,hb,hr⟩=>?_;subst he;show K (a.put o.dst v) w';rw[Nq];refine hK v w' ρ ?_;have hT:Turn (fun _=>False) w w':=⟨hb.os,hb.tape,hb.output,hb.size,fun k hk _=>hb.block k hk⟩
 have:=hc.step (fun _=>False) [] (w':=w') (ρ':=ρ) (H':=s.H) (U':=s.U) (a':=a) (L':=s.L) hT hc.size hc.defers
  (fun _ _=>rfl) (fun _ _ _ _=>rfl) rfl (fun _ _=>rfl) (fun _ h=>h) (fun _ _ h=>h) (fun _ _ _ _ _ _ h=>h) (fun _ _ _ h=>h) s_ s_ s_ (fun _ t=> .inl ⟨rfl,rfl⟩)
 exact this.congr (fun _=>rfl) (fun _=>rfl) (fun n=>by simp[F_.app])
end
end Go.Sim
