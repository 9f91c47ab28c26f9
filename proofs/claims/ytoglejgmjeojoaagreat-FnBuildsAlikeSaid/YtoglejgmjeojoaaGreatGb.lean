import Derived.Test.YtoglejgmjeojoaaGreatGa
namespace Go.Sim
open Go.RowKit
section
variable {P:Program} {Γ:Env} {N B:Nat} {M:Nat->Prop} {w0:Start} {ρ:Rho} {s:F_} {a:Act} {w:World} {o:Oper} {ev:Operand->AV} {H:Id->Option AO} {K:Eff->Prop} {KV:AV->Prop}
theorem dx:∀(us:List (Id×Option AO)) (H:Id->Option AO) (o:Id),o∉us.map (·.1)->cD H us o=H o
 | [],_,_,_=>rfl
 | p::r,H,o,h=>by
  simp only[p7,d8,not_or]at h;rw[cD,dx r _ o h.2,b8 h.1]
theorem CR:∀(rm:List Id) (H:Id->Option AO) (q:Id) (x:Option AO),cD H (rm.map (fun r=>(r,none))++[(q,x)])=fun o=>if o=q then x else if o∈rm then none else H o
 | [],H,q,x=>by simp[cD]
 | r::rm,H,q,x=>by
  rw[p7,p9,cD,CR rm];funext o;by_cases h1:o=q
  ·simp[h1]
  ·by_cases h2:o∈rm
   ·simp[h1,h2]
   ·by_cases h3:o=r<;>simp[h1,h2,h3]
theorem V116{p:Prop}(h:p:=by
 have e':o'≠q:=fun e2=>P2 (e.trans e2.symm);simp only[d8,e',false_or]at h2;simp only[b8 e',b9 h2]at h4
 cases h4):p:=h
theorem Conc.make (h:Conc N B M w0 ρ s a w){d:Nat}(hd:d<N)(hU:¬s.U d){w':World}{D:Nat->Prop}(rm:List Id)(hT:Turn D w w'){v vv:Value}{x:AO}{av:AV}{R:List Id}(F:Nat->Prop)
  (hD:∀b,D b->∃o x',o∈rm/\s.H o=some x'/\Own ρ o b)
  (hv:∀b,blk v=some b->b<w'.heap.size/\(w.heap.size<=b\/∃o x',o∈rm/\s.H o=some x'/\Own ρ o b))
  (hF:∀b,F b->∃o x',o∈rm/\s.H o=some x'/\Own ρ o b)
  (Wp:∀id∈x.ids,s.U id.1) (acH:∀id∈av.ids,id.1=d\/s.U id.1)
  (Rj:∀(ρ':Rho) (ok':Nat->Prop),(∀b,okB ρ s.H w b->w'.heap[b]?=w.heap[b]?/\ok' b)->(∀o x' b,o∈rm->s.H o=some x'->Own ρ o b->blk v≠some b->¬F b->ok' b)->
   (∀o,s.U o.1->ρ' o=ρ o)->ρ' (d,0,0)=v->(∀b,F b->ρ'.fp (d,0,0) b)->RO B ρ' w' ok' (d,0,0) x/\RV B ρ' w' ok' vv av):
  ∃ρ',Conc N B M w0 ρ' (s.app (some d) ⟨av,rm.map (fun r=>(r,none))++[((d,0,0),some x)],some d,R⟩) (a.put (some d) vv) w':=by
 let q:Id:=(d,0,0)
 let ρ':Rho:=⟨fun o=>if o.1=d then v else ρ o,fun o c=>if o=q then F c else ρ.fp o c,ρ.al⟩
 have hρ:∀o:Id,s.U o.1->ρ' o=ρ o:=fun o ho=>by
  show(if o.1=d then v else ρ o)=ρ o;exact b8 (fun e:o.1=d=>hU abl)
 have hq:ρ' q=v:=by show(if d=d then v else _)=v;simp
 have WE:∀c,ρ'.fp q c↔F c:=fun c=>by show(if q=q then _ else _)↔_;simp
 have Tn:∀o c,o≠q->(ρ'.fp o c↔ρ.fp o c):=fun o c ho=>by show(if o=q then _ else _)↔_;simp[ho]
 have P8:∀o c,o≠q->s.U o.1->(Own ρ' o c↔Own ρ o c):=fun o c h1 h2=>by unfold Own;rw[hρ o h2,Tn o c h1]
 have Vw:=CR rm s.H q (some x)
 have TP:∀o x' b,o∈rm->s.H o=some x'->Own ρ o b->blk v≠some b->¬F b->okB ρ' (cD s.H (rm.map (fun r=>(r,none))++[(q,some x)])) w' b:=by
  intro o x' b h1 h2 h3 h4 Uv;refine⟨⟨w8 (h.rng o x' b h2 h3).1 hT.size,h.alw b (h.rng o x' b h2 h3).2⟩,fun o1 x1 h5 h6=>?_⟩;rw[Vw]at h5;by_cases e:o1=q
  ·subst e;rcases h6 with h6|h6
   ·rw[hq]at h6;exact h4 h6
   ·exact Uv ((WE b).1 h6)
  ·simp only[b8 e]at h5;by_cases e2:o1∈rm
   ·simp[e2]at h5
   ·simp only[b8 e2]at h5;rw[P8 o1 b e (h.usedH o1 x1 h5).1]at h6;exact h.sep o o1 x' x1 b h2 h5 (fun e3=>e2 (e3▸h1)) h3 h6
 refine⟨ρ',?_⟩;have hnq:∀o x',s.H o=some x'->o≠q:=fun o x' h1 e=>hU (by have:=(h.usedH o x' h1).1;rw[e]at this;exact this)
 have:=h.step D (q::rm) (w':=w') (ρ':=ρ') (H':=cD s.H (rm.map (fun r=>(r,none))++[(q,some x)])) (U':=fun n=>s.U n\/n=d) (a':=a.put (some d) vv) (L':=pj s.L (some d) av) hT
  abc aa9 hρ
  (fun o x' h1 h2=>by funext c;exact propext (Tn o c (hnq o x' h2))) rfl
  (fun o ho=>by
   rw[Vw];simp only[d8,not_or]at ho
   simp only[b8 ho.1,b8 ho.2])
  (fun n hn=> .inl hn)
  (fun b hb ZA=>by obtain⟨o,x',_,h2,h3⟩:=hD b ZA;exact hb.2 o x' h2 h3)
  (fun o x1 b h1 h2 h3 ZA=>by
   obtain⟨o',x',g1,g2,g3⟩:=hD b ZA
   exact h.sep o o' x1 x' b h1 g2 (fun e=>h2 (by rw[e];simp[g1])) h3 g3)
  (fun b hb hM ZA=>by
   obtain⟨o',x',g1,g2,g3⟩:=hD b ZA;rcases(h.rng o' x' b g2 g3).2 with g|g
   ·omega
   ·exact hM g)
  (fun o x1 b h1 h2 h3=>by
   rw[Vw]at h2;by_cases e:o=q
   ·subst e
    have h3:(b<w'.heap.size/\(w.heap.size<=b\/∃o x',o∈rm/\s.H o=some x'/\Own ρ o b)):=by
     rcases h3 with h3|h3
     ·rw[hq]at h3;exact hv b h3
     ·obtain⟨o',x',g1,g2,g3⟩:=hF b ((WE b).1 h3);exact⟨w8 (h.rng o' x' b g2 g3).1 hT.size,.inr ⟨o',x',g1,g2,g3⟩⟩
    obtain⟨g1,g2⟩:=h3;refine⟨g1,?_,?_⟩
    ·rcases g2 with g|⟨o',x',_,g3,g4⟩
     ·exact .inl (s8 h.base g)
     ·exact(h.rng o' x' b g3 g4).2
    ·rcases g2 with g|⟨o',x',g2,g3,g4⟩
     ·exact .inl g
     ·exact .inr ⟨o',x',g3,by simp[g2],g4⟩
   ·simp only[d8,e,false_or]at h1;simp only[b8 e,b9 h1]at h2
    cases h2)
  (fun o o' x1 x2 b h1 h2 h3 h4 P2=>by
   rw[Vw]at h3 h4;exfalso;by_cases e:o=q
   ·exact V116
   ·simp only[d8,e,false_or]at h1;simp only[b8 e,b9 h1]at h3
    cases h3)
  (fun hk o x1 h1 h2=>by
   rw[Vw]at h2;by_cases e:o=q
   ·subst e;simp only[if_true,Option.some.injEq]at h2;subst h2;exact⟨(Rj ρ' _ hk TP hρ hq (fun b hb=>(WE b).2 hb)).1,.inr rfl,fun id O9=> .inl (Wp id O9)⟩
   ·simp only[d8,e,false_or]at h1;simp only[b8 e,b9 h1]at h2
    cases h2)
  (fun hk t=>h.slots (dst:=some d) (fun d' e=>by injection e with e;omega) (U':=fun n=>s.U n\/n=d) (Rj ρ' _ hk TP hρ hq (fun b hb=>(WE b).2 hb)).2 (fun id O9=>(acH id O9).symm) t)
 exact this.congr (fun _=>rfl) (fun _=>rfl) (fun n=>by simp[F_.app,eq_comm])
theorem mP (w:World)(o:Obj):(w.alloc o).heap[w.heap.size]?=some o:=heap_alloc_new w o
theorem eL (n:Nat):cM n (0,0):=fun p _ h=>by simp at h
theorem Conc.newBox (h:Conc N B M w0 ρ s a w){d:Nat}(hd:d<N)(hU:¬s.U d){us:Array Value}{t:TypeId}{cells:List AC}(hr:RCs B ρ w (okB ρ s.H w) us.toList cells)(hi:∀id∈cells.flatMap AC.ids,s.U id.1)(R:List Id):
  ∃ρ',Conc N B M w0 ρ' (s.app (some d) ⟨.r (.c (.ptr (d,0,0) 0)),[((d,0,0),some (.box cells))],some d,R⟩) (a.put (some d) (.pointer (some ⟨w.heap.size,0,none⟩))) (w.alloc (.cells us t)):=by
 refine h.make hd hU (D:=fun _=>False) [] (Turn.alloc _ _ _) (v:= .pointer (some ⟨w.heap.size,0,none⟩)) (fun _=>False) (fun _ h=>h.elim) (fun b hb=>?_) (fun _ h=>h.elim) hi (fun id O9=>?_) (fun ρ' ok' hk _ hρ hq _=>⟨?_,?_⟩)
 ·injection hb with hb;subst hb;exact⟨s_,.inl (d7 _)⟩
 ·simp[AV.ids,AR.ids,AC.ids]at O9;left;rw[O9]
 ·refine⟨w.heap.size,us,t,(0,0),hq,mP w _,eL _,hr.keep hk fun o ho=>hρ o (hi o ho)⟩
 ·exact⟨w.heap.size,hq,rfl⟩
theorem lj (e:TypeId)(cs:Array Value):(newRow e cs).run P w= .ok ⟨w.heap.size,0,none⟩ (w.alloc (.cells cs e)):=rfl
theorem V149{p:Prop}(h:p:=by
 unfold Oper.wp;rw[P1];show K (a.put o.dst _) _;rw[QU]
 exact hK _ _ ρ' h'):p:=h
theorem FG {T:TypeId}{d:Nat}{ti:Qp}(hΓ:Γ.chk P=true)(hT:Γ.get T=some ti)(QU:o.dst=some d)(ho:o.op= .alloc T):
  Good P o ev H ⟨.r (.c (.ptr (d,0,0) 0)),[((d,0,0),some (.box ti.zero))],some d,[]⟩:=by
 obtain⟨i,dd,fit⟩:=Env.fit hΓ hT;obtain⟨z,hz,hm⟩:=fit.zero;intro N B M w0 ρ s a w Q K hc O3 hR hn hd hK;rw[QU]at hd hK;obtain⟨ρ',h'⟩:=hc.newBox (hd d rfl) (hn d rfl) (us:=z.cells) (t:=T) (eX (B:=B) (ρ:=ρ) (w:=w) (ok:=okB ρ s.H w) hm) (by rw[un hm];simp) []
 have P1:(execOp a.eval o).run P w= .ok (.value (.pointer (some ⟨w.heap.size,0,none⟩))) (w.alloc (.cells z.cells T)):=by simp[execOp,ho,Instr.alloc,gU fit.info hz,newVar,lj]
 exact V149
theorem Ky {T:TypeId}{d:Nat}{x:Operand}{ar:AR}(QU:o.dst=some d)(ho:o.op= .box T x)(hx:ev x= .r ar):
  Good P o ev H ⟨.r (.c (.ptr (d,0,0) 0)),[((d,0,0),some (.box ar.cells))],some d,[]⟩:=by
 intro N B M w0 ρ s a w Q K hc O3 hR hn hd hK;rw[QU]at hd hK;have hv:=hc.eval x;rw[O3 x aac,hx]at hv
 obtain⟨ρ',h'⟩:=hc.newBox (hd d rfl) (hn d rfl) (us:=(a.eval x).cells) (t:=T) (RR.cells hv.1) (by
  have:=hv.2
  cases ar with
  | c y=>intro id O9;exact this id (by simpa [AR.cells,AV.ids,AR.ids]using O9)
  | agg cs=>exact this) []
 have P1:(execOp a.eval o).run P w= .ok (.value (.pointer (some ⟨w.heap.size,0,none⟩))) (w.alloc (.cells (a.eval x).cells T)):=by simp[execOp,ho,Instr.box,newVar,lj]
 exact V149
theorem Conc.newArr (h:Conc N B M w0 ρ s a w){d:Nat}(hd:d<N)(hU:¬s.U d)(rm:List Id){w':World}(hT:Turn (fun _=>False) w w'){b cap sz:Nat}{us:Array Value}{e:TypeId}{fz:Nat×Nat}{rows:List (List Tr)}{fr:Bool}
  (hb:w.heap.size<=b) (hh:w'.heap[b]?=some (.cells us e fz)) (hf:cM us.size fz) (hu:∀r∈rows,r.length=sz) (h1:rows.length<=cap) (h2:cap<=maxLen) (h3:us.size=cap*sz)
  (hr:∀ok':Nat->Prop,(∀c,okB ρ s.H w c->ok' c)->(∀o x c,o∈rm->s.H o=some x->Own ρ o c->ok' c)->RTs w (okF B ok' fr) (us.toList.take (rows.length*sz)) rows.flatten) (R:List Id):
  ∃ρ',Conc N B M w0 ρ' (s.app (some d) ⟨.r (.c (.own (d,0,0))),rm.map (fun r=>(r,none))++[((d,0,0),some (.arr fr sz rows))],some d,R⟩) (a.put (some d) (.slice (some ⟨b,0,none⟩) rows.length cap)) w':=by
 have O4:b<w'.heap.size:=(E5.1 hh).1;refine h.make hd hU (D:=fun _=>False) rm hT (v:= .slice (some ⟨b,0,none⟩) rows.length cap) (fun _=>False) (fun _ h=>h.elim) (fun b' Rc=>?_) (fun _ h=>h.elim) (fun id O9=>by simp[AO.ids]at O9) (fun id O9=>?_) (fun ρ' ok' hk TP hρ hq _=>⟨?_,?_⟩)
 ·injection Rc with Rc;subst Rc;exact⟨O4,.inl hb⟩
 ·simp[AV.ids,AR.ids,AC.ids]at O9;left;rw[O9]
 ·have Vc:∀c,okB ρ s.H w c\/(∃o x,o∈rm/\s.H o=some x/\Own ρ o c)->w'.heap[c]?=w.heap[c]?/\ok' c:=by
   rintro c (hc|⟨o,x,g1,g2,g3⟩)
   ·exact hk c hc
   ·have hr:=(h.rng o x c g2 g3).1;refine⟨hT.block c hr (fun h=>h),TP o x c g1 g2 g3 ?_ (fun h=>h)⟩;intro e;have e':b=c:=(by simpa [blk]using e);omega
  refine⟨hu,.inr ⟨b,cap,us,e,fz,hq,hh,hf,h1,h2,h3,?_,fun _=>s8 h.base hb⟩⟩;have:=hr (fun c=>okB ρ s.H w c\/(∃o x,o∈rm/\s.H o=some x/\Own ρ o c)) (fun c hc=> .inl hc) (fun o x c g1 g2 g3=> .inr ⟨o,x,g1,g2,g3⟩);exact this.keep (jQ Vc)
 ·exact⟨⟨_,_,_,hq⟩,hq.symm⟩
theorem KH {ok':Nat->Prop}{fr:Bool}{sz:Nat}{rows:List (List Tr)}{o:Id}(hc:Conc N B M w0 ρ s a w)(ho:s.H o=some (.arr fr sz rows))(O7:∀c,okB ρ s.H w c->ok' c)(hb:∀c,Own ρ o c->ok' c):
  RT w (okF B ok' fr) (ρ o) (.lst sz rows):=by
 obtain⟨hu,g⟩:=hc.arr ho;rcases g with⟨g1,g2⟩|⟨b,cap,cur,e,fz,g1,g2,g3,g4,g5,g6,g7,g8,g9⟩
 ·subst g2;rw[g1];exact .emp _ _ _ (v9 _)
 ·rw[g1];have Rc:=hb b (.inl aat);refine .lst _ _ _ _ _ (cur.toList.take (rows.length*sz)) rfl g4 g5 hu ⟨Rc,g9⟩ (by rw[g7.length]) g8 fun p v u hv Rp=>?_;exact(g7.get p v u hv Rp).keep fun c O8=>⟨rfl,O7 c O8.1,O8.2⟩
theorem nn {ok':Nat->Prop}(hc:Conc N B M w0 ρ s a w)(O7:∀c,okB ρ s.H w c->ok' c):∀{vs:List Value} {cs:List AC} {ts:List Tr} {fr:Bool} {ids:List Id},frz H cs=some (ts,fr,ids)->(∀o∈ids,s.H o=H o)->RCs B ρ w (okB ρ s.H w) vs cs->
  (∀o x c,o∈ids->s.H o=some x->Own ρ o c->ok' c)->RTs w (okF B ok' fr) vs ts
 | [],[],ts,fr,ids,h,_,_,_=>by simp only[frz,Option.some.injEq,Prod.mk.injEq]at h;obtain⟨rfl,_⟩:=h;trivial
 | v::vs,c::cs,ts,fr,ids,h,hH,hr,hb=>by
  cases c with
  | t x=>
   simp only[frz]at h
   cases hf:frz H cs with
   | none=>rw[hf]at h;simp at h
   | some p=>
    obtain⟨U1,fr',RU⟩:=p;rw[hf]at h;have hx:RT w (okB ρ s.H w) v x:=hr.1
    cases x with
    | lst sz rows=>
     simp only[Option.some.injEq,Prod.mk.injEq]at h;obtain⟨rfl,rfl,rfl⟩:=h;have ih:=nn (ok':=ok') hc O7 hf hH hr.2 hb
     exact⟨hx.keep fun c O8=>⟨rfl,O7 c O8,fun e=>by cases e⟩,ih.keep (iP fun e=>by cases e)⟩
    | int=>
     simp only[Option.some.injEq,Prod.mk.injEq]at h;obtain⟨rfl,rfl,rfl⟩:=h
     exact⟨by cases hx;exact .int _ _,nn hc O7 hf hH hr.2 hb⟩
    | bool=>
     simp only[Option.some.injEq,Prod.mk.injEq]at h;obtain⟨rfl,rfl,rfl⟩:=h
     exact⟨by cases hx;exact .bool _,nn hc O7 hf hH hr.2 hb⟩
    | str=>
     simp only[Option.some.injEq,Prod.mk.injEq]at h;obtain⟨rfl,rfl,rfl⟩:=h
     exact⟨by cases hx;exact .str _,nn hc O7 hf hH hr.2 hb⟩
  | f x=>
   simp only[frz]at h
   cases hf:frz H cs with
   | none=>rw[hf]at h;simp at h
   | some p=>
    obtain⟨U1,fr',RU⟩:=p;rw[hf]at h;simp only[Option.some.injEq,Prod.mk.injEq]at h;obtain⟨rfl,rfl,rfl⟩:=h;have hx:RT w (okF B (okB ρ s.H w) true) v x:=hr.1
    exact⟨hx.keep fun c O8=>⟨rfl,O7 c O8.1,fun _=>O8.2 rfl⟩,nn hc O7 hf hH hr.2 hb⟩
  | nils sz=>
   simp only[frz]at h
   cases hf:frz H cs with
   | none=>rw[hf]at h;simp at h
   | some p=>
    obtain⟨U1,fr',RU⟩:=p;rw[hf]at h;simp only[Option.some.injEq,Prod.mk.injEq]at h;obtain⟨rfl,rfl,rfl⟩:=h;have hx:v= .slice none 0 0:=hr.1;subst hx
    exact⟨.emp _ _ _ (v9 _),nn hc O7 hf hH hr.2 hb⟩
  | own o=>
   simp only[frz]at h;split at h
   ·rename_i fr1 sz rows U1 fr' RU ho hf;simp only[Option.some.injEq,Prod.mk.injEq]at h;obtain⟨rfl,rfl,rfl⟩:=h;have QL:s.H o=some (.arr fr1 sz rows):=(by rw[hH o s_];exact ho);obtain⟨_,hx⟩:=hr.1;have h1:=KH (ok':=ok') hc QL O7 (fun c hcb=>hb o _ c s_ QL hcb);rw[hx];exact⟨h1.keep (iP fun e=>by simp at e;exact e.1),(nn hc O7 hf (fun o ho=>hH o aao) hr.2 (fun o x c h1 h2 h3=>hb o x c (by simp[h1]) h2 h3)).keep (iP fun e=>by simp at e;exact e.2)⟩
   ·cases h
  | nilp=>simp[frz]at h
  | sub=>simp[frz]at h
  | ptr=>simp[frz]at h
  | opq=>simp[frz]at h
  | mpv=>simp[frz]at h
 | [],_::_,_,_,_,_,_,h,_=>h.elim
 | _::_,[],_,_,_,_,_,h,_=>h.elim
theorem vi (sz:Nat):∀(parts:List (Nat×Value)) (n0:Nat) (pre:List Value) (rest:List Value),pre.length=n0*sz->(∀(j:Nat) (p:Nat×Value),parts[j]?=some p->p.1=n0+j/\p.2.cells.size=sz)->rest.length=parts.length*sz->
  Instr.fill (fun i=>some (i*sz,sz)) (pre++rest).toArray parts=some (pre++parts.flatMap (fun p=>p.2.cells.toList)).toArray
 | [],n0,pre,rest,_,_,hr=>by
  have:rest=[]:=x7 abe;subst this
  simp[Instr.fill]
 |(i,v)::parts,n0,pre,rest,hp,XQ,hr=>by
  obtain⟨h1,h2⟩:=XQ 0 (i,v) s_;simp only[y5]at h1 h2;subst h1;have RM:rest.length=sz+parts.length*sz:=by rw[hr,d6,p8];omega
  have Wc:v.cells.zipIdx.foldl (fun cs (x:Value×Nat)=>cs.setIfInBounds (i*sz+x.2) x.1) (pre++rest).toArray=(pre++v.cells.toList++rest.drop sz).toArray:=by
   have key:∀(vs:List Value) (k:Nat) (pre rest:List Value),vs.length<=rest.length->
     (vs.zipIdx k).foldl (fun(cs:Array Value) (x:Value×Nat)=>cs.setIfInBounds (pre.length-k+x.2) x.1) (pre++rest).toArray=(pre++vs++rest.drop vs.length).toArray\/pre.length<k:=by
    intro vs
    induction vs with
    | nil=>intro k pre rest _;left;simp
    | cons u vs ih=>
     intro k pre rest hl;rcases n5 pre.length k with hk|hk
     ·exact .inr hk
     left
     cases rest with
     | nil=>simp at hl
     | cons r rest=>
      simp only[List.zipIdx_cons,List.foldl_cons]
      have e1:(pre++r::rest).toArray.setIfInBounds (pre.length-k+k) u=((pre++[u])++rest).toArray:=by rw[Nat.sub_add_cancel hk];simp
      rw[e1];have:=ih (k+1) (pre++[u]) rest aaZ;rcases this with this|this
      ·have e2:(pre++[u]).length-(k+1)=pre.length-k:=s_;rw[e2]at this;rw[this];simp
      ·simp at this;omega
   have:=key v.cells.toList 0 pre rest aad;rcases this with this|this
   ·rw[<-Array.foldl_toList,Array.toList_zipIdx];simp only[u7,hp]at this;rw[this];simp[h2]
   ·omega
  simp only[Instr.fill];rw[b8 (by simp[h2];omega),Wc]
  have:=vi sz parts (i+1) (pre++v.cells.toList) (rest.drop sz) (by simp[hp,h2,p8]) (fun j p hj=>by
   obtain⟨g1,g2⟩:=XQ (j+1) p aaV
   exact⟨o_,g2⟩) (by rw[y9];omega)
  rw[this];simp
theorem tx:∀(parts:List (Nat×Operand)) (n:Nat) (K:Bool->List (List Tr)->List Id->Prop),qh H n (parts.map fun p=>(p.1,ev p.2)) K->
  ∃fr rows ids,K fr rows ids/\rows.length=parts.length/\(∀(j:Nat) (p:Nat×Operand),parts[j]?=some p->p.1=n+j)/\
   ∀(N B:Nat) (M:Nat->Prop) (w0:Start) (ρ:Rho) (s:F_) (a:Act) (w:World) (ok':Nat->Prop),Conc N B M w0 ρ s a w->(∀c,okB ρ s.H w c->ok' c)->(∀o∈ids,s.H o=H o)->(∀o x c,o∈ids->s.H o=some x->Own ρ o c->ok' c)->
    (∀p∈parts,RV B ρ w (okB ρ s.H w) (a.eval p.2) (ev p.2))->∀(j:Nat) (p:Nat×Operand) (row:List Tr),parts[j]?=some p->rows[j]?=some row->RTs w (okF B ok' fr) (a.eval p.2).cells.toList row
 | [],n,K,h=>⟨true,[],[],h,rfl,s_,s_⟩
 |(i,x)::parts,n,K,h=>by
  simp only[p7,qh]at h
  cases hx:ev x with
  | r ar=>
   rw[hx]at h;simp only[qh]at h;split at h
   ·rename_i ts fr0 ids0 hn T5;have hin:i=n:=(by simpa using hn);obtain⟨fr,rows,ids,h1,h2,h3,h4⟩:=tx parts (n+1) _ h;refine⟨_,ts::rows,_,h1,by simp[h2],fun j p hj=>?_,fun N B M w0 ρ s a w ok' hc O7 hH hb hf j p row hj hr=>?_⟩
    ·cases j with|zero=>simp at hj;subst hj;simpa using hin|succ j=>have:=h3 j p aaV;omega
    ·cases j with
     | zero=>
      simp at hj hr;subst hj;subst hr;have:=hf (i,x) s_;simp only at this;rw[hx]at this
      exact(nn hc O7 T5 (fun o ho=>hH o aao) (RR.cells this) (fun o x c g1 g2 g3=>hb o x c (by simp[g1]) g2 g3)).keep (iP fun e=>by simp at e;exact e.1)
     | succ j=>exact(h4 N B M w0 ρ s a w ok' hc O7 (fun o ho=>hH o aao) (fun o x c g1 g2 g3=>hb o x c (by simp[g1]) g2 g3) (fun p hp=>hf p (by simp[hp])) j p row aaV abe).keep (iP fun e=>by simp at e;exact e.2)
   ·exact h.elim
  | tup=>rw[hx]at h;exact h.elim
  | el=>rw[hx]at h;exact h.elim
  | ro=>rw[hx]at h;exact h.elim
  | unk=>rw[hx]at h;exact h.elim
 termination_by parts=>parts.length
theorem EA {ok:Nat->Prop}:∀(vss:List (List Value)) (rows:List (List Tr)),vss.length=rows.length->(∀(j:Nat) (vs:List Value) (row:List Tr),vss[j]?=some vs->rows[j]?=some row->RTs w ok vs row)->RTs w ok vss.flatten rows.flatten
 | [],[],_,_=>trivial
 | vs::vss,row::rows,hl,h=>RTs.append (h 0 vs row s_ s_) (EA vss rows aaZ fun j vs row h1 h2=>h (j+1) vs row aaw aaq)
 | [],_::_,hl,_=>by simp at hl
 | _::_,[],hl,_=>by simp at hl
theorem oX {T e:TypeId}{n:Nat}{i ie:TypeInfo}{z:Value}(hu:P.underlying T=some (.slice e))(hi:P.info? e=some ie)(hz:ie.zero=some z)(RK:n*ie.size<=16777216)(vals:Array (Nat×Value))(cs:Array Value)
  (hf:Instr.fill (fun i=>some (i*ie.size,ie.size)) ((Array.range (n*ie.size)).map (fun i=>(if n*ie.size=0 then #[]else z.cells)[i%(if n*ie.size=0 then #[]else z.cells).size]!)) vals.toList=some cs):
  (Instr.buildSlice T n vals).run P w= .ok (.slice (some ⟨w.heap.size,0,none⟩) n n) (w.alloc (.cells cs e)):=by
 have O4:¬n*ie.size>2^24:=o_;unfold Instr.buildSlice;by_cases h0:n*ie.size=0
 ·rw[b9 h0]at hf;simp only[n6,run_underlying hu,j7,dg hi,b8 O4,b9 h0,o9];rw[hf];simp[lj]
 ·rw[b8 h0]at hf;simp only[n6,run_underlying hu,j7,dg hi,b8 O4,b8 h0,o9,gU hi hz];rw[hf];simp[lj]
theorem V140{p:Prop}(h:p:=by
 have:=(hc.eval p.2).1
 rwa [O3 p.2 (by simp only[ho,Op.operands];exact q7.2 ⟨p,hp,rfl⟩)]at this):p:=h
theorem V138{p:Prop}(h:p:=by
 rcases n5 j parts.toList.length with h'|h'
 ·exact h'
 ·rw[e9 h']at hj;cases hj):p:=h
theorem V27{p:Prop}(h:p:=by
 have:=vi te.size ((parts.map fun p=>(p.1,a.eval p.2)).toList) 0 [] init.toList s_ (fun j p hj=>by
  simp only[I2,j9,v7]at hj;obtain⟨q,g1,rfl⟩:=hj;obtain⟨g2,g3⟩:=P5 j q g1
  exact⟨by simp[g2],g3⟩) (by simp only[Array.length_toList,XZ,I2,d9];rw[<-hn];simp)
 simp only[r9,Array.toArray_toList]at this;rw[this]
 simp[vss,List.flatMap_def];rfl):p:=h
theorem V65{p:Prop}(h:p:=by
 have:=oX (w:=w) (n:=n) (i:=ii) fit.und fite.info hz (by rw[fite.size];exact RK) (parts.map fun p=>(p.1,a.eval p.2)) vss.flatten.toArray (by rw[fite.size];exact Ya)
 simp only[execOp,ho,n6,this,j7,o9]):p:=h
theorem uG {T e:TypeId}{d n:Nat}{parts:Array (Nat×Operand)}{ti te:Qp}(hΓ:Γ.chk P=true)(hT:Γ.get T=some ti)(he:ti.elem=some e)(hE:Γ.get e=some te)(QU:o.dst=some d)(ho:o.op= .buildSlice T n parts)
  (hn:parts.toList.length=n)
  (h:qh H 0 (parts.toList.map fun p=>(p.1,ev p.2)) fun fr rows ids=>(∀r∈rows,r.length=te.size)/\n*te.size<=16777216/\K ⟨.r (.c (.own (d,0,0))),ids.map (fun r=>(r,none))++[((d,0,0),some (.arr fr te.size rows))],some d,ids⟩):
  ∃ef,K ef/\Good P o ev H ef:=by
 obtain⟨ii,dd,fit⟩:=Env.fit hΓ hT;obtain⟨ie,de,fite⟩:=Env.fit hΓ hE;have hd:=oD fit he;subst hd;obtain⟨z,hz,hm⟩:=fite.zero;obtain⟨fr,rows,ids,⟨hu,RK,hK⟩,RM,YP,Te⟩:=tx parts.toList 0 _ h;refine⟨_,hK,?_⟩;intro N B M w0 ρ s a w Q K hc O3 hR QT hd hK;rw[QU]at hd hK
 have P0:∀p∈parts.toList,RV B ρ w (okB ρ s.H w) (a.eval p.2) (ev p.2):=fun p hp=>by
  exact V140
 let vss:List (List Value):=parts.toList.map fun p=>(a.eval p.2).cells.toList
 have RP:vss.length=rows.length:=by simp[vss,RM]
 have RJ:∀ok':Nat->Prop,(∀c,okB ρ s.H w c->ok' c)->(∀o x c,o∈ids->s.H o=some x->Own ρ o c->ok' c)->RTs w (okF B ok' fr) vss.flatten rows.flatten:=by intro ok' O7 hb;have hRT:=Te N B M w0 ρ s a w ok' hc O7 hR hb P0;refine EA vss rows RP fun j vs row h1 h2=>?_;simp only[vss,j9,v7]at h1;obtain⟨p,g1,rfl⟩:=h1;exact hRT j p row g1 h2
 have hRT:=Te N B M w0 ρ s a w (fun _=>True) hc (fun _ _=>trivial) hR (fun _ _ _ _ _ _=>trivial) P0
 have P5:∀(j:Nat) (p:Nat×Operand),parts.toList[j]?=some p->p.1=j/\(a.eval p.2).cells.size=te.size:=by
  intro j p hj
  have Q0:j<parts.toList.length:=by exact V138
  have YT:rows[j]?=some (rows[j]'o_):=i9 o_;have:=(hRT j p _ hj YT).length;rw[hu _ (c9 YT)]at this;exact⟨by simpa using YP j p hj,by simpa using this⟩
 let init:Array Value:=(Array.range (n*te.size)).map (fun i=>(if n*te.size=0 then #[]else z.cells)[i%(if n*te.size=0 then #[]else z.cells).size]!)
 have XZ:init.size=n*te.size:=by simp[init]
 have Ya:Instr.fill (fun i=>some (i*te.size,te.size)) init ((parts.map fun p=>(p.1,a.eval p.2)).toList)=some vss.flatten.toArray:=by exact V27
 have P1:(execOp a.eval o).run P w= .ok (.value (.slice (some ⟨w.heap.size,0,none⟩) n n)) (w.alloc (.cells vss.flatten.toArray e)):=by exact V65
 have O2:rows.length=n:=by rw[RM,hn]
 have Wb:n<=maxLen:=by have:=fite.pos;have h1:n*1<=n*te.size:=B5 _ o_;unfold maxLen;omega
 have P7:vss.flatten.length=n*te.size:=by rw[(RJ (fun _=>True) (fun _ _=>trivial) (fun _ _ _ _ _ _=>trivial)).length,bm te.size rows hu,O2]
 obtain⟨ρ',h'⟩:=hc.newArr (hd d rfl) (QT d rfl) ids (w':=w.alloc (.cells vss.flatten.toArray e)) (Turn.alloc _ _ _) (b:=w.heap.size) (cap:=n) (sz:=te.size) (us:=vss.flatten.toArray) (e:=e) (fz:=(0,0)) (rows:=rows) (fr:=fr)
  (d7 _) (mP _ _) (eL _) hu o_ Wb (by simp only[B3,P7]) (fun ok' O7 hb=>by rw[O2,gt (by simp only[P7];omega)];exact RJ ok' O7 hb) ids
 rw[O2]at h';unfold Oper.wp;rw[P1];show K (a.put o.dst _) _;rw[QU];exact hK _ _ ρ' h'
theorem fE (b:Nat)(e:TypeId)(fz:Nat×Nat):∀(vs:List Value) (o:Nat) (w:World) (cur:Array Value),w.heap[b]?=some (.cells cur e fz)->o+vs.length<=cur.size->
  ∃QX,(w.setCells b o vs).heap[b]?=some (.cells QX e fz)/\QX.size=cur.size/\QX.toList=cur.toList.take o++vs++cur.toList.drop (o+vs.length)
 | [],o,w,cur,h,_=>⟨cur,h,rfl,s_⟩
 | v::vs,o,w,cur,h,hl=>by
  simp only[d6]at hl
  have h1:(w.setCell ⟨b,o,none⟩ v).heap[b]?=some (.cells (cur.setIfInBounds o v) e fz):=by simp[World.setCell,Array.getElem?_modify,h]
  obtain⟨QX,g1,g2,g3⟩:=fE b e fz vs (o+1) _ _ h1 aad;refine⟨QX,g1,by simpa using g2,?_⟩;rw[g3];have O4:o<cur.toList.length:=by simp;omega
  simp only[Array.toList_setIfInBounds,d6]
  have e1:(cur.toList.set o v).take (o+1)=cur.toList.take o++[v]:=by rw[z9 aad];simp[H4]
  have e2:(cur.toList.set o v).drop (o+1+vs.length)=cur.toList.drop (o+(vs.length+1)):=by rw[List.drop_set_of_lt o_];congr 1;omega
  rw[e1,e2];simp
theorem fB (b:Nat):∀(vs:List Value) (o:Nat) (w:World),Turn (fun k=>k=b) w (w.setCells b o vs)
 | [],_,w=>Turn.refl _ w
 | v::vs,o,w=>(Turn.setCell w ⟨b,o,none⟩ v).trans (fB b vs (o+1) _)
theorem qT {t u ty e:TypeId}{i:TypeInfo}{du:TypeDesc}(ht:P.underlying t=some (.slice e))(hu:P.underlying u=some du)(hk:kC du=none)(hi:P.info? e=some i)
  (x:Value) (b sLen sCap n:Nat) (news:List Value) (hl:∀w,(Builtin.lenOf x).run P w= .ok n w) (hf:(Builtin.firstCells i.size n x).run P w= .ok news.toArray w) (QG:sLen+n<=sCap)
  {cur:Array Value} {e':TypeId} {fz:Nat×Nat} (hb:w.heap[b]?=some (.cells cur e' fz)) (hz:cM cur.size fz) (Re:sLen*i.size+news.length<=cur.size) (h1:∀v∈news,v.oneCell'=true):
  (Builtin.append_ #[t,u] ty #[.slice (some ⟨b,0,none⟩) sLen sCap,x]).run P w= .ok (.slice (some ⟨b,0,none⟩) (sLen+n) sCap) (w.setCells b (sLen*i.size) news):=by
 have QJ:=run_storeCells_cells (P:=P) b (sLen*i.size) news 0 w (fun j hj=>by
   rw[cell_of_row w b _ cur e' fz hb];simp only[y5]
   rw[x8 o_];rfl) (fun j hj=>by
   simp only[World.frozen?,hb,y5];have:=hz (sLen*i.size+j) o_;simp only[A9,p6,Nat.not_le,Nat.not_lt]
   omega) h1
 simp only[y5]at QJ;unfold Builtin.append_;simp only[D9,f9,j8,n6,run_underlying ht,run_underlying hu,j7,dg hi,o9]
 cases du
 case int=>simp[kC]at hk
 all_goals simp only[w9,if_false,hl,b9 QG,E6,if_true,hf,eT,QJ,n6,j7,o9]
theorem pw {t u ty e:TypeId}{i:TypeInfo}{z:Value}{du:TypeDesc}(ht:P.underlying t=some (.slice e))(hu:P.underlying u=some du)(hk:kC du=none)(hi:P.info? e=some i)(hz:i.zero=some z)
  (x:Value) (A:Option Addr) (sLen sCap n:Nat) (olds news:List Value) (hl:∀w,(Builtin.lenOf x).run P w= .ok n w) (hf:(Builtin.firstCells i.size n x).run P w.drew= .ok news.toArray w.drew)
  (Tn:(Builtin.firstCells i.size sLen (.slice A sLen sCap)).run P w.drew= .ok olds.toArray w.drew)
  (hg:sCap<sLen+n) (h63:sLen+n<=9223372036854775807) (Re:(sLen+n)*i.bytes<=140737488355328):
  (Builtin.append_ #[t,u] ty #[.slice A sLen sCap,x]).run P w=
   .ok (.slice (some ⟨w.heap.size,0,none⟩) (sLen+n) (grownCap w (sLen+n) sCap e))
    (w.drew.alloc (.cells (olds.toArray++news.toArray++Builtin.zeroCells z.cells (grownCap w (sLen+n) sCap e-(sLen+n))) e)):=by
 have hn:¬(sLen+n<=sCap):=o_
 have acB:¬(((sLen+n:Nat):Int)>IntKind.i64.max):=by have:IntKind.i64.max=9223372036854775807:=d_;omega
 have adc:¬(Builtin.nextslicecap (sLen+n) sCap*i.bytes>2^48):=by have:=growslice_fits hg Re;omega
 unfold Builtin.append_;simp only[D9,f9,j8,n6,run_underlying ht,run_underlying hu,j7,dg hi,o9]
 cases du
 case int=>simp[kC]at hk
 all_goals simp only[w9,if_false,hl,b8 hn,E6,if_true,DQ hi,b8 adc,acB,false_and,n6,j7,o9]
 all_goals
  simp[Question.forced,hf,Tn,gU hi hz,lj,grownCap];congr 2;apply Array.ext';simp[l9]
theorem Iw {ok:Nat->Prop}{v:Value}{sz:Nat}{rows:List (List Tr)}(h:RT w ok v (.lst sz rows)):∃news,(∀(P:Program) (w':World),(Builtin.lenOf v).run P w'= .ok rows.length w')/\
  (∀(P:Program) (w':World),(∀b,ok b->w'.heap[b]?=w.heap[b]?)->(Builtin.firstCells sz rows.length v).run P w'= .ok news.toArray w')/\RTs w ok news rows.flatten/\∀r∈rows,r.length=sz:=by
 obtain⟨A,c,rfl,h1,h2,hu,P2⟩:=h.slice_inv;by_cases h0:rows=[]
 ·subst h0;refine⟨[],fun P w'=>by simp[Builtin.lenOf],fun P w' _=>?_,trivial,hu⟩
  cases A with|none=>simp[Builtin.firstCells]|some ad=>simp[Builtin.firstCells,loadCells,loadCellsFrom]
 ·obtain⟨ad,us,rfl,O7,hl,P5,hr⟩:=P2 h0;refine⟨us,fun P w'=>by simp[Builtin.lenOf],fun P w' hk=>?_,hr,hu⟩;exact run_firstCells_some w' sz rows.length ad rows.length c us (by rw[hl,bm sz rows hu]) fun j v hv=>(C5 (w:=w) (by rw[jB];exact hk _ O7)).trans (P5 j v hv)
theorem V144{p:Prop}(h:p:=by
 exact⟨[],fun P w'=>by simp[Builtin.lenOf],fun P w' _=>by simp[Builtin.firstCells],trivial,s_⟩):p:=h
theorem zT {esz:Nat}{x:Operand}{K2:Bool->List (List Tr)->List Id->Prop}(h:iV esz (ev x) H K2):∃fr rows R,K2 fr rows R/\
  ∀(N B:Nat) (M:Nat->Prop) (w0:Start) (ρ:Rho) (s:F_) (a:Act) (w:World),Conc N B M w0 ρ s a w->evL s.L x=ev x->(∀id∈R,s.H id=H id)->
   ∃news,(∀(P:Program) (w':World),(Builtin.lenOf (a.eval x)).run P w'= .ok rows.length w')/\(∀(P:Program) (w':World),w'.heap=w.heap->(Builtin.firstCells esz rows.length (a.eval x)).run P w'= .ok news.toArray w')/\
    RTs w (okF B (okB ρ s.H w) fr) news rows.flatten/\∀r∈rows,r.length=esz:=by
 unfold iV at h;split at h
 ·rename_i b hx;obtain⟨rfl,h⟩:=h;refine⟨_,_,_,h,fun N B M w0 ρ s a w hc O3 _=>?_⟩;have hv:=(hc.eval x).1;rw[O3,hx]at hv;have e1:=ik hv;rw[e1];have RK:(⟨b.toArray⟩:ByteArray).size=b.length:=by simp[ByteArray.size]
  refine⟨b.map fun u=> .int .u8 u.toNat,fun P w'=>by simp[Builtin.lenOf,RK],fun P w' _=>?_,?_,by simp[bo]⟩
  ·simp only[Builtin.firstCells,d9,o9];congr 1;have:(⟨b.toArray⟩:ByteArray).extract 0 b.length=⟨b.toArray⟩:=(by rw[<-RK];simp);rw[this];simp
  ·clear h e1 hv hx RK
   induction b with
   | nil=>trivial
   | cons u b ih=>exact⟨.int _ _,ih⟩
 ·rename_i sz hx;refine⟨_,_,_,h,fun N B M w0 ρ s a w hc O3 _=>?_⟩;have hv:=(hc.eval x).1;rw[O3,hx]at hv;have e1:a.eval x= .slice none 0 0:=hv;rw[e1];exact V144
 ·rename_i sz rows hx;obtain⟨rfl,h⟩:=h;refine⟨_,_,_,h,fun N B M w0 ρ s a w hc O3 _=>?_⟩;have hv:=(hc.eval x).1;rw[O3,hx]at hv;obtain⟨news,g1,g2,g3,g4⟩:=Iw hv;exact⟨news,g1,fun P w' e=>g2 P w' fun b _=>by rw[e],g3.keep fun b hb=>⟨rfl,hb,fun e=>by cases e⟩,g4⟩
 ·rename_i sz rows hx;obtain⟨rfl,h⟩:=h;refine⟨_,_,_,h,fun N B M w0 ρ s a w hc O3 _=>?_⟩;have hv:=(hc.eval x).1;rw[O3,hx]at hv;have hv:RT w (okF B (okB ρ s.H w) true) (a.eval x) (.lst sz rows):=hv;obtain⟨news,g1,g2,g3,g4⟩:=Iw hv;exact⟨news,g1,fun P w' e=>g2 P w' fun b _=>by rw[e],g3,g4⟩
 ·rename_i q hx;split at h
  ·rename_i fr sz rows hq;obtain⟨rfl,h⟩:=h;refine⟨_,_,_,h,fun N B M w0 ρ s a w hc O3 hR=>?_⟩;have hv:=(hc.eval x).1;rw[O3,hx]at hv;obtain⟨_,e1⟩:=hv;rw[e1];have P4:s.H q=some (.arr fr sz rows):=(by rw[hR q s_];exact hq);obtain⟨hu,g⟩:=hc.arr P4;rcases g with⟨g1,g2⟩|⟨b,cap,cur,e,fz,g1,g2,g3,g4,g5,g6,g7,g8,g9⟩
   ·subst g2;rw[g1];exact V144
   ·rw[g1];refine⟨_,fun P w'=>by simp[Builtin.lenOf],fun P w' he=>?_,g7,hu⟩
    exact run_firstCells_some w' sz rows.length ⟨b,0,none⟩ rows.length cap _ (by rw[g7.length,bm sz rows hu]) fun j v hv=>by
     rw[C5 (w:=w) (by rw[he])];exact g8 j v hv
  ·exact h.elim
 ·rename_i q k hx;split at h
  ·rename_i fr sz rows hq;obtain⟨rfl,QV,h⟩:=h;refine⟨_,_,_,h,fun N B M w0 ρ s a w hc O3 hR=>?_⟩;have hv:=(hc.eval x).1;rw[O3,hx]at hv;obtain⟨A,n,c,e0,e1,e2⟩:=hv;rw[e1];have P4:s.H q=some (.arr fr sz rows):=(by rw[hR q s_];exact hq);obtain⟨hu,g⟩:=hc.arr P4;have hut:∀r∈rows.take k,r.length=sz:=fun r hr=>hu r (u5 hr);have U3:(rows.take k).length=k:=(by rw[k0];omega);rcases g with⟨g1,g2⟩|⟨b,cap,cur,e,fz,g1,g2,g3,g4,g5,g6,g7,g8,g9⟩
   ·subst g2;have:k=0:=(by simpa using QV);subst this;rw[g1]at e0;injection e0 with e01;subst e01;exact V144
   ·rw[g1]at e0;injection e0 with e01 e02 e03;subst e01;subst e02;subst e03;have P7:(rows.take k).flatten=rows.flatten.take (k*sz):=(iJ sz rows k hu QV).symm;have T5:=g7.take (k*sz);rw[<-P7]at T5;refine⟨_,fun P w'=>by simp[Builtin.lenOf,U3],fun P w' he=>?_,T5,hut⟩;rw[U3];refine run_firstCells_some w' sz k ⟨b,0,none⟩ k cap _ ?_ fun j v hv=>?_
    ·rw[T5.length,bm sz _ hut,U3]
    ·rw[n7]at hv;split at hv
     ·rw[C5 (w:=w) (by rw[he])];exact g8 j v hv
     ·cases hv
  ·exact h.elim
 ·exact h.elim
theorem V127{p:Prop}(h:p:=by
 rw[eT,World.cell?_drew,cell_of_row w b j cur e' fz hb];rw[n7]at hv;split at hv
 ·simpa using hv
 ·cases hv):p:=h
theorem Conc.append (h:Conc N B M w0 ρ s a w){T U e:TypeId}{d:Nat}{te:Qp}{i ie:TypeInfo}{de du:TypeDesc}(hu:P.underlying T=some (.slice e))(fite:te.Fit P e ie de)(WM:P.underlying U=some du)(hk:kC du=none)
  (hd:d<N) (hU:¬s.U d) (rm:List Id) (rows news:List (List Tr)) (fr fr':Bool) (ty:TypeId) (sv x:Value) (hun:∀r∈news,r.length=te.size) (hur:∀r∈rows,r.length=te.size)
  (hs:(sv= .slice none 0 0/\rows=[])\/∃b cap cur e' fz,sv= .slice (some ⟨b,0,none⟩) rows.length cap/\w.heap[b]?=some (.cells cur e' fz)/\cM cur.size fz/\rows.length<=cap/\cap<=maxLen/\cur.size=cap*te.size/\
   RTs w (okF B (okB ρ s.H w) fr) (cur.toList.take (rows.length*te.size)) rows.flatten/\(fr=true->B<=b)/\∃o x',o∈rm/\s.H o=some x'/\Own ρ o b)
  (nv:List Value) (hl:∀w',(Builtin.lenOf x).run P w'= .ok news.length w') (hf:∀w',w'.heap=w.heap->(Builtin.firstCells te.size news.length x).run P w'= .ok nv.toArray w') (hn:RTs w (okF B (okB ρ s.H w) fr') nv news.flatten)
  (Re:fits (rows.length+news.length) te.bytes) (R:List Id):
  ∃v w' ρ',(Builtin.append_ #[T,U] ty #[sv,x]).run P w= .ok v w'/\Conc N B M w0 ρ' (s.app (some d) ⟨.r (.c (.own (d,0,0))),rm.map (fun r=>(r,none))++[((d,0,0),some (.arr (fr&&fr') te.size (rows++news)))],some d,R⟩) (a.put (some d) v) w':=by
 obtain⟨z,hz,hm⟩:=fite.zero
 have UZ:z.cells.size=te.size:=by have h1:=(eX (B:=B) (ρ:=⟨fun _=>default,fun _ _=>False,fun _=>True⟩) (w:=w) (ok:=fun _=>True) hm).length;rw[fite.zlen]at h1;simpa using h1
 have huu:∀r∈rows++news,r.length=te.size:=fun r hr=>(f0.1 hr).elim (hur r) (hun r);have RQ:nv.length=news.length*te.size:=by rw[hn.length,bm te.size news hun]
 have RM:rows.flatten.length=rows.length*te.size:=bm te.size rows hur;have Yp:rows.length+news.length<=maxLen:=by have:=Re.2;unfold maxLen;omega
 have P7:(rows++news).flatten=rows.flatten++news.flatten:=s_;have wk1:∀{vs:List Value} {ts:List Tr},RTs w (okF B (okB ρ s.H w) fr) vs ts->RTs w (okF B (okB ρ s.H w) (fr&&fr')) vs ts:=fun h=>h.keep (iP fun e=>by simp at e;exact e.1);have wk2:∀{vs:List Value} {ts:List Tr},RTs w (okF B (okB ρ s.H w) fr') vs ts->RTs w (okF B (okB ρ s.H w) (fr&&fr')) vs ts:=fun h=>h.keep (iP fun e=>by simp at e;exact e.2)
 have grow:∀(A:Option Addr) (sCap:Nat) (olds:List Value),sCap<rows.length+news.length->olds.length=rows.length*te.size->RTs w (okF B (okB ρ s.H w) fr) olds rows.flatten->
   (Builtin.firstCells te.size rows.length (.slice A rows.length sCap)).run P w.drew= .ok olds.toArray w.drew->sv= .slice A rows.length sCap->
   ∃v w' ρ',(Builtin.append_ #[T,U] ty #[sv,x]).run P w= .ok v w'/\Conc N B M w0 ρ' (s.app (some d) ⟨.r (.c (.own (d,0,0))),rm.map (fun r=>(r,none))++[((d,0,0),some (.arr (fr&&fr') te.size (rows++news)))],some d,R⟩) (a.put (some d) v) w':=by
  intro A sCap olds O4 Tk hor Tn Uf;subst Uf;have P1:=pw (w:=w) (ty:=ty) hu WM hk fite.info hz x A rows.length sCap news.length olds nv hl (by rw[fite.size];exact hf _ rfl) (by rw[fite.size];exact Tn) O4 Re.2 (by rw[fite.bytes];exact Re.1);have QY:=grownCap_ge w (rows.length+news.length) sCap e;have P6:=grownCap_le_maxLen w (rows.length+news.length) sCap e Yp;generalize grownCap w (rows.length+news.length) sCap e=gc at P1 QY P6;have XR:RTs w (okF B (okB ρ s.H w) (fr&&fr')) (olds++nv) (rows.flatten++news.flatten):=(wk1 hor).append (wk2 hn)
  obtain⟨ρ',h'⟩:=h.newArr hd hU rm (w':=w.drew.alloc (.cells (olds.toArray++nv.toArray++Builtin.zeroCells z.cells (gc-(rows.length+news.length))) e)) ((Turn.drew _ w).trans (Turn.alloc _ _ _)) (b:=w.heap.size) (cap:=gc) (sz:=te.size)
   (us:=olds.toArray++nv.toArray++Builtin.zeroCells z.cells (gc-(rows.length+news.length))) (e:=e) (fz:=(0,0)) (rows:=rows++news) (fr:=fr&&fr') (d7 _) (heap_alloc_new w.drew _) (eL _) huu aad P6
   (by simp only[Array.size_append,B3,size_zeroCells,UZ,Tk,RQ];rw[<-p8,<-p8];congr 1;omega)
   (fun ok' O7 _=>by
    rw[P7,c7,p8,<-Tk,<-RQ,<-c7];simp only[B6,l9];rw[<-l9,H7]
    exact XR.keep fun c O8=>⟨rfl,O7 c O8.1,O8.2⟩) R
  exact⟨_,_,ρ',P1,by simpa using h'⟩
 rcases hs with⟨rfl,rfl⟩|⟨b,cap,cur,e',fz,rfl,hb,hfz,P6,hcm,Ug,hrt,hfB,WB⟩
 ·by_cases h0:news=[]
  ·subst h0;refine⟨.slice none 0 0,w,?_⟩;have ZN:nv=[]:=x7 (by simpa using RQ);subst ZN
   have P1:(Builtin.append_ #[T,U] ty #[.slice none 0 0,x]).run P w= .ok (.slice none 0 0) w:=by
    unfold Builtin.append_;simp only[D9,f9,j8,n6,run_underlying hu,run_underlying WM,j7,dg fite.info,o9];have TB:=hf w rfl
    cases du
    case int=>simp[kC]at hk
    all_goals simp[hl,fite.size]at TB⊢;simp[TB]
   obtain⟨ρ',h'⟩:=h.make hd hU (D:=fun _=>False) rm (Turn.refl _ w) (v:= .slice none 0 0) (vv:= .slice none 0 0) (x:= .arr (fr&&fr') te.size []) (av:= .r (.c (.own (d,0,0)))) (R:=R) (fun _=>False) (fun _ h=>h.elim) (fun b hb=>by cases hb) (fun _ h=>h.elim) (fun id O9=>by simp[AO.ids]at O9)
    (fun id O9=>by simp[AV.ids,AR.ids,AC.ids]at O9;left;rw[O9]) (fun ρ' ok' hk _ hρ hq _=>⟨⟨s_,.inl ⟨hq,rfl⟩⟩,⟨_,_,_,hq⟩,hq.symm⟩)
   exact⟨ρ',P1,by simpa using h'⟩
  ·exact grow none 0 [] (by simp;exact List.length_pos_iff.2 h0) s_ trivial (by simp[Builtin.firstCells]) rfl
 ·by_cases QG:rows.length+news.length<=cap
  ·have P1:=qT (w:=w) (ty:=ty) hu WM hk fite.info x b rows.length cap news.length nv hl (by rw[fite.size];exact hf w rfl) QG hb hfz (by rw[fite.size,RQ,Ug,<-p8];exact m5 _ QG) hn.one;obtain⟨QX,g1,g2,g3⟩:=fE b e' fz nv (rows.length*ie.size) w cur hb (by rw[fite.size,RQ,Ug,<-p8];exact m5 _ QG);rw[fite.size]at g1 g3 P1
   obtain⟨ρ',h'⟩:=h.make hd hU (D:=fun k=>k=b) rm (fB b nv (rows.length*te.size) w) (v:= .slice (some ⟨b,0,none⟩) (rows.length+news.length) cap) (vv:= .slice (some ⟨b,0,none⟩) (rows.length+news.length) cap) (x:= .arr (fr&&fr') te.size (rows++news)) (av:= .r (.c (.own (d,0,0)))) (R:=R) (fun _=>False)
    (fun b' Rc=>by subst Rc;exact WB) (fun b' Rc=>by
     injection Rc with Rc;subst Rc
     exact⟨(E5.1 g1).1,.inr WB⟩) (fun _ h=>h.elim) (fun id O9=>by simp[AO.ids]at O9)
    (fun id O9=>by simp[AV.ids,AR.ids,AC.ids]at O9;left;rw[O9]) (fun ρ' ok' hk _ hρ hq _=>by
     refine⟨⟨huu,.inr ⟨b,cap,QX,e',fz,by rw[hq];simp,g1,by rw[g2];exact hfz,by simp;omega,hcm,by rw[g2,Ug],?_,fun e=>hfB (by simp at e;exact e.1)⟩⟩,⟨_,_,_,hq⟩,hq.symm⟩;have O2:(cur.toList.take (rows.length*te.size)).length=rows.length*te.size:=(by rw[hrt.length,RM]);rw[g3,P7,c7,p8,l9,<-l9,<-RQ];have e0:rows.length*te.size+nv.length=(cur.toList.take (rows.length*te.size)++nv).length:=(by rw[c7,O2]);rw[e0,H7]
     exact((wk1 hrt).append (wk2 hn)).keep (jQ hk))
   exact⟨_,_,ρ',P1,h'⟩
  ·refine grow (some ⟨b,0,none⟩) cap (cur.toList.take (rows.length*te.size)) o_ (by rw[hrt.length,RM]) hrt ?_ rfl;refine run_firstCells_some w.drew te.size rows.length ⟨b,0,none⟩ rows.length cap _ (by rw[hrt.length,RM]) fun j v hv=>?_;exact V127
end
section
variable {P:Program} {Γ:Env} {N B:Nat} {M:Nat->Prop} {w0:Start} {ρ:Rho} {s:F_} {a:Act} {w:World} {o:Oper} {ev:Operand->AV} {H:Id->Option AO} {K:Eff->Prop} {KV:AV->Prop}
theorem memI_iff {t:Id}{l:List Id}:mt t l=true↔t∈l:=by
 simp only[mt,A6];constructor
 ·rintro⟨x,h1,h2⟩;rw[idEq_iff]at h2;exact h2▸h1
 ·intro h;exact⟨t,h,idEq_iff.2 rfl⟩
theorem nodupI_iff:∀{l:List Id},jq l=true↔l.Nodup
 | []=>by simp[jq]
 | o::l=>by
  simp only[jq,d5,v4,F5,nodupI_iff (l:=l)];constructor
  ·rintro⟨h1,h2⟩;exact⟨fun h=>(by rw[memI_iff.2 h]at h1;cases h1),h2⟩
  ·rintro⟨h1,h2⟩;refine⟨?_,h2⟩
   cases hb:mt o l with|false=>rfl|true=>exact absurd (memI_iff.1 hb) h1
def Cells (ρ:Rho)(s:F_)(w:World)(ids:List Id)(bad:Nat->Prop)(us:List Value)(ds:List DC):Prop:=
 ∃Fp:Nat->Nat->Prop,us.length=ds.length/\(∀(p:Nat) (v:Value) (d:DC),us[p]?=some v->ds[p]?=some d->RD w (okB ρ s.H w) (Fp p) v d)/\
  (∀p c,Fp p c->(∃o x,o∈ids/\s.H o=some x/\Own ρ o c)/\¬bad c)/\∀p q c,p≠q->Fp p c->¬Fp q c
theorem Cells.mono {ids RU:List Id}{bad Z0:Nat->Prop}{us:List Value}{ds:List DC}(h:Cells ρ s w ids bad us ds)(hi:∀o∈ids,o∈RU)(hb:∀c,Z0 c->bad c):Cells ρ s w RU Z0 us ds:=by
 obtain⟨Fp,h1,h2,h3,h4⟩:=h
 exact⟨Fp,h1,h2,fun p c hc=>by
  obtain⟨⟨o,x,g1,g2,g3⟩,g4⟩:=h3 p c hc
  exact⟨⟨o,x,hi o g1,g2,g3⟩,fun hx=>g4 (hb c hx)⟩,h4⟩
theorem Cells.append (hc:Conc N B M w0 ρ s a w){ids RU:List Id}{bad:Nat->Prop}{us YW:List Value}{ds ds':List DC}(h:Cells ρ s w ids bad us ds)(h':Cells ρ s w RU bad YW ds')(P2:∀o∈ids,o∉RU):
  Cells ρ s w (ids++RU) bad (us++YW) (ds++ds'):=by
 obtain⟨Fp,h1,h2,h3,h4⟩:=h;obtain⟨Fp',h1',h2',UL,Uv⟩:=h';refine⟨fun p c=>(p<us.length/\Fp p c)\/(us.length<=p/\Fp' (p-us.length) c),by simp[h1,h1'],fun p v d hv hd=>?_,fun p c Tx=>?_,fun p q c WT hp hq=>?_⟩
 ·rcases n5 p us.length with O4|QY
  ·rw[l8 O4]at hv;rw[l8 o_]at hd;have:=h2 p v d hv hd;exact this.keep (fun b hb=>⟨rfl,hb⟩) fun b hb=>⟨rfl,.inl ⟨O4,hb⟩⟩
  ·rw[m9 QY]at hv;rw[m9 o_,<-h1]at hd;have:=h2' _ v d hv hd;exact this.keep (fun b hb=>⟨rfl,hb⟩) fun b hb=>⟨rfl,.inr ⟨QY,hb⟩⟩
 ·rcases Tx with⟨_,Tx⟩|⟨_,Tx⟩
  ·obtain⟨⟨o,x,g1,g2,g3⟩,g4⟩:=h3 p c Tx;exact⟨⟨o,x,by simp[g1],g2,g3⟩,g4⟩
  ·obtain⟨⟨o,x,g1,g2,g3⟩,g4⟩:=UL _ c Tx;exact⟨⟨o,x,by simp[g1],g2,g3⟩,g4⟩
 ·rcases hp with⟨p1,hp⟩|⟨p1,hp⟩
  ·rcases hq with⟨q1,hq⟩|⟨q1,hq⟩
   ·exact h4 p q c WT hp hq
   ·obtain⟨⟨o,x,g1,g2,g3⟩,_⟩:=h3 p c hp;obtain⟨⟨o',x',Vd,Wg,Xm⟩,_⟩:=UL _ c hq;exact hc.sep o o' x x' c g2 Wg (fun e=>P2 o g1 (e▸Vd)) g3 Xm
  ·rcases hq with⟨q1,hq⟩|⟨q1,hq⟩
   ·obtain⟨⟨o,x,g1,g2,g3⟩,_⟩:=h3 q c hq;obtain⟨⟨o',x',Vd,Wg,Xm⟩,_⟩:=UL _ c hp;exact hc.sep o o' x x' c g2 Wg (fun e=>P2 o g1 (e▸Vd)) g3 Xm
   ·exact Uv _ _ c o_ hp hq
theorem Cells.nil {bad:Nat->Prop}:Cells ρ s w [] bad [] []:=⟨fun _ _=>False,rfl,s_,fun _ _ h=>h.elim,fun _ _ _ _ h=>h.elim⟩
theorem Ia (hc:Conc N B M w0 ρ s a w){q:Id}{fr:Bool}{sz:Nat}{rows:List (List Tr)}(hq:s.H q=some (.arr fr sz rows))(P7:flat rows):DT w (Own ρ q) (ρ q) (.lst sz rows):=by
 obtain⟨hu,g⟩:=hc.arr hq;rcases g with⟨g1,g2⟩|⟨b,cap,cur,e,fz,g1,g2,g3,g4,g5,g6,g7,g8,g9⟩
 ·subst g2;rw[g1];exact .nil _ _
 ·have hb:Own ρ q b:= .inl aat;rw[g1];refine .arr _ b _ cap sz cur e fz rows (fun _ _=>False) hb g2 g3 rfl g4 g5 g6 hu g7.length (fun _ _ h=>h.elim) (fun _ _ _ _ h=>h.elim) fun p v u hv Rp=>?_;have h4:=g7.get p v u hv Rp;obtain⟨row,k1,k2⟩:=G8.1 (c9 Rp);have h5:=P7 row k1 u k2
  cases h4 with|int=>exact .int _ _ _|bool=>exact .bool _ _|str=>exact .str _ _|emp=>exact absurd rfl (h5 _ _)|lst=>exact absurd rfl (h5 _ _)
theorem LX (hc:Conc N B M w0 ρ s a w){q:Id}{sz:Nat}{rows:List (List Tr)}(hq:s.H q=some (.dar sz (aw rows) none)):DT w (Own ρ q) (ρ q) (.lst sz rows):=by
 obtain⟨hu,g⟩:=hc.dar hq;have O2:(aw rows).length=rows.length:=by simp[aw]
 have Rp:∀r∈rows,r.length=sz:=fun r hr=>by
  have:=hu (r.map .d) (q7.2 ⟨r,hr,rfl⟩);simpa using this
 rcases g with⟨g1,g2,_⟩|⟨b,cap,cur,e,fz,Fp,g1,g2,g3,g4,g5,g6,g7,g8,g9,g10⟩
 ·have:rows=[]:=by simpa [aw]using g2
  subst this;rw[g1];exact .nil _ _
 ·have hb:Own ρ q b:= .inl aat;rw[O2]at g1 g4 g9;rw[nT]at g9;rw[g1];refine .arr _ b _ cap sz cur e fz rows Fp hb g2 g3 rfl g4 g5 g6 Rp (by rw[g9.1,d9]) (fun p c h=>⟨.inr (g7 p c h).1,(g7 p c h).2⟩) g8 fun p v u hv Xp=>?_;have:=g9.2 p v (.d u) hv (by rw[j9,Xp];rfl);simp only[cT]at this;exact this
theorem vy:∀(cs:List AC) (K:List DC->List Id->Prop),lQ H cs K->∃ds ids,K ds ids/\∀{N B:Nat} {M:Nat->Prop} {w0:Start} {ρ:Rho} {s:F_} {a:Act} {w:World},Conc N B M w0 ρ s a w->(∀o∈ids,s.H o=H o)->ids.Nodup->
  ∀vs:List Value,RCs B ρ w (okB ρ s.H w) vs cs->Cells ρ s w ids (fun _=>False) vs ds
 | [],K,h=>⟨[],[],h,fun _ _ _ vs hv=>by
   cases vs with
   | nil=>exact Cells.nil
   | cons=>exact hv.elim⟩
 | c::r,K,h=>by
  have one:∀(d:DC) (ids0:List Id) (rest:lQ H r fun cs ids=>K (d::cs) (ids0++ids)),
    (∀{N B:Nat} {M:Nat->Prop} {w0:Start} {ρ:Rho} {s:F_} {a:Act} {w:World},Conc N B M w0 ρ s a w->(∀o∈ids0,s.H o=H o)->∀v,RC B ρ w (okB ρ s.H w) v c->Cells ρ s w ids0 (fun _=>False) [v] [d])->
    ∃ds ids,K ds ids/\∀{N B:Nat} {M:Nat->Prop} {w0:Start} {ρ:Rho} {s:F_} {a:Act} {w:World},Conc N B M w0 ρ s a w->(∀o∈ids,s.H o=H o)->ids.Nodup->
     ∀vs:List Value,RCs B ρ w (okB ρ s.H w) vs (c::r)->Cells ρ s w ids (fun _=>False) vs ds:=by
   intro d ids0 rest h1;obtain⟨ds,ids,hK,VC⟩:=vy r _ rest;refine⟨d::ds,ids0++ids,hK,fun hc hH T0 vs hv=>?_⟩
   cases vs with
   | nil=>exact hv.elim
   | cons v vs=>have g1:=h1 hc (fun o ho=>hH o aao) v hv.1;have g2:=VC hc (fun o ho=>hH o aao) (E3.1 T0).2.1 vs hv.2;exact g1.append hc g2 fun o ho QL=>(E3.1 T0).2.2 o ho o QL rfl
  have flatC:∀(x:Tr),(∀sz rows,x≠.lst sz rows)->∀{w:World} {ok F:Nat->Prop} {v:Value},RT w ok v x->DT w F v x:=by
   intro x hx w ok F v hv
   cases hv with|int=>exact .int _ _ _|bool=>exact .bool _ _|str=>exact .str _ _|emp=>exact absurd rfl (hx _ _)|lst=>exact absurd rfl (hx _ _)
  have plain:∀(d:DC),(∀{B:Nat} {ρ:Rho} {s:F_} {w:World} (v:Value),RC B ρ w (okB ρ s.H w) v c->RD w (okB ρ s.H w) (fun _=>False) v d)->
    ∀{N B:Nat} {M:Nat->Prop} {w0:Start} {ρ:Rho} {s:F_} {a:Act} {w:World},Conc N B M w0 ρ s a w->(∀o∈([]:List Id),s.H o=H o)->∀v,RC B ρ w (okB ρ s.H w) v c->Cells ρ s w [] (fun _=>False) [v] [d]:=by
   intro d hd N B M w0 ρ s a w hc _ v hv;refine⟨fun _ _=>False,rfl,fun p v' d' h1 h2=>?_,fun _ _ h=>h.elim,fun _ _ _ _ h=>h.elim⟩
   cases p with|zero=>simp at h1 h2;subst h1;subst h2;exact hd v hv|succ p=>simp at h1
  have owned:∀(q:Id) (t:Tr),c= .own q->(∀{N B:Nat} {M:Nat->Prop} {w0:Start} {ρ:Rho} {s:F_} {a:Act} {w:World},Conc N B M w0 ρ s a w->s.H q=H q->DT w (Own ρ q) (ρ q) t/\∃x,s.H q=some x)->
    ∀{N B:Nat} {M:Nat->Prop} {w0:Start} {ρ:Rho} {s:F_} {a:Act} {w:World},Conc N B M w0 ρ s a w->(∀o∈[q],s.H o=H o)->∀v,RC B ρ w (okB ρ s.H w) v c->Cells ρ s w [q] (fun _=>False) [v] [.d t]:=by
   intro q t hcq U4 N B M w0 ρ s a w hc hH v hv;subst hcq;obtain⟨g1,x,g2⟩:=U4 hc (hH q s_);obtain⟨_,rfl⟩:=hv;refine⟨fun p c=>p=0/\Own ρ q c,rfl,fun p v' d' h1 h2=>?_,fun p c h=>⟨⟨q,x,s_,g2,h.2⟩,fun h=>h⟩,fun p p' c P2 h1 h2=>P2 (h1.1.trans h2.1.symm)⟩
   cases p with
   | zero=>simp at h1 h2;subst h1;subst h2;exact g1.mono fun c hc=>⟨rfl,hc⟩
   | succ p=>simp at h1
  cases c with
  | t x=>
   simp only[lQ]at h
   cases x with|lst sz rows=>exact one _ [] h (plain (.t (.lst sz rows)) fun v hv=>hv)|int k n=>exact one _ [] h (plain (.d (.int k n)) fun v hv=>flatC _ s_ hv)|bool b=>exact one _ [] h (plain (.d (.bool b)) fun v hv=>flatC _ s_ hv)|str b=>exact one _ [] h (plain (.d (.str b)) fun v hv=>flatC _ s_ hv)
  | f x=>
   simp only[lQ]at h
   cases x with|lst sz rows=>exact one _ [] h (plain (.t (.lst sz rows)) fun v hv=>RT.keep (show RT _ _ v _ from hv) ox)|int k n=>exact one _ [] h (plain (.d (.int k n)) fun v hv=>flatC _ s_ hv)|bool b=>exact one _ [] h (plain (.d (.bool b)) fun v hv=>flatC _ s_ hv)|str b=>exact one _ [] h (plain (.d (.str b)) fun v hv=>flatC _ s_ hv)
  | nils sz=>
   simp only[lQ]at h
   exact one _ [] h (plain (.d (.lst sz [])) fun v hv=>by
    have:v= .slice none 0 0:=hv
    subst this;exact .nil _ _)
  | own q=>
   simp only[lQ]at h;split at h
   ·rename_i fr sz rows hq;exact one _ [q] h.2 (owned q _ rfl fun hc hH=>⟨Ia hc (hH.trans hq) h.1,_,hH.trans hq⟩)
   ·rename_i sz rows hq;obtain⟨rows',rfl,h⟩:=h;exact one _ [q] h (owned q _ rfl fun hc hH=>⟨LX hc (hH.trans hq),_,hH.trans hq⟩)
   ·exact h.elim
  | nilp=>simp[lQ]at h
  | sub=>simp[lQ]at h
  | ptr=>simp[lQ]at h
  | opq=>simp[lQ]at h
  | mpv=>simp[lQ]at h
theorem Conc.newDar (h:Conc N B M w0 ρ s a w){d:Nat}(hd:d<N)(hU:¬s.U d)(rm:List Id){w':World}{D:Nat->Prop}(hT:Turn D w w'){b cap sz:Nat}{us:Array Value}{e:TypeId}{fz:Nat×Nat}{rows:List (List DC)}
  (hD:∀k,D k->k=b/\∃o x',o∈rm/\s.H o=some x'/\Own ρ o k) (hb:w.heap.size<=b\/∃o x',o∈rm/\s.H o=some x'/\Own ρ o b)
  (hh:w'.heap[b]?=some (.cells us e fz)) (hf:cM us.size fz) (hu:∀r∈rows,r.length=sz) (h1:rows.length<=cap) (h2:cap<=maxLen) (h3:us.size=cap*sz)
  (QH:Cells ρ s w rm (fun c=>c=b) (us.toList.take (rows.length*sz)) rows.flatten) (R:List Id):
  ∃ρ',Conc N B M w0 ρ' (s.app (some d) ⟨.r (.c (.own (d,0,0))),rm.map (fun r=>(r,none))++[((d,0,0),some (.dar sz rows none))],some d,R⟩) (a.put (some d) (.slice (some ⟨b,0,none⟩) rows.length cap)) w':=by
 have O4:b<w'.heap.size:=(E5.1 hh).1;obtain⟨Fp,c1,c2,c3,c4⟩:=QH;refine h.make hd hU (D:=D) rm hT (v:= .slice (some ⟨b,0,none⟩) rows.length cap) (fun c=>∃p,Fp p c) (fun k hk=>(hD k hk).2) (fun b' Rc=>?_) (fun c hc=>by obtain⟨p,hp⟩:=hc;exact(c3 p c hp).1) (fun id O9=>by simp[AO.ids]at O9) (fun id O9=>?_) (fun ρ' ok' hk TP hρ hq hF=>⟨?_,?_⟩)
 ·injection Rc with Rc;subst Rc;exact⟨O4,hb⟩
 ·simp[AV.ids,AR.ids,AC.ids]at O9;left;rw[O9]
 ·refine⟨hu,.inr ⟨b,cap,us,e,fz,Fp,hq,hh,hf,h1,h2,h3,fun p c hc=>⟨hF c ⟨p,hc⟩,(c3 p c hc).2⟩,c4,c1,fun p v dd hv Wz=>?_⟩⟩;simp only[cT];refine(c2 p v dd hv Wz).keep hk fun c hc=>⟨?_,hc⟩;obtain⟨⟨o,x,g1,g2,g3⟩,g4⟩:=c3 p c hc;exact hT.block c (h.rng o x c g2 g3).1 fun hDc=>g4 (hD c hDc).1
 ·exact⟨⟨_,_,_,hq⟩,hq.symm⟩
end
section
variable {P:Program} {Γ:Env} {N B:Nat} {M:Nat->Prop} {w0:Start} {ρ:Rho} {s:F_} {a:Act} {w:World} {o:Oper} {ev:Operand->AV} {H:Id->Option AO} {K:Eff->Prop} {KV:AV->Prop}
theorem HH {T U ty e:TypeId}{i:TypeInfo}{z:Value}{du:TypeDesc}(hu:P.underlying T=some (.slice e))(WM:P.underlying U=some du)(hk:kC du=none)(hi:P.info? e=some i)(hz:i.zero=some z)(UZ:z.cells.size=i.size)
  (sv x:Value) (n m:Nat) (olds nv:List Value)
  (hs:(sv= .slice none 0 0/\n=0/\olds=[])\/∃b cap cur e' fz,sv= .slice (some ⟨b,0,none⟩) n cap/\w.heap[b]?=some (.cells cur e' fz)/\cM cur.size fz/\n<=cap/\cap<=maxLen/\cur.size=cap*i.size/\olds=cur.toList.take (n*i.size))
  (hl:∀w',(Builtin.lenOf x).run P w'= .ok m w') (hf:∀w',w'.heap=w.heap->(Builtin.firstCells i.size m x).run P w'= .ok nv.toArray w') (RQ:nv.length=m*i.size) (Rz:∀v∈nv,v.oneCell'=true)
  (hmx:n+m<=9223372036854775807) (hby:(n+m)*i.bytes<=140737488355328):
  ∃v w',(Builtin.append_ #[T,U] ty #[sv,x]).run P w= .ok v w'/\
   ((
    v= .slice none 0 0/\w'=w/\n=0/\m=0/\sv= .slice none 0 0)\/∃b' SO QX e'' XU D,v= .slice (some ⟨b',0,none⟩) (n+m) SO/\Turn D w w'/\w'.heap[b']?=some (.cells QX e'' XU)/\cM QX.size XU/\n+m<=SO/\SO<=maxLen/\QX.size=SO*i.size/\
    QX.toList.take ((n+m)*i.size)=olds++nv/\((w.heap.size<=b'/\∀k,¬D k)\/(blk sv=some b'/\∀k,D k->k=b'))):=by
 have Yp:n+m<=maxLen:=by unfold maxLen;omega
 have grow:∀(A:Option Addr) (sCap:Nat),sCap<n+m->olds.length=n*i.size->(Builtin.firstCells i.size n (.slice A n sCap)).run P w.drew= .ok olds.toArray w.drew->sv= .slice A n sCap->
   ∃v w',(Builtin.append_ #[T,U] ty #[sv,x]).run P w= .ok v w'/\
   ((
    v= .slice none 0 0/\w'=w/\n=0/\m=0/\sv= .slice none 0 0)\/∃b' SO QX e'' XU D,v= .slice (some ⟨b',0,none⟩) (n+m) SO/\Turn D w w'/\w'.heap[b']?=some (.cells QX e'' XU)/\cM QX.size XU/\n+m<=SO/\SO<=maxLen/\QX.size=SO*i.size/\
    QX.toList.take ((n+m)*i.size)=olds++nv/\((w.heap.size<=b'/\∀k,¬D k)\/(blk sv=some b'/\∀k,D k->k=b'))):=by
  intro A sCap O4 Tk Tn Uf;have P1:=pw (w:=w) (ty:=ty) hu WM hk hi hz x A n sCap m olds nv hl (hf _ rfl) Tn O4 hmx hby;have QY:=grownCap_ge w (n+m) sCap e;have P6:=grownCap_le_maxLen w (n+m) sCap e Yp;generalize grownCap w (n+m) sCap e=gc at P1 QY P6;rw[Uf];refine⟨_,_,P1,.inr ⟨w.heap.size,gc,olds.toArray++nv.toArray++Builtin.zeroCells z.cells (gc-(n+m)),e,(0,0),fun _=>False,s_,(Turn.drew _ w).trans (Turn.alloc _ _ _),heap_alloc_new w.drew _,eL _,QY,P6,?_,?_,.inl ⟨d7 _,fun _ h=>h⟩⟩⟩
  ·simp only[Array.size_append,B3,size_zeroCells,UZ,Tk,RQ];rw[<-p8,<-p8];congr 1;omega
  ·rw[p8,<-Tk,<-RQ,<-c7];simp only[B6,l9];rw[<-l9,H7]
 rcases hs with⟨rfl,rfl,rfl⟩|⟨b,cap,cur,e',fz,rfl,hb,hfz,P6,hcm,Ug,rfl⟩
 ·by_cases h0:m=0
  ·subst h0;have ZN:nv=[]:=x7 (by simpa using RQ);subst ZN;refine⟨.slice none 0 0,w,?_,.inl ⟨rfl,rfl,rfl,rfl,rfl⟩⟩;unfold Builtin.append_;simp only[D9,f9,j8,n6,run_underlying hu,run_underlying WM,j7,dg hi,o9];have TB:=hf w rfl
   cases du
   case int=>simp[kC]at hk
   all_goals simp[hl]at TB⊢;simp[TB]
  ·exact grow none 0 o_ s_ (by simp[Builtin.firstCells]) rfl
 ·have Tk:(cur.toList.take (n*i.size)).length=n*i.size:=by rw[k0,Array.length_toList,Ug];exact z7 (m5 _ P6)
  by_cases QG:n+m<=cap
  ·have P1:=qT (w:=w) (ty:=ty) hu WM hk hi x b n cap m nv hl (hf w rfl) QG hb hfz (by rw[RQ,Ug,<-p8];exact m5 _ QG) Rz;obtain⟨QX,g1,g2,g3⟩:=fE b e' fz nv (n*i.size) w cur hb (by rw[RQ,Ug,<-p8];exact m5 _ QG);refine⟨_,_,P1,.inr ⟨b,cap,QX,e',fz,fun k=>k=b,rfl,fB b nv (n*i.size) w,g1,by rw[g2];exact hfz,QG,hcm,by rw[g2,Ug],?_,.inr ⟨rfl,fun _ h=>h⟩⟩⟩;rw[g3,p8,l9,<-l9,<-RQ];have e0:n*i.size+nv.length=(cur.toList.take (n*i.size)++nv).length:=(by rw[c7,Tk]);rw[e0,H7]
  ·refine grow (some ⟨b,0,none⟩) cap o_ Tk ?_ rfl;refine run_firstCells_some w.drew i.size n ⟨b,0,none⟩ n cap _ Tk fun j v hv=>?_;exact V127
theorem RTs.cellsT {ok:Nat->Prop}{us:List Value}{ts:List Tr}{bad:Nat->Prop}(h:RTs w ok us ts)(O7:∀b,ok b->okB ρ s.H w b):Cells ρ s w [] bad us (ts.map .t):=by refine⟨fun _ _=>False,by rw[d9];exact h.length,fun p v d hv hd=>?_,fun _ _ h=>h.elim,fun _ _ _ _ h=>h.elim⟩;rw[j9,v7]at hd;obtain⟨u,hu,rfl⟩:=hd;exact(h.get p v u hv hu).keep fun b hb=>⟨rfl,O7 b hb⟩
theorem vg {esz:Nat}{x:Operand}{K2:List (List DC)->List Id->List Id->Prop}(h:Lh esz (ev x) H K2):∃news rm R,K2 news rm R/\
  ∀(N B:Nat) (M:Nat->Prop) (w0:Start) (ρ:Rho) (s:F_) (a:Act) (w:World),Conc N B M w0 ρ s a w->evL s.L x=ev x->(∀id∈rm++R,s.H id=H id)->
   ∃nv,(∀(P:Program) (w':World),(Builtin.lenOf (a.eval x)).run P w'= .ok news.length w')/\(∀(P:Program) (w':World),w'.heap=w.heap->(Builtin.firstCells esz news.length (a.eval x)).run P w'= .ok nv.toArray w')/\
    (∀r∈news,r.length=esz)/\(∀v∈nv,v.oneCell'=true)/\∀bad:Nat->Prop,(∀o x c,o∈rm->s.H o=some x->Own ρ o c->¬bad c)->Cells ρ s w rm bad nv news.flatten:=by
 have plain:∀(y:AV),ev x=y->(iV esz y H fun _ rows R=>K2 (rows.map (·.map .t)) [] R)->∃news rm R,K2 news rm R/\
  ∀(N B:Nat) (M:Nat->Prop) (w0:Start) (ρ:Rho) (s:F_) (a:Act) (w:World),Conc N B M w0 ρ s a w->evL s.L x=ev x->(∀id∈rm++R,s.H id=H id)->
   ∃nv,(∀(P:Program) (w':World),(Builtin.lenOf (a.eval x)).run P w'= .ok news.length w')/\(∀(P:Program) (w':World),w'.heap=w.heap->(Builtin.firstCells esz news.length (a.eval x)).run P w'= .ok nv.toArray w')/\
    (∀r∈news,r.length=esz)/\(∀v∈nv,v.oneCell'=true)/\∀bad:Nat->Prop,(∀o x c,o∈rm->s.H o=some x->Own ρ o c->¬bad c)->Cells ρ s w rm bad nv news.flatten:=by
  intro y hy h;rw[<-hy]at h;obtain⟨fr,rows,R,hK,So⟩:=zT h;refine⟨_,[],R,hK,fun N B M w0 ρ s a w hc RS hR=>?_⟩;obtain⟨nv,g1,g2,g3,g4⟩:=So N B M w0 ρ s a w hc RS (fun id O9=>hR id (by simpa using O9));refine⟨nv,by simpa using g1,by simpa using g2,fun r hr=>?_,g3.one,fun bad _=>?_⟩
  ·obtain⟨r',h1,rfl⟩:=q7.1 hr;simpa using g4 r' h1
  ·rw[<-I1];exact g3.cellsT fun b hb=>hb.1
 unfold Lh at h;split at h
 ·rename_i q hx;split at h
  ·rename_i sz rows hq;obtain⟨rfl,hK⟩:=h;refine⟨rows,[q],[],hK,fun N B M w0 ρ s a w hc RS hR=>?_⟩;have P4:s.H q=some (.dar sz rows none):=(by rw[hR q s_];exact hq);have hv:=(hc.eval x).1;rw[RS,hx]at hv;obtain⟨_,e1⟩:=hv;obtain⟨hu,g⟩:=hc.dar P4;rcases g with⟨g1,g2,_⟩|⟨b,cap,cur,e,fz,Fp,g1,g2,g3,g4,g5,g6,g7,g8,g9,g10⟩
   ·subst g2;rw[e1,g1];exact⟨[],fun P w'=>by simp[Builtin.lenOf],fun P w' _=>by simp[Builtin.firstCells],s_,s_,fun bad _=>Cells.nil.mono s_ (fun _ h=>h)⟩
   ·rw[e1,g1];have P7:=bm sz rows hu;refine⟨cur.toList.take (rows.length*sz),fun P w'=>by simp[Builtin.lenOf],fun P w' e=>?_,hu,fun v hv=>?_,fun bad UV=>?_⟩
    ·refine run_firstCells_some w' sz rows.length ⟨b,0,none⟩ rows.length cap _ (by rw[g9.1,P7]) fun j v hv=>?_;have:=g10 j v hv;unfold World.cell? at this⊢;rw[e];exact this
    ·obtain⟨p,hp⟩:=C4 hv
     have O4:p<rows.flatten.length:=by
      rw[<-g9.1];rcases n5 p (cur.toList.take (rows.length*sz)).length with h|h
      ·exact h
      ·rw[e9 h]at hp;cases hp
     have:=g9.2 p v _ hp (i9 O4);simp only[cT]at this;generalize rows.flatten[p]=dd at this
     cases dd with|t x=>exact RT.one this|d x=>exact DT.one this
    ·refine⟨Fp,g9.1,fun p v d hv hd=>?_,fun p c O8=>⟨⟨q,_,s_,P4,.inr (g7 p c O8).1⟩,UV q _ c s_ P4 (.inr (g7 p c O8).1)⟩,g8⟩;have:=g9.2 p v d hv hd;simpa only[cT]using this
  ·exact plain (ev x) rfl h
 ·exact plain _ rfl h
theorem Conc.appendD (h:Conc N B M w0 ρ s a w){T U e ty:TypeId}{d:Nat}{te:Qp}{ie:TypeInfo}{de du:TypeDesc}(hu:P.underlying T=some (.slice e))(fite:te.Fit P e ie de)(WM:P.underlying U=some du)(hk:kC du=none)
  (hd:d<N) (hU:¬s.U d) (rm TF:List Id) (rows news:List (List DC)) (sv x:Value) (hun:∀r∈news,r.length=te.size) (hur:∀r∈rows,r.length=te.size) (P2:∀o∈rm,o∉TF)
  (hs:(sv= .slice none 0 0/\rows=[])\/∃b cap cur e' fz,sv= .slice (some ⟨b,0,none⟩) rows.length cap/\w.heap[b]?=some (.cells cur e' fz)/\cM cur.size fz/\rows.length<=cap/\cap<=maxLen/\cur.size=cap*te.size/\
   Cells ρ s w rm (fun c=>c=b) (cur.toList.take (rows.length*te.size)) rows.flatten/\∃o x',o∈rm/\s.H o=some x'/\blk (ρ o)=some b)
  (nv:List Value) (hl:∀w',(Builtin.lenOf x).run P w'= .ok news.length w') (hf:∀w',w'.heap=w.heap->(Builtin.firstCells te.size news.length x).run P w'= .ok nv.toArray w') (Rz:∀v∈nv,v.oneCell'=true)
  (hnc:∀bad:Nat->Prop,(∀o x c,o∈TF->s.H o=some x->Own ρ o c->¬bad c)->Cells ρ s w TF bad nv news.flatten)
  (Re:fits (rows.length+news.length) te.bytes) (R:List Id):
  ∃v w' ρ',(Builtin.append_ #[T,U] ty #[sv,x]).run P w= .ok v w'/\Conc N B M w0 ρ' (s.app (some d) ⟨.r (.c (.own (d,0,0))),(rm++TF).map (fun r=>(r,none))++[((d,0,0),some (.dar te.size (rows++news) none))],some d,R⟩) (a.put (some d) v) w':=by
 obtain⟨z,hz,hm⟩:=fite.zero
 have UZ:z.cells.size=te.size:=by have h1:=(eX (B:=B) (ρ:=ρ) (w:=w) (ok:=fun _=>True) hm).length;rw[fite.zlen]at h1;simpa using h1
 have RQ:nv.length=news.length*te.size:=by obtain⟨Fp,h1,_⟩:=hnc (fun _=>False) (fun _ _ _ _ _ _ h=>h);rw[h1,bm te.size news hun]
 have QK:∀bad:Nat->Prop,(∀c,bad c->¬∃o x,o∈TF/\s.H o=some x/\Own ρ o c)->Cells ρ s w TF bad nv news.flatten:=fun bad hb=>hnc bad fun o x c h1 h2 h3 h4=>hb c h4 ⟨o,x,h1,h2,h3⟩
 obtain⟨olds,hs⟩:∃olds,(sv= .slice none 0 0/\rows=[]/\olds=[])\/∃b cap cur e' fz,sv= .slice (some ⟨b,0,none⟩) rows.length cap/\w.heap[b]?=some (.cells cur e' fz)/\cM cur.size fz/\rows.length<=cap/\cap<=maxLen/\cur.size=cap*te.size/\
   Cells ρ s w rm (fun c=>c=b) olds rows.flatten/\(∃o x',o∈rm/\s.H o=some x'/\blk (ρ o)=some b)/\olds=cur.toList.take (rows.length*te.size):=by
  rcases hs with⟨h1,h2⟩|⟨b,cap,cur,e',fz,h1,h2,h3,h4,h5,h6,h7,h8⟩
  ·exact⟨[],.inl ⟨h1,h2,rfl⟩⟩
  ·exact⟨_,.inr ⟨b,cap,cur,e',fz,h1,h2,h3,h4,h5,h6,h7,h8,rfl⟩⟩
 obtain⟨v,w',P1,YV⟩:=HH (w:=w) (ty:=ty) hu WM hk fite.info hz (by rw[fite.size];exact UZ) sv x rows.length news.length olds nv
  (by
   rcases hs with⟨h1,h2,h3⟩|⟨b,cap,cur,e',fz,h1,h2,h3,h4,h5,h6,_,_,h9⟩
   ·exact .inl ⟨h1,by rw[h2];rfl,h3⟩
   ·exact .inr ⟨b,cap,cur,e',fz,h1,h2,h3,h4,h5,by rw[fite.size];exact h6,by rw[fite.size];exact h9⟩) hl (by rw[fite.size];exact hf) (by rw[fite.size];exact RQ) Rz Re.2 (by rw[fite.bytes];exact Re.1)
 refine⟨v,w',?_⟩;have huu:∀r∈rows++news,r.length=te.size:=fun r hr=>(f0.1 hr).elim (hur r) (hun r);have P7:(rows++news).flatten=rows.flatten++news.flatten:=s_;rcases YV with⟨rfl,rfl,hn0,hm0,_⟩|⟨b',SO,QX,e'',XU,D,rfl,hT,g1,g2,g3,g4,g5,g6,g7⟩
 ·have e1:rows=[]:=x7 hn0;have e2:news=[]:=x7 hm0;subst e1;subst e2
  obtain⟨ρ',h'⟩:=h.make hd hU (D:=fun _=>False) (rm++TF) (Turn.refl _ w') (v:= .slice none 0 0) (vv:= .slice none 0 0) (x:= .dar te.size ([]++[]) none) (av:= .r (.c (.own (d,0,0)))) (R:=R) (fun _=>False) (fun _ h=>h.elim) (fun b hb=>by cases hb) (fun _ h=>h.elim) (fun id O9=>by simp[AO.ids]at O9)
   (fun id O9=>by simp[AV.ids,AR.ids,AC.ids]at O9;left;rw[O9]) (fun ρ' ok' hk _ hρ hq _=>⟨⟨s_,.inl ⟨hq,rfl,rfl⟩⟩,⟨_,_,_,hq⟩,hq.symm⟩)
  exact⟨ρ',P1,h'⟩
 ·rw[fite.size]at g5 g6
  have QH:∀bad:Nat->Prop,(∀c,bad c->c=b')->Cells ρ s w (rm++TF) bad (QX.toList.take ((rows++news).length*te.size)) (rows++news).flatten:=by
   intro bad UV;rw[c7,g6,P7];rcases hs with⟨h1,h2,h0⟩|⟨b,cap,cur,e',fz,h1,h2,h3,h4,h5,h6,h7,⟨o,x',k1,k2,k3⟩,h0⟩
   ·subst h1;subst h2;subst h0;rcases g7 with⟨g7,_⟩|⟨g7,_⟩
    ·refine Cells.append h (Cells.nil.mono s_ (fun _ h=>h)) (QK bad fun c Rc ⟨o1,x1,m1,m2,m3⟩=>?_) P2;have:=(h.rng o1 x1 c m2 m3).1;rw[UV c Rc]at this;omega
    ·cases g7
   ·subst h1;have SS:blk (ρ o)=some b:=k3
    have Sg:∀c,bad c->c=b\/w.heap.size<=c:=fun c hc=>by
     rw[UV c hc];rcases g7 with⟨g7,_⟩|⟨g7,_⟩
     ·exact .inr g7
     ·have:b=b':=(by simpa [blk]using g7);exact .inl this.symm
    obtain⟨Fp,c1,c2,c3,c4⟩:=h7;refine Cells.append h ⟨Fp,c1,c2,fun p c hc=>⟨(c3 p c hc).1,fun hx=>?_⟩,c4⟩ (QK bad fun c Rc ⟨o1,x1,m1,m2,m3⟩=>?_) P2
    ·rcases Sg c hx with e|e
     ·exact(c3 p c hc).2 e
     ·obtain⟨⟨o2,x2,m1,m2,m3⟩,_⟩:=c3 p c hc;have:=(h.rng o2 x2 c m2 m3).1;omega
    ·rcases Sg c Rc with e|e
     ·subst e;exact h.sep o o1 x' x1 c k2 m2 (fun e=>P2 o k1 (e▸m1)) (.inl k3) m3
     ·have:=(h.rng o1 x1 c m2 m3).1;omega
  obtain⟨ρ',h'⟩:=h.newDar hd hU (rm++TF) hT (b:=b') (cap:=SO) (sz:=te.size) (us:=QX) (e:=e'') (fz:=XU) (rows:=rows++news)
   (fun k hk=>by
    rcases g7 with⟨_,g7⟩|⟨g7,g8⟩
    ·exact absurd hk (g7 k)
    ·refine⟨g8 k hk,?_⟩;rw[g8 k hk];rcases hs with⟨h1,h2,h0⟩|⟨b,cap,cur,e',fz,h1,h2,h3,h4,h5,h6,h7,⟨o,x',k1,k2,k3⟩,h0⟩
     ·subst h1;cases g7
     ·subst h1;have:b=b':=(by simpa [blk]using g7);subst this
      exact⟨o,x',by simp[k1],k2,.inl k3⟩)
   (by
    rcases g7 with⟨g7,_⟩|⟨g7,_⟩
    ·exact .inl g7
    ·rcases hs with⟨h1,h2,h0⟩|⟨b,cap,cur,e',fz,h1,h2,h3,h4,h5,h6,h7,⟨o,x',k1,k2,k3⟩,h0⟩
     ·subst h1;cases g7
     ·subst h1;have:b=b':=(by simpa [blk]using g7);subst this
      exact .inr ⟨o,x',by simp[k1],k2,.inl k3⟩) g1 g2 huu (by simpa using g3) g4 g5 (QH _ fun _ h=>h) R
  exact⟨ρ',P1,by simpa using h'⟩
theorem V86{p:Prop}(h:p:=by
 have P1:(execOp a.eval o).run P w= .ok (.value v) w':=by simp[execOp,ho,resolve,invoke,builtin,r1]
 unfold Oper.wp;rw[P1];show K (a.put o.dst _) _;rw[QU]
 exact hK _ _ ρ' r2):p:=h
theorem V124{p:Prop}(h:p:=by
 subst g2;have:k=0:=by simpa using QV
 subst this;rw[g1]at e0;injection e0 with x1 x2 x3;subst x1;subst x3
 exact .inl ⟨e1,s_⟩):p:=h
theorem CT {T U e:TypeId}{d:Nat}{sx x:Operand}{ti tu te:Qp}(hΓ:Γ.chk P=true)(hT:Γ.get T=some ti)(hTU:Γ.get U=some tu)(he:ti.elem=some e)(hk:tu.kind=none)(hE:Γ.get e=some te)(QU:o.dst=some d)
  (ho:o.op= .call {callee:= .builtin .append,args:=#[sx,x],argTypes:=#[T,U]}) (h:vn d te.size te.bytes (ev sx) (ev x) H K):∃ef,K ef/\Good P o ev H ef:=by
 obtain⟨ii,dd,fit⟩:=Env.fit hΓ hT;obtain⟨iu,du,fitu⟩:=Env.fit hΓ hTU;obtain⟨ie,de,fite⟩:=Env.fit hΓ hE;have hd:=oD fit he;subst hd;have P3:x∈o.op.operands.toList:=by simp[ho,Op.operands,Call.operands]
 have aaP:sx∈o.op.operands.toList:=by simp[ho,Op.operands,Call.operands]
 have U3:kC du=none:=fitu.kind.trans hk
 have fin:∀(rm:List Id) (rows news:List (List Tr)) (fr fr':Bool) (R R':List Id),
   (∀(N B:Nat) (M:Nat->Prop) (w0:Start) (ρ:Rho) (s:F_) (a:Act) (w:World),Conc N B M w0 ρ s a w->evL s.L sx=ev sx->(∀id∈R',s.H id=H id)->
    (∀r∈rows,r.length=te.size)/\((a.eval sx= .slice none 0 0/\rows=[])\/∃b cap cur e' fz,a.eval sx= .slice (some ⟨b,0,none⟩) rows.length cap/\w.heap[b]?=some (.cells cur e' fz)/\cM cur.size fz/\rows.length<=cap/\cap<=maxLen/\cur.size=cap*te.size/\
     RTs w (okF B (okB ρ s.H w) fr) (cur.toList.take (rows.length*te.size)) rows.flatten/\(fr=true->B<=b)/\∃o x',o∈rm/\s.H o=some x'/\Own ρ o b))->
   (∀(N B:Nat) (M:Nat->Prop) (w0:Start) (ρ:Rho) (s:F_) (a:Act) (w:World),Conc N B M w0 ρ s a w->evL s.L x=ev x->(∀id∈R,s.H id=H id)->
    ∃nv,(∀(P:Program) (w':World),(Builtin.lenOf (a.eval x)).run P w'= .ok news.length w')/\(∀(P:Program) (w':World),w'.heap=w.heap->(Builtin.firstCells te.size news.length (a.eval x)).run P w'= .ok nv.toArray w')/\
    RTs w (okF B (okB ρ s.H w) fr') nv news.flatten/\∀r∈news,r.length=te.size)->fits (rows.length+news.length) te.bytes->(∀id∈R,id∈R')->
   Good P o ev H ⟨.r (.c (.own (d,0,0))),rm.map (fun r=>(r,none))++[((d,0,0),some (.arr (fr&&fr') te.size (rows++news)))],some d,R'⟩:=by
  intro rm rows news fr fr' R R' h1 h2 Re Ra N B M w0 ρ s a w Q K hc O3 hR QT hd hK;rw[QU]at hd hK;obtain⟨g1,g2⟩:=h1 N B M w0 ρ s a w hc (O3 sx aaP) hR;obtain⟨nv,f1,f2,f3,f4⟩:=h2 N B M w0 ρ s a w hc (O3 x P3) (fun id O9=>hR id (Ra id O9));obtain⟨v,w',ρ',r1,r2⟩:=hc.append fit.und fite fitu.und U3 (hd d rfl) (QT d rfl) rm rows news fr fr' o.type (a.eval sx) (a.eval x) f4 g1 g2 nv (f1 P) (f2 P) f3 Re R' (i:=ii);exact V86
 have finD:∀(rm TF:List Id) (rows news:List (List DC)) (R R':List Id),(∀o∈rm,o∉TF)->
   (∀(N B:Nat) (M:Nat->Prop) (w0:Start) (ρ:Rho) (s:F_) (a:Act) (w:World),Conc N B M w0 ρ s a w->evL s.L sx=ev sx->(∀id∈R',s.H id=H id)->
    (∀r∈rows,r.length=te.size)/\((a.eval sx= .slice none 0 0/\rows=[])\/∃b cap cur e' fz,a.eval sx= .slice (some ⟨b,0,none⟩) rows.length cap/\w.heap[b]?=some (.cells cur e' fz)/\cM cur.size fz/\rows.length<=cap/\cap<=maxLen/\cur.size=cap*te.size/\
     Cells ρ s w rm (fun c=>c=b) (cur.toList.take (rows.length*te.size)) rows.flatten/\∃o x',o∈rm/\s.H o=some x'/\blk (ρ o)=some b))->
   (∀(N B:Nat) (M:Nat->Prop) (w0:Start) (ρ:Rho) (s:F_) (a:Act) (w:World),Conc N B M w0 ρ s a w->evL s.L x=ev x->(∀id∈TF++R,s.H id=H id)->
    ∃nv,(∀(P:Program) (w':World),(Builtin.lenOf (a.eval x)).run P w'= .ok news.length w')/\(∀(P:Program) (w':World),w'.heap=w.heap->(Builtin.firstCells te.size news.length (a.eval x)).run P w'= .ok nv.toArray w')/\
    (∀r∈news,r.length=te.size)/\(∀v∈nv,v.oneCell'=true)/\∀bad:Nat->Prop,(∀o x c,o∈TF->s.H o=some x->Own ρ o c->¬bad c)->Cells ρ s w TF bad nv news.flatten)->fits (rows.length+news.length) te.bytes->(∀id∈TF++R,id∈R')->
   Good P o ev H ⟨.r (.c (.own (d,0,0))),(rm++TF).map (fun r=>(r,none))++[((d,0,0),some (.dar te.size (rows++news) none))],some d,R'⟩:=by
  intro rm TF rows news R R' P2 h1 h2 Re Ra N B M w0 ρ s a w Q K hc O3 hR QT hd hK;rw[QU]at hd hK;obtain⟨g1,g2⟩:=h1 N B M w0 ρ s a w hc (O3 sx aaP) hR;obtain⟨nv,f1,f2,f3,f4,f5⟩:=h2 N B M w0 ρ s a w hc (O3 x P3) (fun id O9=>hR id (Ra id O9));obtain⟨v,w',ρ',r1,r2⟩:=hc.appendD (ty:=o.type) fit.und fite fitu.und U3 (hd d rfl) (QT d rfl) rm TF rows news (a.eval sx) (a.eval x) f3 g1 P2 g2 nv (f1 P) (f2 P) f4 f5 Re R';exact V86
 unfold vn at h;split at h
 ·rename_i sz hs;split at h
  ·obtain⟨news,rm,R,⟨Re,hK⟩,So⟩:=vg h;refine⟨_,hK,?_⟩;have:=finD [] rm [] news R (rm++R) s_ (fun N B M w0 ρ s a w hc O3 _=>⟨s_,.inl ⟨by have:=(hc.eval sx).1;rw[O3,hs]at this;exact this,rfl⟩⟩) So (by simpa using Re) (fun _ h=>h);simpa using this
  ·obtain⟨fr',news,R,⟨Re,hK⟩,So⟩:=zT h;refine⟨_,hK,?_⟩;have:=fin [] [] news true fr' R R (fun N B M w0 ρ s a w hc O3 _=>⟨s_,.inl ⟨by have:=(hc.eval sx).1;rw[O3,hs]at this;exact this,rfl⟩⟩) So (by simpa using Re) (fun _ h=>h);simpa using this
 ·rename_i q hs;split at h
  ·rename_i fr sz rows hq;obtain⟨rfl,h⟩:=h;obtain⟨fr',news,R,⟨Re,QR,hK⟩,So⟩:=zT h;refine⟨_,hK,?_⟩
   have:=fin [q] rows news fr fr' R (q::R) (fun N B M w0 ρ s a w hc O3 hR=>by
    have hv:=(hc.eval sx).1;rw[O3,hs]at hv;obtain⟨_,e1⟩:=hv;have P4:s.H q=some (.arr fr te.size rows):=(by rw[hR q s_];exact hq);obtain⟨hu,g⟩:=hc.arr P4;refine⟨hu,?_⟩;rcases g with⟨g1,g2⟩|⟨b,cap,cur,e,fz,g1,g2,g3,g4,g5,g6,g7,g8,g9⟩
    ·exact .inl ⟨e1.trans g1,g2⟩
    ·exact .inr ⟨b,cap,cur,e,fz,e1.trans g1,g2,g3,g4,g5,g6,g7,g9,q,_,s_,P4,.inl aat⟩) So Re (fun id O9=>by simp[O9])
   simpa using this
  ·rename_i sz rows hq;obtain⟨rfl,h⟩:=h;obtain⟨news,rm,R,⟨Re,QR,hK⟩,So⟩:=vg h;refine⟨_,hK,?_⟩;have Yj:q∉rm++R:=fun hm=>by rw[memI_iff.2 hm]at QR;cases QR
   have:=finD [q] rm rows news R (q::(rm++R)) (by simpa using fun h=>Yj abd) (fun N B M w0 ρ s a w hc O3 hR=>by
    have hv:=(hc.eval sx).1;rw[O3,hs]at hv;obtain⟨_,e1⟩:=hv;have P4:s.H q=some (.dar te.size rows none):=(by rw[hR q s_];exact hq);obtain⟨hu,g⟩:=hc.dar P4;refine⟨hu,?_⟩;rcases g with⟨g1,g2,_⟩|⟨b,cap,cur,e,fz,Fp,g1,g2,g3,g4,g5,g6,g7,g8,g9,g10⟩
    ·exact .inl ⟨e1.trans g1,g2⟩
    ·refine .inr ⟨b,cap,cur,e,fz,e1.trans g1,g2,g3,g4,g5,g6,⟨Fp,g9.1,fun p v d hv hd=>?_,fun p c O8=>⟨⟨q,_,s_,P4,.inr (g7 p c O8).1⟩,(g7 p c O8).2⟩,g8⟩,q,_,s_,P4,by rw[g1];rfl⟩;have:=g9.2 p v d hv hd
     simpa only[cT]using this) So Re (fun id O9=>by simp only[d8];exact .inr O9)
   simpa using this
  ·exact h.elim
 ·rename_i q k hs;split at h
  ·rename_i fr sz rows hq;obtain⟨rfl,QV,h⟩:=h;obtain⟨fr',news,R,⟨Re,QR,hK⟩,So⟩:=zT h;refine⟨_,hK,?_⟩;have UQ:(rows.take k).length=k:=by rw[k0];omega
   have:=fin [q] (rows.take k) news fr fr' R (q::R) (fun N B M w0 ρ s a w hc O3 hR=>by
    have hv:=(hc.eval sx).1;rw[O3,hs]at hv;obtain⟨A,n,c,e0,e1,e2⟩:=hv;have P4:s.H q=some (.arr fr te.size rows):=(by rw[hR q s_];exact hq);obtain⟨hu,g⟩:=hc.arr P4;refine⟨fun r hr=>hu r (u5 hr),?_⟩;rcases g with⟨g1,g2⟩|⟨b,cap,cur,e,fz,g1,g2,g3,g4,g5,g6,g7,g8,g9⟩
    ·exact V124
    ·rw[g1]at e0;injection e0 with x1 x2 x3;subst x1;subst x2;subst x3;have P7:(rows.take k).flatten=rows.flatten.take (k*te.size):=(iJ te.size rows k hu QV).symm;have T5:=g7.take (k*te.size);rw[<-P7,G2]at T5;have Yb:min (k*te.size) (rows.length*te.size)=k*te.size:=z7 (m5 _ QV);rw[Yb]at T5
     exact .inr ⟨b,cap,cur,e,fz,by rw[UQ];exact e1,g2,g3,o_,g5,g6,by rw[UQ];exact T5,g9,q,_,s_,P4,.inl aat⟩) So (by rw[UQ];exact Re) (fun id O9=>by simp[O9])
   simpa using this
  ·rename_i sz rows hq;obtain⟨rfl,QV,h⟩:=h;obtain⟨news,rm,R,⟨Re,QR,hK⟩,So⟩:=vg h;refine⟨_,hK,?_⟩;have Yj:q∉rm++R:=fun hm=>by rw[memI_iff.2 hm]at QR;cases QR
   have UQ:(rows.take k).length=k:=by rw[k0];omega
   have:=finD [q] rm (rows.take k) news R (q::(rm++R)) (by simpa using fun h=>Yj abd) (fun N B M w0 ρ s a w hc O3 hR=>by
    have hv:=(hc.eval sx).1;rw[O3,hs]at hv;obtain⟨A,n,c,e0,e1,e2⟩:=hv;have P4:s.H q=some (.dar te.size rows none):=(by rw[hR q s_];exact hq);obtain⟨hu,g⟩:=hc.dar P4;refine⟨fun r hr=>hu r (u5 hr),?_⟩;rcases g with⟨g1,g2,_⟩|⟨b,cap,cur,e,fz,Fp,g1,g2,g3,g4,g5,g6,g7,g8,g9,g10⟩
    ·exact V124
    ·rw[g1]at e0;injection e0 with x1 x2 x3;subst x1;subst x2;subst x3;have P7:(rows.take k).flatten=rows.flatten.take (k*te.size):=(iJ te.size rows k hu QV).symm;have Yb:min (k*te.size) (rows.length*te.size)=k*te.size:=z7 (m5 _ QV);have hus:cur.toList.take (k*te.size)=(cur.toList.take (rows.length*te.size)).take (k*te.size):=(by rw[G2,Yb]);refine .inr ⟨b,cap,cur,e,fz,by rw[UQ];exact e1,g2,g3,o_,g5,g6,⟨Fp,?_,fun p v d hv hd=>?_,fun p c O8=>⟨⟨q,_,s_,P4,.inr (g7 p c O8).1⟩,(g7 p c O8).2⟩,g8⟩,q,_,s_,P4,by rw[g1];rfl⟩
     ·rw[UQ,hus,P7,k0,g9.1,k0]
     ·rw[UQ,hus,n7]at hv;rw[P7,n7]at hd;split at hv
      ·rename_i hp;rw[b9 hp]at hd;have:=g9.2 p v d hv hd;simpa only[cT]using this
      ·cases hv) So (by rw[UQ];exact Re) (fun id O9=>by simp only[d8];exact .inr O9)
   simpa using this
  ·exact h.elim
 ·exact h.elim
theorem uj (z:Array Value)(n:Nat)(h:0<z.size):(madeCells z (n*z.size)).toList=(List.replicate n z.toList).flatten:=by
 apply B4;intro p
 have hl:(List.replicate n z.toList).flatten.length=n*z.size:=by rw[bm z.size _ (by intro r hr;rw[(D4.1 hr).2];simp)];simp
 by_cases hp:p<n*z.size
 ·have h1:(madeCells z (n*z.size)).toList[p]?=some (z[p%z.size]'(I6 _ h)):=by simp[madeCells,hp];rw[getElem!_pos z _ (I6 _ h)]
  rw[h1];have hpd:p=(p/z.size)*z.size+p%z.size:=by rw[Nat.mul_comm];exact(Nat.div_add_mod p z.size).symm
  have O4:p/z.size<n:=(Nat.div_lt_iff_lt_mul h).2 hp;have:=oE z.size (List.replicate n z.toList) (p/z.size) (p%z.size) z.toList (by intro r hr;rw[(D4.1 hr).2];simp) (by simp[O4]) (I6 _ h);rw[<-hpd]at this;rw[this];simp[I6 _ h]
 ·rw[e9 (by simp[madeCells];omega),e9 (by rw[hl];omega)]
theorem RTs.replicate {ok:Nat->Prop}{vs:List Value}{ts:List Tr}(h:RTs w ok vs ts):∀n:Nat,RTs w ok (List.replicate n vs).flatten (List.replicate n ts).flatten
 | 0=>trivial
 | n+1=>by simp only[List.replicate_succ,t7];exact h.append (RTs.replicate h n)
theorem xT {ok':Nat->Prop}:∀{vs:List Value} {cs:List AC} {ts:List Tr} {fr:Bool} {ids:List Id},cY vs cs=true->frz (fun _=>none) cs=some (ts,fr,ids)->RTs w ok' vs ts
 | [],[],ts,fr,ids,_,h=>by simp only[frz,Option.some.injEq,Prod.mk.injEq]at h;obtain⟨rfl,_⟩:=h;trivial
 | v::vs,c::cs,ts,fr,ids,hm,h=>by
  have Xv:=eX (B:=0) (ρ:=⟨fun _=>default,fun _ _=>False,fun _=>True⟩) (w:=w) (ok:=ok') hm;simp only[cY,d5]at hm
  cases c with
  | t x=>
   simp only[frz]at h
   cases hf:frz (fun _=>none) cs with
   | none=>rw[hf]at h;simp at h
   | some p=>
    obtain⟨U1,fr',RU⟩:=p;rw[hf]at h;have ih:=xT (ok':=ok') hm.2 hf
    cases x<;>(simp only[Option.some.injEq,Prod.mk.injEq]at h;obtain⟨rfl,rfl,rfl⟩:=h;exact⟨Xv.1,ih⟩)
  | nils sz=>
   simp only[frz]at h
   cases hf:frz (fun _=>none) cs with
   | none=>rw[hf]at h;simp at h
   | some p=>
    obtain⟨U1,fr',RU⟩:=p;rw[hf]at h;simp only[Option.some.injEq,Prod.mk.injEq]at h;obtain⟨rfl,rfl,rfl⟩:=h;have hx:v= .slice none 0 0:=Xv.1;subst hx
    exact⟨.emp _ _ _ (v9 _),xT hm.2 hf⟩
  | f=>simp[zJ]at hm
  | own=>simp[frz]at h
  | nilp=>simp[frz]at h
  | sub=>simp[frz]at h
  | ptr=>simp[frz]at h
  | opq=>simp[frz]at h
  | mpv=>simp[frz]at h
 | [],_::_,_,_,_,hm,_=>by simp[cY]at hm
 | _::_,[],_,_,_,hm,_=>by simp[cY]at hm
theorem OM:∀{vs:List Value} {cs:List AC} {ts:List Tr} {fr:Bool} {ids:List Id},cY vs cs=true->frz (fun _=>none) cs=some (ts,fr,ids)->∀(w:World) (F:Nat->Prop) (p:Nat) (v:Value) (t:Tr),vs[p]?=some v->ts[p]?=some t->DT w F v t
 | [],[],ts,fr,ids,_,_,w,F,p,v,t,hv,_=>by simp at hv
 | v0::vs,c::cs,ts,fr,ids,hm,h,w,F,p,v,t,hv,ht=>by
  simp only[cY,d5]at hm
  have head:∀(t0:Tr) (rest:List Tr),ts=t0::rest->DT w F v0 t0->(∀(q:Nat) (v:Value) (t:Tr),vs[q]?=some v->rest[q]?=some t->DT w F v t)->DT w F v t:=by
   intro t0 rest e h0 hr;subst e
   cases p with|zero=>simp at hv ht;subst hv;subst ht;exact h0|succ p=>exact hr p v t (by simpa using hv) (by simpa using ht)
  have h1:=hm.1
  cases hf:frz (fun _=>none) cs with
  | none=>cases c<;>simp[frz,hf]at h
  | some q=>
   obtain⟨U1,fr',RU⟩:=q;have RN:=fun q v t=>OM hm.2 hf w F q v t;unfold zJ at h1;split at h1
   ·simp only[d5,i8]at h1;obtain⟨rfl,rfl⟩:=h1;simp only[frz,hf,Option.some.injEq,Prod.mk.injEq]at h;exact head _ _ h.1.symm (.int _ _ _) RN
   ·simp only[w5]at h1;subst h1;simp only[frz,hf,Option.some.injEq,Prod.mk.injEq]at h;exact head _ _ h.1.symm (.bool _ _) RN
   ·rename_i s l;simp only[d5,D0]at h1;obtain⟨h2,rfl⟩:=h1
    have:s=⟨#[]⟩:=by obtain⟨d⟩:=s;have:d=#[]:=(by simpa using h2);rw[this]
    subst this;simp only[frz,hf,Option.some.injEq,Prod.mk.injEq]at h;exact head _ _ h.1.symm (.str _ []) RN
   ·simp only[frz,hf,Option.some.injEq,Prod.mk.injEq]at h;exact head _ _ h.1.symm (.nil _ _) RN
   ·simp[frz]at h
   ·simp[frz]at h
   ·simp[frz]at h
   ·simp[frz]at h
   ·cases h1
 | [],_::_,_,_,_,hm,_,_,_,_,_,_,_,_=>by simp[cY]at hm
 | _::_,[],_,_,_,hm,_,_,_,_,_,_,_,_=>by simp[cY]at hm
theorem Cells.replicate (hc:Conc N B M w0 ρ s a w){bad:Nat->Prop}{vs:List Value}{ds:List DC}(h:Cells ρ s w [] bad vs ds):∀n:Nat,Cells ρ s w [] bad (List.replicate n vs).flatten (List.replicate n ds).flatten
 | 0=>Cells.nil
 | n+1=>by
  simp only[List.replicate_succ,t7];exact Cells.append hc h (Cells.replicate hc h n) s_
theorem Hj {T e:TypeId}{d:Nat}{l c:Operand}{ti te:Qp}(hΓ:Γ.chk P=true)(hT:Γ.get T=some ti)(he:ti.elem=some e)(hE:Γ.get e=some te)(QU:o.dst=some d)
  (ho:o.op= .makeSlice T l c) (h:Dh d te.size te.bytes te.zero (ev l) (ev c) K):∃ef,K ef/\Good P o ev H ef:=by
 obtain⟨ii,dd,fit⟩:=Env.fit hΓ hT;obtain⟨ie,de,fite⟩:=Env.fit hΓ hE;have hd:=oD fit he;subst hd;obtain⟨z,hz,hm⟩:=fite.zero;unfold Dh at h;split at h
 ·rename_i k n k' m zt _ _ hl O8 hzt;obtain⟨j,rfl,rfl,hj,hb,hK⟩:=h;split at hK
  ·refine⟨_,hK,?_⟩;intro N B M w0 ρ s a w Q K hc O3 hR QT hd hK;rw[QU]at hd hK;have Tl:=(hc.eval l).1;have XY:=(hc.eval c).1;rw[O3 l aac,hl]at Tl;rw[O3 c aac,O8]at XY;have e1:=dB Tl;have e2:=dB XY;have hzr:=eX (B:=B) (ρ:=ρ) (w:=w) (ok:=okB ρ s.H w) hm;have UZ:z.cells.size=te.size:=(by have h1:=hzr.length;rw[fite.zlen]at h1;simpa using h1);have WK:∀ok':Nat->Prop,RTs w ok' z.cells.toList zt:=fun ok'=>xT hm hzt
   have Ua:(ie.bytes:Int)*(j:Int)<=281474976710656:=by rw[fite.bytes,Int.mul_comm];omega
   have P1:=run_make (P:=P) w T e ie z fit.und fite.info hz k k' (j:Int) (j:Int) o_ (u6 _) Ua o_;simp only[e7,fite.size]at P1;have ZP:=uj z.cells j (by have:=fite.pos;omega);rw[UZ]at ZP
   have Ru:(execOp a.eval o).run P w= .ok (.value (.slice (some ⟨w.heap.size,0,none⟩) j j)) (w.alloc (.cells (madeCells z.cells (j*te.size)) e)):=by simp[execOp,ho,e1,e2,P1]
   have YQ:zt.length=te.size:=by have:=(WK fun _=>True).length;rw[<-this];simpa using UZ
   obtain⟨ρ',h'⟩:=hc.newArr (hd d rfl) (QT d rfl) [] (w':=w.alloc (.cells (madeCells z.cells (j*te.size)) e)) (Turn.alloc _ _ _) (b:=w.heap.size) (cap:=j) (sz:=te.size) (us:=madeCells z.cells (j*te.size)) (e:=e) (fz:=(0,0)) (rows:=List.replicate j zt) (fr:=true)
    (d7 _) (mP _ _) (eL _) (by intro r hr;rw[(D4.1 hr).2];exact YQ) s_ (by unfold maxLen;omega) abb
    (fun ok' _ _=>by rw[gt abb,ZP];exact(WK _).replicate j) []
   simp only[E0,D5,r9]at h';unfold Oper.wp;rw[Ru];show K (a.put o.dst _) _;rw[QU];exact hK _ _ ρ' h'
  ·refine⟨_,hK,?_⟩;intro N B M w0 ρ s a w Q K hc O3 hR QT hd hK;rw[QU]at hd hK;have Tl:=(hc.eval l).1;have XY:=(hc.eval c).1;rw[O3 l aac,hl]at Tl;rw[O3 c aac,O8]at XY;have e1:=dB Tl;have e2:=dB XY;have hzr:=eX (B:=B) (ρ:=ρ) (w:=w) (ok:=okB ρ s.H w) hm;have UZ:z.cells.size=te.size:=(by have h1:=hzr.length;rw[fite.zlen]at h1;simpa using h1);have WK:∀ok':Nat->Prop,RTs w ok' z.cells.toList zt:=fun ok'=>xT hm hzt
   have Ua:(ie.bytes:Int)*(j:Int)<=281474976710656:=by rw[fite.bytes,Int.mul_comm];omega
   have P1:=run_make (P:=P) w T e ie z fit.und fite.info hz k k' (j:Int) (j:Int) o_ (u6 _) Ua o_;simp only[e7,fite.size]at P1;have ZP:=uj z.cells j (by have:=fite.pos;omega);rw[UZ]at ZP
   have Ru:(execOp a.eval o).run P w= .ok (.value (.slice (some ⟨w.heap.size,0,none⟩) j j)) (w.alloc (.cells (madeCells z.cells (j*te.size)) e)):=by simp[execOp,ho,e1,e2,P1]
   have YQ:zt.length=te.size:=by have:=(WK fun _=>True).length;rw[<-this];simpa using UZ
   obtain⟨ρ',h'⟩:=hc.newDar (hd d rfl) (QT d rfl) [] (w':=w.alloc (.cells (madeCells z.cells (j*te.size)) e)) (D:=fun _=>False) (Turn.alloc _ _ _) (b:=w.heap.size) (cap:=j) (sz:=te.size) (us:=madeCells z.cells (j*te.size)) (e:=e) (fz:=(0,0)) (rows:=List.replicate j (zt.map .d))
    (fun _ h=>h.elim) (.inl (d7 _)) (mP _ _) (eL _) (by intro r hr;rw[(D4.1 hr).2,d9];exact YQ) s_ (by unfold maxLen;omega) abb
    (by
     rw[E0,gt abb,ZP];refine Cells.replicate hc ⟨fun _ _=>False,by rw[d9,YQ];simpa using UZ,fun p v dd hv Wz=>?_,fun _ _ h=>h.elim,fun _ _ _ _ h=>h.elim⟩ j;rw[j9,v7]at Wz;obtain⟨t,ht,rfl⟩:=Wz
     exact OM hm hzt w _ p v t hv ht) []
   simp only[E0,D5,r9]at h';unfold Oper.wp;rw[Ru];show K (a.put o.dst _) _;rw[QU];exact hK _ _ ρ' h'
 ·exact h.elim
theorem zh {ti:Qp}(hΓ:Γ.chk P=true)(h:xL Γ ti=true):∃e te ie de,ti.elem=some e/\Γ.get e=some te/\te.Fit P e ie de/\de= .int .u8:=by
 unfold xL at h;split at h
 ·rename_i e he;split at h
  ·rename_i te hE;obtain⟨ie,de,fite⟩:=Env.fit hΓ hE;split at h
   ·rename_i hk;refine⟨e,te,ie,de,he,hE,fite,?_⟩;have:=fite.kind;rw[hk]at this
    cases de<;>simp[kC]at this
    rw[this]
   ·cases h
  ·cases h
 ·cases h
theorem sT (bs:List UInt8):(bs.map bo).flatten=bs.map fun u=>Tr.int .u8 u.toNat:=by
 induction bs with
 | nil=>rfl
 | cons b bs ih=>simp[bo,<-ih]
theorem we {ok:Nat->Prop}:∀bs:List UInt8,RTs w ok (bs.map fun u=>Value.int .u8 u.toNat) (bs.map fun u=>Tr.int .u8 u.toNat)
 | []=>trivial
 | _::bs=>⟨.int _ _,we bs⟩
theorem BO {ok:Nat->Prop}:∀{vs:List Value} {bs:List UInt8},RTs w ok vs (bs.map fun u=>Tr.int .u8 u.toNat)->vs=bs.map fun u=>Value.int .u8 u.toNat
 | [],[],_=>rfl
 | v::vs,b::bs,h=>by
  have h1:RT w ok v (.int .u8 b.toNat):=h.1;have:v= .int .u8 b.toNat:=by cases h1;rfl
  rw[this,BO h.2]
  rfl
 | [],_::_,h=>h.elim
 | _::_,[],h=>h.elim
theorem Ks {esz:Nat}{y:AV}{K2:Bool->List (List Tr)->List Id->Prop}{ok:Nat->Prop}{v:Value}(h:iV esz y H K2)(hn:∀t,y≠tS t)(hv:RV B ρ w ok v y):∃A n c,v= .slice A n c:=by
 unfold iV at h;split at h
 ·rename_i b;exact absurd rfl (hn b)
 ·exact⟨_,_,_,hv⟩
 ·have hv:RT w ok v (.lst _ _):=hv;obtain⟨A,c,e,_⟩:=hv.slice_inv;exact⟨_,_,_,e⟩
 ·have hv:RT w (okF B ok true) v (.lst _ _):=hv;obtain⟨A,c,e,_⟩:=hv.slice_inv;exact⟨_,_,_,e⟩
 ·obtain⟨⟨A,n,c,e⟩,e1⟩:=hv;exact⟨_,_,_,e1.trans e⟩
 ·obtain⟨A,n,c,_,e1,_⟩:=hv;exact⟨_,_,_,e1⟩
 ·exact h.elim
theorem Ay {Ts Td:TypeId}{d:Nat}{x:Operand}{ts td:Qp}(hΓ:Γ.chk P=true)(hTs:Γ.get Ts=some ts)(hTd:Γ.get Td=some td)(QU:o.dst=some d)
  (ho:o.op= .convert Ts Td x) (h:so Γ ts td d (ev x) H K):∃ef,K ef/\Good P o ev H ef:=by
 obtain⟨is,ds,fits⟩:=Env.fit hΓ hTs;obtain⟨id,dd,fitd⟩:=Env.fit hΓ hTd;have P3:x∈o.op.operands.toList:=by simp[ho,Op.operands]
 unfold so at h;split at h
 ·rename_i k n hx;split at h
  ·rename_i k' hk;have hd:dd= .int k':=(by have:=fitd.kind;rw[hk]at this;cases dd<;>simp[kC]at this;rw[this]);subst hd;refine⟨_,h,aM fun N B M w0 ρ s a w hc O3 hR=>?_⟩;have hv:=(hc.eval x).1;rw[O3 x P3,hx]at hv;have e1:=dB hv;refine⟨.int k' (k'.wrap n),?_,.int _ _,by simp[AV.ids,AR.ids,AC.ids]⟩
   have:(convert Ts Td (.int k n)).run P w= .ok (.int k' (k'.wrap n)) w:=by
    simp only[convert,n6,run_underlying fits.und,run_underlying fitd.und,j7]
    cases ds<;>simp[Conv.intToInt]
   simp only[execOp,ho,e1,n6,this,j7,o9]
  ·exact h.elim
 ·rename_i t hx;split at h
  ·rename_i hs;have hd:dd= .string:=(by have:=fitd.str;rw[hs]at this;cases dd<;>simp[Aw]at this⊢);subst hd;refine⟨_,h,aM fun N B M w0 ρ s a w hc O3 hR=>?_⟩;have hv:=(hc.eval x).1;rw[O3 x P3,hx]at hv;have e1:=ik hv;refine⟨.string ⟨t.toArray⟩,?_,.str _,by simp[AV.ids,AR.ids,AC.ids]⟩
   have:(convert Ts Td (.string ⟨t.toArray⟩)).run P w= .ok (.string ⟨t.toArray⟩) w:=by
    simp only[convert,n6,run_underlying fits.und,run_underlying fitd.und,j7]
    cases ds<;>simp
   simp only[execOp,ho,e1,n6,this,j7,o9]
  ·split at h
   ·rename_i Wf;simp only[d5]at Wf;obtain⟨hss,Wf⟩:=Wf;obtain⟨e,te,ie,de,he,hE,fite,rfl⟩:=zh hΓ Wf;have hsd:ds= .string:=(by have:=fits.str;rw[hss]at this;cases ds<;>simp[Aw]at this⊢);subst hsd;have hd:=oD fitd he;subst hd;obtain⟨O2,hK⟩:=h;refine⟨_,hK,?_⟩;intro N B M w0 ρ s a w Q K hc O3 hR QT hd hK;rw[QU]at hd hK;have hv:=(hc.eval x).1;rw[O3 x P3,hx]at hv;have e1:=ik hv;have RK:(⟨t.toArray⟩:ByteArray).size=t.length:=(by simp[ByteArray.size]);have hr:=run_bytes_of_string w Ts Td e ⟨t.toArray⟩ fits.und fitd.und fite.und;have QY:=grownCap_ge w (⟨t.toArray⟩:ByteArray).size 0 e;have P6:=grownCap_le_maxLen w (⟨t.toArray⟩:ByteArray).size 0 e (by rw[RK];unfold maxLen;omega);generalize grownCap w (⟨t.toArray⟩:ByteArray).size 0 e=gc at hr QY P6;rw[RK]at hr QY
    have Ru:(execOp a.eval o).run P w= .ok (.value (.slice (some ⟨w.heap.size,0,none⟩) t.length gc)) (w.drew.alloc (.cells (bytesRow ⟨t.toArray⟩ gc) e ((bytesRow ⟨t.toArray⟩ gc).size,(bytesRow ⟨t.toArray⟩ gc).size+1))):=by simp only[execOp,ho,e1,n6,hr,j7,o9]
    have hrs:(bytesRow ⟨t.toArray⟩ gc).size=gc:=by simp[bytesRow,ByteArray.size];omega
    have RM:(bytesRow ⟨t.toArray⟩ gc).toList.take t.length=t.map fun u=>Value.int .u8 u.toNat:=by simp only[bytesRow,B6];rw[x6 s_];rw[gt s_];simp
    obtain⟨ρ',h'⟩:=hc.newArr (hd d rfl) (QT d rfl) [] (w':=w.drew.alloc (.cells (bytesRow ⟨t.toArray⟩ gc) e ((bytesRow ⟨t.toArray⟩ gc).size,(bytesRow ⟨t.toArray⟩ gc).size+1))) ((Turn.drew _ w).trans (Turn.alloc _ _ _)) (b:=w.heap.size) (cap:=gc) (sz:=1)
     (us:=bytesRow ⟨t.toArray⟩ gc) (e:=e) (fz:=((bytesRow ⟨t.toArray⟩ gc).size,(bytesRow ⟨t.toArray⟩ gc).size+1)) (rows:=t.map bo) (fr:=true) (d7 _) (heap_alloc_new w.drew _) (fun p hp h=>o_) (by intro r hr;obtain⟨u,_,rfl⟩:=q7.1 hr;rfl) (by simpa using QY) P6
     (by rw[hrs];omega) (fun ok' _ _=>by
      simp only[d9,Nat.mul_one];rw[RM,sT]
      exact we t) []
    simp only[d9,D5,r9]at h';unfold Oper.wp;rw[Ru];show K (a.put o.dst _) _;rw[QU];exact hK _ _ ρ' h'
   ·exact h.elim
 ·rename_i Wi TI;split at h
  ·rename_i hs Wf;obtain⟨e,te,ie,de,he,hE,fite,rfl⟩:=zh hΓ Wf;have hd:=oD fits he;subst hd;have hd:dd= .string:=(by have:=fitd.str;rw[hs]at this;cases dd<;>simp[Aw]at this⊢);subst hd;obtain⟨_,rows,R,⟨bs,rfl,hK⟩,So⟩:=zT h;refine⟨_,hK,aM fun N B M w0 ρ s a w hc O3 hR=>?_⟩;obtain⟨nv,f1,f2,f3,f4⟩:=So N B M w0 ρ s a w hc (O3 x P3) hR;rw[sT]at f3;have ZN:=BO f3;subst ZN;refine⟨.string ⟨bs.toArray⟩,?_,.str _,by simp[AV.ids,AR.ids,AC.ids]⟩;have hv:=(hc.eval x).1;rw[O3 x P3]at hv;obtain⟨A,n,c,e1⟩:=Ks h (fun t ht=>TI t ht) hv;have O2:=f1 P w;rw[e1]at O2;simp only[Builtin.lenOf,o9,Result.ok.injEq,and_true,d9]at O2;subst O2;have QH:=f2 P w rfl;rw[e1]at QH
   have ZX:(convert Ts Td (.slice A bs.length c)).run P w= .ok (.string ⟨bs.toArray⟩) w:=by
    cases A with
    | none=>
     simp only[Builtin.firstCells,o9,Result.ok.injEq,and_true]at QH
     have:bs=[]:=by have:=congrArg Array.size QH;simp at this;exact x7 this.symm
     subst this;rw[run_convert_bytes_string w Ts Td e none _ c fits.und fite.und fitd.und];simp[Conv.bytesToString]
     rfl
    | some ad=>simp only[Builtin.firstCells,d9,Nat.mul_one]at QH;rw[run_convert_bytes_string w Ts Td e (some ad) _ c fits.und fite.und fitd.und];rw[run_bytesToString w ad bs.length c (bs.map fun u=>(u.toNat:Int)) (by rw[QH];simp),foldl_push_byteCells];simp
   simp only[execOp,ho,e1,n6,ZX,j7,o9]
  ·exact h.elim
theorem Ej {T ft:TypeId}{x:Operand}{f off sz:Nat}{ti to:Qp}(hΓ:Γ.chk P=true)(hT:Γ.get T=some ti)(hf:ti.fields[f]?=some (off,sz,ft))(X8:Γ.get ft=some to)
  (ho:o.op= .field T x f) (h:zg off to (ev x) KV):∃v,KV v/\Good P o ev H (.val v []):=by
 obtain⟨i,d,fit⟩:=Env.fit hΓ hT;obtain⟨fs,F,rfl,h1,h2,h3,_⟩:=fit.field hf;subst h3;obtain⟨io,dO,fito⟩:=Env.fit hΓ X8;have P3:x∈o.op.operands.toList:=by simp[ho,Op.operands]
 unfold zg at h;split at h
 ·rename_i cs hx
  have base:∀(N B:Nat) (M:Nat->Prop) (w0:Start) (ρ:Rho) (s:F_) (a:Act) (w:World),Conc N B M w0 ρ s a w->(∀x∈o.op.operands.toList,evL s.L x=ev x)->
    ∃us,a.eval x= .agg us/\RCs B ρ w (okB ρ s.H w) us.toList cs/\∀id∈cs.flatMap AC.ids,s.U id.1:=by
   intro N B M w0 ρ s a w hc O3;have hv:=hc.eval x;rw[O3 x P3,hx]at hv;obtain⟨⟨us,e1,e2⟩,e3⟩:=hv;exact⟨us,e1,e2,e3⟩
  split at h
  ·rename_i Rg;split at h
   ·rename_i xs QF;obtain⟨g1,g2⟩:=iN QF;refine⟨_,h,aM fun N B M w0 ρ s a w hc O3 hR=>?_⟩;obtain⟨us,e1,e2,e3⟩:=base N B M w0 ρ s a w hc O3;refine⟨.agg (us.extract off (off+to.size)),?_,⟨_,rfl,?_⟩,?_⟩
    ·simp[execOp,ho,e1,Instr.field,run_underlying fit.und,h1,asAgg,part,la fito.und,fito.agg,Rg,dg fito.info,fito.size,h2]
    ·rw[g2];have:=(e2.drop off).take to.size;simpa [List.drop_take]using this
    ·rw[g2];exact mE e3 off to.size
   ·exact h.elim
  ·rename_i Rg;split at h
   ·rename_i c QF;obtain⟨g1,g2⟩:=iN QF;refine⟨_,h,aM fun N B M w0 ρ s a w hc O3 hR=>?_⟩;obtain⟨us,e1,e2,e3⟩:=base N B M w0 ρ s a w hc O3
    have Tw:cs[off]?=some c:=by have:((cs.drop off).take 1)[0]?=some c:=(by rw[<-g2];rfl);simpa using this
    obtain⟨u,hu,hru⟩:=e2.get off c Tw;have Rp:us[off]?=some u:=(by simpa using hu);refine⟨u,?_,hru,fun id O9=>e3 id (u4.2 ⟨c,c9 Tw,O9⟩)⟩;simp[execOp,ho,e1,Instr.field,run_underlying fit.und,h1,asAgg,part,la fito.und,fito.agg,Rg,h2,Rp]
   ·exact h.elim
 ·exact h.elim
theorem EX (places:Nat->Option (Nat×Nat)){B:Nat}{ρ:Rho}{w:World}{ok:Nat->Prop}{f:Operand->Value}{fs:List (Nat×Nat×TypeId)}(hp:∀i off sz ft,fs[i]?=some (off,sz,ft)->places i=some (off,sz)):
  ∀(parts:List (Nat×Operand)) (zero:List AC) (cells:Array Value) (K:List AC->Prop),(∀p∈parts,RV B ρ w ok (f p.2) (ev p.2))->RCs B ρ w ok cells.toList zero->
   fw fs zero (parts.map fun p=>(p.1,ev p.2)) K->∃cs out,K cs/\Instr.fill places cells (parts.map fun p=>(p.1,f p.2))=some out/\RCs B ρ w ok out.toList cs
 | [],zero,cells,K,_,hr,h=>⟨zero,cells,h,by simp[Instr.fill],hr⟩
 |(i,x)::parts,zero,cells,K,hv,hr,h=>by
  simp only[p7,fw]at h
  cases hx:ev x with
  | r ar=>
   rw[hx]at h;simp only[fw]at h;split at h
   ·rename_i off sz ft SM;split at h
    ·rename_i z hbq TT;have hs:ar.cells.length=sz:=(by simpa using hbq);have Se:=hp i off sz ft SM;obtain⟨g1,g2⟩:=kg TT;have TG:=hv (i,x) s_;simp only at TG;rw[hx]at TG;have QH:=RR.cells TG;have QK:=QH.length;have RM:=hr.length
     have Wc:(f x).cells.zipIdx.foldl (fun cs (y:Value×Nat)=>cs.setIfInBounds (off+y.2) y.1) cells=(cells.toList.take off++(f x).cells.toList++cells.toList.drop (off+(f x).cells.toList.length)).toArray:=by
      have key:∀(vs:List Value) (k:Nat) (cells:Array Value),off+k+vs.length<=cells.size->
        (vs.zipIdx k).foldl (fun(cs:Array Value) (y:Value×Nat)=>cs.setIfInBounds (off+y.2) y.1) cells=(cells.toList.take (off+k)++vs++cells.toList.drop (off+k+vs.length)).toArray:=by
       intro vs
       induction vs with
       | nil=>intro k cells _;simp
       | cons u vs ih=>
        intro k cells hl;simp only[d6]at hl;simp only[List.zipIdx_cons,List.foldl_cons];rw[ih (k+1) _ aad];have O4:off+k<cells.toList.length:=by simp;omega
        have e1:(cells.toList.set (off+k) u).take (off+(k+1))=cells.toList.take (off+k)++[u]:=by rw[show off+(k+1)=off+k+1 by omega,z9 aad];simp[H4]
        have e2:(cells.toList.set (off+k) u).drop (off+(k+1)+vs.length)=cells.toList.drop (off+k+(vs.length+1)):=by rw[List.drop_set_of_lt o_];congr 1;omega
        simp only[Array.toList_setIfInBounds,d6,e1,e2];simp
      have:=key (f x).cells.toList 0 cells (by rw[QK];simp at RM;omega);rw[<-Array.foldl_toList,Array.toList_zipIdx];simpa using this
     have Uz:RCs B ρ w ok (cells.toList.take off++(f x).cells.toList++cells.toList.drop (off+(f x).cells.toList.length)) z:=by rw[g2,QK];exact((hr.take off).append QH).append (hr.drop _)
     obtain⟨cs,out,k1,k2,k3⟩:=EX places hp parts z (cells.toList.take off++(f x).cells.toList++cells.toList.drop (off+(f x).cells.toList.length)).toArray K (fun p Uw=>hv p (by simp[Uw])) Uz h;refine⟨cs,out,k1,?_,k3⟩;simp only[p7,Instr.fill,Se];have ST:(f x).cells.size=sz:=(by rw[<-hs,<-QK];simp);rw[b8 (by simp at RM;simp[ST];omega),Wc];exact k2
    ·exact h.elim
   ·exact h.elim
  | tup=>rw[hx]at h;exact h.elim
  | el=>rw[hx]at h;exact h.elim
  | ro=>rw[hx]at h;exact h.elim
  | unk=>rw[hx]at h;exact h.elim
theorem En {α β:Type}(g:α->Sem β)(g':α->β)(w:World):∀l:List α,(∀x∈l,(g x).run P w= .ok (g' x) w)->(l.mapM g).run P w= .ok (l.map g') w
 | [],_=>s_
 | x::l,h=>by
  simp only[List.mapM_cons,n6,h x s_,j7,En g g' w l (fun y hy=>h y aba),o9,p7]
theorem EG {T:TypeId}{parts:Array (Nat×Operand)}{ti:Qp}(hΓ:Γ.chk P=true)(hT:Γ.get T=some ti)(ho:o.op= .build T parts)(P2:ti.fields≠[])
  (h:fw ti.fields ti.zero (parts.toList.map fun p=>(p.1,ev p.2)) fun cs=>K (.val (.r (.agg cs)) [])):∃ef,K ef/\Good P o ev H ef:=by
 obtain⟨i,d,fit⟩:=Env.fit hΓ hT;obtain⟨z,hz,hm⟩:=fit.zero
 have W0:∃fs,d= .struct fs/\fs.toList.map (fun f=>(f.offset,P.cellsOf f.type,f.type))=ti.fields/\∀F∈fs.toList,P.cellsOf F.type≠0:=by
  have ho:=fit.fields
  cases d<;>simp only[mh]at ho<;>try(rw[D0]at ho;exact absurd ho P2)
  rename_i fs;simp only[d5,i8,n9,v4]at ho;refine⟨fs,rfl,ho.1,fun F hF e=>?_⟩;have:=ho.2 (F.offset,P.cellsOf F.type,F.type) (by rw[<-ho.1];exact q7.2 ⟨F,hF,rfl⟩);simp only[e]at this;simp at this
 obtain⟨fs,rfl,TD,Rq⟩:=W0
 have WU:∀w:World,(fs.mapM (fun f:Field=>(do pure (f.offset,<-sizeOf f.type):Sem (Nat×Nat)))).run P w= .ok (fs.map fun f:Field=>(f.offset,P.cellsOf f.type)) w:=by
  intro w;rw[Array.mapM_eq_mapM_toList]
  have:=En (P:=P) (fun f:Field=>(do pure (f.offset,<-sizeOf f.type):Sem (Nat×Nat))) (fun f:Field=>(f.offset,P.cellsOf f.type)) w fs.toList (fun F hF=>by
   have:=Rq F hF;unfold Program.cellsOf at this⊢
   cases hi:P.info? F.type with
   | none=>rw[hi]at this;simp at this
   | some j=>simp[dg hi])
  rw[Sem.run_map,this,j7];congr 1;apply Array.ext';simp
 have Se:∀(i off sz:Nat) (ft:TypeId),ti.fields[i]?=some (off,sz,ft)->(fs.map fun f:Field=>(f.offset,P.cellsOf f.type))[i]?=some (off,sz):=by
  intro i off sz ft hi;rw[<-TD,j9,v7]at hi;obtain⟨F,g1,g2⟩:=hi;simp only[Prod.mk.injEq]at g2;have:fs[i]?=some F:=by simpa using g1
  simp[this,g2.1,g2.2.1]
 have key:∀(B:Nat) (ρ:Rho) (w:World) (ok:Nat->Prop) (f:Operand->Value) (K2:List AC->Prop),(∀p∈parts.toList,RV B ρ w ok (f p.2) (ev p.2))->fw ti.fields ti.zero (parts.toList.map fun p=>(p.1,ev p.2)) K2->
   ∃cs out,K2 cs/\Instr.fill (fun i=>(fs.map fun f:Field=>(f.offset,P.cellsOf f.type))[i]?) z.cells (parts.toList.map fun p=>(p.1,f p.2))=some out/\RCs B ρ w ok out.toList cs:=by
  intro B ρ w ok f K2 hv h;exact EX _ Se parts.toList ti.zero z.cells K2 hv (eX hm) h
 have det:∀(l:List (Nat×AV)) (zero:List AC) (K1:List AC->Prop),fw ti.fields zero l K1->∃cs,K1 cs/\∀K2:List AC->Prop,K2 cs->fw ti.fields zero l K2:=by
  intro l
  induction l with
  | nil=>intro zero K1 h;exact⟨zero,h,fun K2 h=>h⟩
  | cons p l ih=>
   intro zero K1 h;obtain⟨i,v⟩:=p
   cases v with
   | r ar=>
    simp only[fw]at h⊢;split at h
    ·rename_i off sz ft hf;split at h
     ·rename_i z' h1 h2;obtain⟨cs,g1,g2⟩:=ih _ _ h;exact⟨cs,g1,fun K2 hk=>g2 K2 hk⟩
     ·exact h.elim
    ·exact h.elim
   | tup=>exact h.elim
   | el=>exact h.elim
   | ro=>exact h.elim
   | unk=>exact h.elim
 obtain⟨cs,hK,aaK⟩:=det _ _ _ h;refine⟨_,hK,aM fun N B M w0 ρ s a w hc O3 hR=>?_⟩
 have P0:∀p∈parts.toList,RV B ρ w (okB ρ s.H w) (a.eval p.2) (ev p.2)/\∀id∈(ev p.2).ids,s.U id.1:=fun p hp=>by
  have:=hc.eval p.2;rwa [O3 p.2 (by simp only[ho,Op.operands];exact q7.2 ⟨p,hp,rfl⟩)]at this
 obtain⟨cs',out,rfl,g2,g3⟩:=key B ρ w (okB ρ s.H w) a.eval (fun x=>x=cs) (fun p hp=>(P0 p hp).1) (aaK _ rfl);refine⟨.agg out,?_,⟨out,rfl,g3⟩,?_⟩
 ·have:(Instr.build T (parts.map fun p=>(p.1,a.eval p.2))).run P w= .ok (.agg out) w:=by simp only[Instr.build,n6,gU fit.info hz,j7,run_underlying fit.und,WU,I2];simp only[Array.getElem?_map]at g2⊢;rw[g2];rfl
  simp only[execOp,ho,n6,this,j7,o9]
 ·
  have idsb:∀(l:List (Nat×AV)) (zero cs:List AC),(∀id∈zero.flatMap AC.ids,s.U id.1)->(∀p∈l,∀id∈p.2.ids,s.U id.1)->fw ti.fields zero l (fun x=>x=cs)->∀id∈cs.flatMap AC.ids,s.U id.1:=by
   intro l
   induction l with
   | nil=>intro zero cs hz _ h;cases h;exact hz
   | cons p l ih=>
    intro zero cs hz hl h;obtain⟨i,v⟩:=p
    cases v with
    | r ar=>
     simp only[fw]at h;split at h
     ·split at h
      ·rename_i z' h1 h2;refine ih z' cs (fun id O9=>?_) (fun p hp=>hl p (by simp[hp])) h;obtain⟨_,g⟩:=kg h2;rw[g]at O9;simp only[List.flatMap_append,f0]at O9;rcases O9 with(O9|O9)|O9
       ·obtain⟨c,c1,c2⟩:=u4.1 O9;exact hz id (u4.2 ⟨c,u5 c1,c2⟩)
       ·refine hl (i,.r ar) s_ id ?_
        cases ar with|c x=>simpa [AR.cells,AV.ids,AR.ids]using O9|agg xs=>exact O9
       ·obtain⟨c,c1,c2⟩:=u4.1 O9;exact hz id (u4.2 ⟨c,B2 c1,c2⟩)
      ·exact h.elim
     ·exact h.elim
    | tup=>exact h.elim
    | el=>exact h.elim
    | ro=>exact h.elim
    | unk=>exact h.elim
  exact idsb _ _ _ (by rw[un hm];simp) (fun p hp=>by
   obtain⟨q,hq,rfl⟩:=q7.1 hp
   exact(P0 q hq).2) (aaK _ rfl)
end
section
variable {P:Program} {Γ:Env} {N B:Nat} {M:Nat->Prop} {w0:Start} {ρ:Rho} {s:F_} {a:Act} {w:World} {o:Oper} {ev:Operand->AV} {H:Id->Option AO} {K:Eff->Prop} {KV:AV->Prop}
theorem qZ:∀(parts:List (Nat×Operand)) (n:Nat) (K:List (List DC)->List Id->Prop),mU H n (parts.map fun p=>(p.1,ev p.2)) K->
  ∃rows ids,K rows ids/\rows.length=parts.length/\(∀(j:Nat) (p:Nat×Operand),parts[j]?=some p->p.1=n+j)/\
   ∀(N B:Nat) (M:Nat->Prop) (w0:Start) (ρ:Rho) (s:F_) (a:Act) (w:World),Conc N B M w0 ρ s a w->(∀o∈ids,s.H o=H o)->ids.Nodup->
    (∀p∈parts,RV B ρ w (okB ρ s.H w) (a.eval p.2) (ev p.2))->Cells ρ s w ids (fun _=>False) ((parts.map fun p=>(a.eval p.2).cells.toList).flatten) rows.flatten/\
     ∀(j:Nat) (p:Nat×Operand) (row:List DC),parts[j]?=some p->rows[j]?=some row->(a.eval p.2).cells.size=row.length
 | [],n,K,h=>⟨[],[],h,rfl,s_,fun N B M w0 ρ s a w _ _ _ _=>⟨Cells.nil,s_⟩⟩
 |(i,x)::parts,n,K,h=>by
  simp only[p7,mU]at h
  cases hx:ev x with
  | r ar=>
   rw[hx]at h;simp only[mU]at h;split at h
   ·rename_i hn;have hin:i=n:=(by simpa using hn);obtain⟨ds,ids0,h0,XA⟩:=vy _ _ h;obtain⟨rows,ids,h1,h2,h3,h4⟩:=qZ parts (n+1) _ h0;refine⟨ds::rows,ids0++ids,h1,by simp[h2],fun j p hj=>?_,fun N B M w0 ρ s a w hc hH T0 hf=>?_⟩
    ·cases j with|zero=>simp at hj;subst hj;simpa using hin|succ j=>have:=h3 j p aaV;omega
    ·have hv:=hf (i,x) s_;simp only at hv;rw[hx]at hv;have c1:=XA hc (fun o ho=>hH o aao) (E3.1 T0).1 _ (RR.cells hv);obtain⟨c2,c3⟩:=h4 N B M w0 ρ s a w hc (fun o ho=>hH o aao) (E3.1 T0).2.1 (fun p hp=>hf p (by simp[hp]));refine⟨?_,fun j p row hj hr=>?_⟩
     ·simp only[p7,t7];exact Cells.append hc c1 c2 fun o ho QL=>(E3.1 T0).2.2 o ho o QL rfl
     ·cases j with
      | zero=>
       simp at hj hr;subst hj;subst hr;obtain⟨_,g,_⟩:=c1
       simpa using g
      | succ j=>exact c3 j p row aaV abe
   ·exact h.elim
  | tup=>rw[hx]at h;exact h.elim
  | el=>rw[hx]at h;exact h.elim
  | ro=>rw[hx]at h;exact h.elim
  | unk=>rw[hx]at h;exact h.elim
 termination_by parts=>parts.length
theorem tJ {T e:TypeId}{d n:Nat}{parts:Array (Nat×Operand)}{ti te:Qp}(hΓ:Γ.chk P=true)(hT:Γ.get T=some ti)(he:ti.elem=some e)(hE:Γ.get e=some te)(QU:o.dst=some d)(ho:o.op= .buildSlice T n parts)
  (hn:parts.toList.length=n)
  (h:mU H 0 (parts.toList.map fun p=>(p.1,ev p.2)) fun rows ids=>(∀r∈rows,r.length=te.size)/\n*te.size<=16777216/\jq ids=true/\K ⟨.r (.c (.own (d,0,0))),ids.map (fun r=>(r,none))++[((d,0,0),some (.dar te.size rows none))],some d,ids⟩):
  ∃ef,K ef/\Good P o ev H ef:=by
 obtain⟨ii,dd,fit⟩:=Env.fit hΓ hT;obtain⟨ie,de,fite⟩:=Env.fit hΓ hE;have hd:=oD fit he;subst hd;obtain⟨z,hz,hm⟩:=fite.zero;obtain⟨rows,ids,⟨hu,RK,T0,hK⟩,RM,YP,Te⟩:=qZ parts.toList 0 _ h;refine⟨_,hK,?_⟩;intro N B M w0 ρ s a w Q K hc O3 hR QT hd hK;rw[QU]at hd hK
 have P0:∀p∈parts.toList,RV B ρ w (okB ρ s.H w) (a.eval p.2) (ev p.2):=fun p hp=>by
  exact V140
 let vss:List (List Value):=parts.toList.map fun p=>(a.eval p.2).cells.toList
 have RP:vss.length=rows.length:=by simp[vss,RM]
 obtain⟨QH,Ug⟩:=Te N B M w0 ρ s a w hc hR (nodupI_iff.1 T0) P0
 have P5:∀(j:Nat) (p:Nat×Operand),parts.toList[j]?=some p->p.1=j/\(a.eval p.2).cells.size=te.size:=by
  intro j p hj
  have Q0:j<parts.toList.length:=by exact V138
  have YT:rows[j]?=some (rows[j]'o_):=i9 o_;have:=Ug j p _ hj YT;rw[hu _ (c9 YT)]at this;exact⟨by simpa using YP j p hj,this⟩
 let init:Array Value:=(Array.range (n*te.size)).map (fun i=>(if n*te.size=0 then #[]else z.cells)[i%(if n*te.size=0 then #[]else z.cells).size]!)
 have XZ:init.size=n*te.size:=by simp[init]
 have Ya:Instr.fill (fun i=>some (i*te.size,te.size)) init ((parts.map fun p=>(p.1,a.eval p.2)).toList)=some vss.flatten.toArray:=by exact V27
 have P1:(execOp a.eval o).run P w= .ok (.value (.slice (some ⟨w.heap.size,0,none⟩) n n)) (w.alloc (.cells vss.flatten.toArray e)):=by exact V65
 have O2:rows.length=n:=by rw[RM,hn]
 have Wb:n<=maxLen:=by have:=fite.pos;have h1:n*1<=n*te.size:=B5 _ o_;unfold maxLen;omega
 have P7:vss.flatten.length=n*te.size:=by obtain⟨_,g,_⟩:=QH;rw[show vss.flatten.length=rows.flatten.length from g,bm te.size rows hu,O2]
 obtain⟨ρ',h'⟩:=hc.newDar (hd d rfl) (QT d rfl) ids (w':=w.alloc (.cells vss.flatten.toArray e)) (D:=fun _=>False) (Turn.alloc _ _ _) (b:=w.heap.size) (cap:=n) (sz:=te.size) (us:=vss.flatten.toArray) (e:=e) (fz:=(0,0)) (rows:=rows)
  (fun _ h=>h.elim) (.inl (d7 _)) (mP _ _) (eL _) hu o_ Wb (by simp only[B3,P7]) (by
   rw[O2,gt (by simp only[P7];omega)];obtain⟨Fp,c1,c2,c3,c4⟩:=QH;refine⟨Fp,c1,c2,fun p c Tx=>⟨(c3 p c Tx).1,fun e=>?_⟩,c4⟩;obtain⟨⟨o1,x1,m1,m2,m3⟩,_⟩:=c3 p c Tx;have:=(hc.rng o1 x1 c m2 m3).1
   omega) ids
 rw[O2]at h';unfold Oper.wp;rw[P1];show K (a.put o.dst _) _;rw[QU];exact hK _ _ ρ' h'
end
section
variable {P:Program} {Γ:Env} {N B:Nat} {M:Nat->Prop} {w0:Start} {ρ:Rho} {s:F_} {a:Act} {w:World} {o:Oper} {ev:Operand->AV} {H:Id->Option AO} {K:Eff->Prop} {KV:AV->Prop}
theorem Conc.upd (h:Conc N B M w0 ρ s a w){q:Id}{x x':AO}(hq:s.H q=some x){b:Nat}(hb:blk (ρ q)=some b)(rm:List Id)(hqr:q∉rm)(F:Nat->Prop)(hF:∀c,F c->∃o x,o∈rm/\s.H o=some x/\Own ρ o c){w':World}(hT:Turn (fun k=>k=b) w w')(Wp:∀id∈x'.ids,s.U id.1)
  (Rj:∀(ρ':Rho) (ok':Nat->Prop),(∀o,ρ' o=ρ o)->(∀c,ρ.fp q c\/F c->ρ'.fp q c)->(∀c,okB ρ s.H w c->w'.heap[c]?=w.heap[c]?/\ok' c)->(∀o x c,o∈rm->s.H o=some x->Own ρ o c->¬F c->w'.heap[c]?=w.heap[c]?/\ok' c)->
   (∀c,F c->w'.heap[c]?=w.heap[c]?/\c≠b)->(∀c,ρ.fp q c->c≠b->w'.heap[c]?=w.heap[c]?)->RO B ρ' w' ok' q x') {dst:Option Nat} (hd:∀d,dst=some d->d<N) (vv:Value) (R:List Id):
  ∃ρ',Conc N B M w0 ρ' (s.app dst ⟨.unk,rm.map (fun r=>(r,none))++[(q,some x')],none,R⟩) (a.put dst vv) w':=by
 let ρ':Rho:=⟨ρ.val,fun o c=>ρ.fp o c\/(o=q/\F c),ρ.al⟩
 have P8:∀o c,Own ρ' o c↔(Own ρ o c\/(o=q/\F c)):=fun o c=>by
  show(blk (ρ o)=some c\/(ρ.fp o c\/(o=q/\F c)))↔_;unfold Own;rw[or_assoc]
 have WB:Own ρ q b:= .inl hb;have hr:=h.rng q x b hq WB;have Vw:=CR rm s.H q (some x')
 have hFb:∀c,F c->c≠b:=fun c hc e=>by
  obtain⟨o,x1,g1,g2,g3⟩:=hF c hc;subst e;exact h.sep o q x1 x c g2 hq (fun e=>hqr (e▸g1)) g3 WB
 have TP:∀o x1 c,o∈rm->s.H o=some x1->Own ρ o c->¬F c->w'.heap[c]?=w.heap[c]?/\okB ρ' (cD s.H (rm.map (fun r=>(r,none))++[(q,some x')])) w' c:=by
  intro o x1 c h1 h2 h3 hnF;have O4:=(h.rng o x1 c h2 h3).1;have P2:c≠b:=fun e=>by subst e;exact h.sep o q x1 x c h2 hq (fun e=>hqr (e▸h1)) h3 WB
  refine⟨hT.block c O4 P2,⟨w8 O4 hT.size,h.alw c (h.rng o x1 c h2 h3).2⟩,fun o1 x2 h5 h6=>?_⟩;rw[Vw]at h5;rw[P8]at h6;rcases h6 with h6|⟨_,h6⟩
  ·by_cases e:o1=q
   ·subst e;exact h.sep o o1 x1 x c h2 hq (fun e3=>hqr (e3▸h1)) h3 h6
   ·simp only[b8 e]at h5;by_cases e2:o1∈rm
    ·simp[e2]at h5
    ·simp only[b8 e2]at h5;exact h.sep o o1 x1 x2 c h2 h5 (fun e3=>e2 (e3▸h1)) h3 h6
  ·exact hnF h6
 refine⟨ρ',?_⟩
 have:=h.step (fun k=>k=b) (q::rm) (w':=w') (ρ':=ρ') (H':=cD s.H (rm.map (fun r=>(r,none))++[(q,some x')])) (U':=s.U) (a':=a.put dst vv) (L':=pj s.L dst .unk) hT abc aa9
  (fun _ _=>rfl) (fun o x1 ho _=>by
   funext c;have:o≠q:=fun e=>ho (by simp[e])
   exact propext ⟨fun hc=>hc.elim id fun hc=>absurd hc.1 this,.inl⟩) rfl (fun o ho=>by
   rw[Vw];simp only[d8,not_or]at ho
   simp only[b8 ho.1,b8 ho.2]) (fun _ h=>h)
  (fun c hc e=>by subst e;exact hc.2 q x hq WB)
  (fun o x1 c h1 h2 h3 e=>by subst e;exact h.sep o q x1 x c h1 hq (fun e=>h2 (by simp[e])) h3 WB)
  (fun c hc hM e=>by
   subst e;rcases hr.2 with g|g
   ·omega
   ·exact hM g)
  (fun o x1 c h1 h2 h3=>by
   rw[Vw]at h2;by_cases e:o=q
   ·subst e;rw[P8]at h3;rcases h3 with h3|⟨_,h3⟩
    ·have:=h.rng o x c hq h3;exact⟨w8 this.1 hT.size,this.2,.inr ⟨o,x,hq,s_,h3⟩⟩
    ·obtain⟨o',x2,g1,g2,g3⟩:=hF c h3;have:=h.rng o' x2 c g2 g3;exact⟨w8 this.1 hT.size,this.2,.inr ⟨o',x2,g2,by simp[g1],g3⟩⟩
   ·simp only[d8,e,false_or]at h1;simp only[b8 e,b9 h1]at h2
    cases h2)
  (fun o o' x1 x2 c h1 h2 h3 h4 P2=>by
   rw[Vw]at h3 h4;exfalso;by_cases e:o=q
   ·exact V116
   ·simp only[d8,e,false_or]at h1;simp only[b8 e,b9 h1]at h3
    cases h3)
  (fun hk o x1 h1 h2=>by
   rw[Vw]at h2;by_cases e:o=q
   ·subst e;simp only[if_true,Option.some.injEq]at h2;subst h2;refine⟨Rj ρ' _ (fun _=>rfl) (fun c hc=>hc.elim .inl fun hc=> .inr ⟨rfl,hc⟩) hk TP (fun c hc=>?_) (fun c hc P2=>hT.block c (h.rng o x c hq (.inr hc)).1 P2),(h.usedH o x hq).1,Wp⟩;obtain⟨o',x2,g1,g2,g3⟩:=hF c hc;exact⟨hT.block c (h.rng o' x2 c g2 g3).1 (hFb c hc),hFb c hc⟩
   ·simp only[d8,e,false_or]at h1;simp only[b8 e,b9 h1]at h2
    cases h2)
  (fun hk t=>h.slots hd (av:= .unk) trivial abi t)
 exact this.congr (fun _=>rfl) (fun _=>rfl) (fun n=>by simp[F_.app])
theorem pC {T:TypeId}{ti:Qp}{i:TypeInfo}{d:TypeDesc}(fit:ti.Fit P T i d)(b off:Nat)(v:Value)(hl:v.cells.size=ti.size){cur:Array Value}{e:TypeId}{fz:Nat×Nat}(hb:w.heap[b]?=some (.cells cur e fz))(hz:cM cur.size fz)
  (Re:off+ti.size<=cur.size) (h1:∀u∈v.cells.toList,u.oneCell'=true):(Instr.storeAt T (.pointer (some ⟨b,off,none⟩)) v).run P w= .ok () (w.setCells b off v.cells.toList):=by
 have Sk:v.cells.toList.length=ti.size:=by simpa using hl
 have QJ:=run_storeCells_cells (P:=P) b off v.cells.toList 0 w (fun j hj=>by
   rw[cell_of_row w b _ cur e fz hb];simp only[y5]
   rw[x8 o_];rfl) (fun j hj=>by
   simp only[World.frozen?,hb,y5];have:=hz (off+j) o_;simp only[A9,p6,Nat.not_le,Nat.not_lt]
   omega) h1
 simp only[y5]at QJ;simp[Instr.storeAt,Instr.sureAddr,storeVar,dg fit.info,fit.size,hl,QJ]
theorem NH {U:Nat->Prop}{off:Nat}{xs l l':List AC}(h:lay off xs l=some l')(h1:∀id∈xs.flatMap AC.ids,U id.1)(h2:∀id∈l.flatMap AC.ids,U id.1):∀id∈l'.flatMap AC.ids,U id.1:=by
 obtain⟨_,rfl⟩:=kg h;intro id O9;simp only[List.flatMap_append,f0]at O9;rcases O9 with(O9|O9)|O9
 ·obtain⟨c,c1,c2⟩:=u4.1 O9;exact h2 id (u4.2 ⟨c,u5 c1,c2⟩)
 ·exact h1 id O9
 ·obtain⟨c,c1,c2⟩:=u4.1 O9;exact h2 id (u4.2 ⟨c,B2 c1,c2⟩)
theorem Pq {ar:AR}:∀id∈ar.cells.flatMap AC.ids,id∈(AV.r ar).ids:=by
 intro id O9
 cases ar with|c x=>simpa [AR.cells,AV.ids,AR.ids]using O9|agg xs=>exact O9
theorem lR {α:Type}{sz off:Nat}{row row' ts:List α}(l1:off+ts.length<=row.length)(l2:row'=row.take off++ts++row.drop (off+ts.length)):∀(rows:List (List α)) (i:Nat),(∀r∈rows,r.length=sz)->rows[i]?=some row->
  (rows.set i row').flatten=rows.flatten.take (i*sz+off)++ts++rows.flatten.drop (i*sz+off+ts.length)
 | [],i,_,h=>by simp at h
 | r::rows,0,hu,h=>by
  simp at h;subst h;simp only[D3,t7,Nat.zero_mul,s7];rw[x6 o_,l2];rw[List.drop_append_of_le_length o_]
  simp
 | r::rows,i+1,hu,h=>by
  have hr:=hu r s_;simp only[List.set_cons_succ,t7];rw[lR l1 l2 rows i (fun r hr=>hu r aaX) aap];have e1:(i+1)*sz+off=r.length+(i*sz+off):=by rw[p8,hr];omega
  rw[e1,List.take_length_add_append,D7 r.length,List.drop_length_add_append];simp
theorem Ae {α:Type}{A ys:List α}{k:Nat}(h:k+ys.length<=A.length)(p:Nat):(A.take k++ys++A.drop (k+ys.length))[p]?=if p<k then A[p]? else if p<k+ys.length then ys[p-k]? else A[p]?:=by
 have hk:(A.take k).length=k:=by rw[k0];omega
 have Rf:(A.take k++ys).length=k+ys.length:=by rw[c7,hk]
 split
 ·rw[l8 o_,l8 o_,n7];simp_all
 ·split
  ·rw[l8 o_,m9 o_,hk]
  ·rw[m9 o_,Rf,w7];congr 1;omega
theorem Cj {T:TypeId}{x y:Operand}{ti:Qp}{i:TypeInfo}{d:TypeDesc}(fit:ti.Fit P T i d)(ho:o.op= .store T x y)(P3:x∈o.op.operands.toList)(US:y∈o.op.operands.toList){ar:AR}{q:Id}{sz i' off:Nat}{rows:List (List DC)}{hole:Option (Nat×Nat×Id)}{row:List DC}
  (hy:ev y= .r ar) (hx:ev x= .el q sz i' off) (hq:H q=some (.dar sz rows hole)) (O2:ar.cells.length=ti.size) (P9:rows[i']?=some row) (hh:∀p,(p<i'*sz+off\/i'*sz+off+ti.size<=p)->cT sz hole p=none)
  (h:lQ H ar.cells fun cs ids=>jq (q::ids)=true/\(match lay off cs row with
   | some row'=>K ⟨.unk,ids.map (fun r=>(r,none))++[(q,some (.dar sz (rows.set i' row') none))],none,q::ids⟩
   | none=>False)):∃e,K e/\Good P o ev H e:=by
 obtain⟨ds,ids,⟨T0,h⟩,XA⟩:=vy _ _ h;rw[nodupI_iff]at T0;obtain⟨hqi,T0⟩:=F5.1 T0;split at h
 rotate_left
 ·exact h.elim
 rename_i row' TT;refine⟨_,h,?_⟩;intro N B M w0 ρ s a w Q K hc O3 hR QT hd hK;have P4:s.H q=some (.dar sz rows hole):=by rw[hR q s_];exact hq
 obtain⟨hu,g⟩:=hc.dar P4;have TG:=(hc.eval x).1;rw[O3 x P3,hx]at TG;obtain⟨b',n,c,e1,e2,e3⟩:=TG;have Xb:=hc.eval y;rw[O3 y US,hy]at Xb;have TK:=RR.cells Xb.1;obtain⟨Fn,f1,f2,f3,f4⟩:=XA hc (fun o ho=>hR o aao) T0 _ TK;have QK:(a.eval y).cells.size=ti.size:=by rw[<-O2,<-TK.length];simp
 obtain⟨l1,l2⟩:=kg TT;have RM:row.length=sz:=hu row (c9 P9)
 have Rw:i'<rows.length:=by
  rcases n5 i' rows.length with h'|h'
  ·exact h'
  ·rw[e9 h']at P9;cases P9
 rcases g with⟨g1,g2,_⟩|⟨b,cap,cur,e,fz,Fp,g1,g2,g3,g4,g5,g6,g7,g8,g9,g10⟩
 ·subst g2;simp at Rw
 ·rw[g1]at e1;injection e1 with e1 e1' e1'';injection e1 with e1;injection e1 with e1;subst e1;have agh:(a.eval y).cells.toList.length=ti.size:=by simpa using QK
  have Xa:(i'+1)*sz<=cap*sz:=m5 _ o_;have ZY:(i'+1)*sz=i'*sz+sz:=by rw[p8];omega
  have P1:=pC (w:=w) fit b (i'*sz+off) (a.eval y) QK g2 g3 o_ TK.one;obtain⟨QX,c1,c2,c3⟩:=fE b e fz (a.eval y).cells.toList (i'*sz+off) w cur g2 (by simp[QK];omega);have Up:row'.length=sz:=by rw[l2];simp;omega
  have RJ:=lR l1 l2 rows i' hu P9;have Yf:=bm sz rows hu;have TH:(i'+1)*sz<=rows.length*sz:=m5 _ Rw;have VG:rows.length*sz<=cap*sz:=m5 _ g4;have adz:cur.toList.length=cap*sz:=by simpa using g6
  let Fq:Nat->Nat->Prop:=fun p c=>if p<i'*sz+off then Fp p c else if p<i'*sz+off+ds.length then Fn (p-(i'*sz+off)) c else Fp p c
  have hqo:Own ρ q b:= .inl aat
  have Fq_cases:∀p c,Fq p c->(Fp p c/\¬(i'*sz+off<=p/\p<i'*sz+off+ds.length))\/(Fn (p-(i'*sz+off)) c/\i'*sz+off<=p/\p<i'*sz+off+ds.length):=by
   intro p c Sn;simp only[Fq]at Sn;split at Sn
   ·exact .inl ⟨Sn,o_⟩
   ·split at Sn
    ·exact .inr ⟨Sn,o_,o_⟩
    ·exact .inl ⟨Sn,o_⟩
  have apart:∀p p' c,Fp p c->¬Fn p' c:=by intro p p' c h1 h2;obtain⟨⟨o,x1,k1,k2,k3⟩,_⟩:=f3 p' c h2;exact hc.sep o q x1 _ c k2 P4 (fun e=>hqi (e▸k1)) k3 (.inr (g7 p c h1).1)
  obtain⟨ρ',this⟩:=hc.upd P4 (x':= .dar sz (rows.set i' row') none) (b:=b) aat ids hqi (fun c=>∃p,Fn p c) (fun c Tx=>by obtain⟨p,hp⟩:=Tx;exact(f3 p c hp).1) (fB b _ (i'*sz+off) w) abj (fun ρ' ok' hρ Ta hk TP hkF hkq=>by
   refine⟨fun r hr=>?_,.inr ⟨b,cap,QX,e,fz,Fq,by rw[hρ,g1,o8],c1,by rw[c2];exact g3,by rw[o8];exact g4,g5,by rw[c2];exact g6,fun p c Sn=>?_,fun p p' c P2 h1 h2=>?_,?_,fun p v d hv hd=>?_⟩⟩
   ·rcases u9 hr with h'|h'
    ·exact hu r h'
    ·rw[h'];exact Up
   ·rcases Fq_cases p c Sn with⟨h1,_⟩|⟨h1,_⟩
    ·exact⟨Ta c (.inl (g7 p c h1).1),(g7 p c h1).2⟩
    ·exact⟨Ta c (.inr ⟨_,h1⟩),(hkF c ⟨_,h1⟩).2⟩
   ·rcases Fq_cases p c h1 with⟨h1,m1⟩|⟨h1,m1⟩<;>rcases Fq_cases p' c h2 with⟨h2,m2⟩|⟨h2,m2⟩
    ·exact g8 p p' c P2 h1 h2
    ·exact apart _ _ _ h1 h2
    ·exact apart _ _ _ h2 h1
    ·exact f4 _ _ c o_ h1 h2
   ·rw[o8,RJ,c3];simp only[c7,k0,y9];rw[<-f1];omega
   ·simp only[cT];rw[RJ,Ae o_]at hd;rw[o8,n7,c3,Ae o_,f1]at hv;split at hv
    rotate_left
    ·cases hv
    rename_i hp;by_cases q1:p<i'*sz+off
    ·rw[b9 q1]at hv hd;have:=g9.2 p v d (by rw[n7,b9 hp];exact hv) hd;rw[hh p (.inl q1)]at this;refine this.keep hk fun c O8=>⟨hkq c (g7 p c O8).1 (g7 p c O8).2,?_⟩;simp only[Fq,b9 q1];exact O8
    ·rw[b8 q1]at hv hd;by_cases q2:p<i'*sz+off+ds.length
     ·rw[b9 q2]at hv hd;refine(f2 _ v d hv hd).keep hk fun c O8=>⟨(hkF c ⟨_,O8⟩).1,?_⟩;simp only[Fq,b8 q1,b9 q2];exact O8
     ·rw[b8 q2]at hv hd;have:=g9.2 p v d (by rw[n7,b9 hp];exact hv) hd;rw[hh p (.inr o_)]at this;refine this.keep hk fun c O8=>⟨hkq c (g7 p c O8).1 (g7 p c O8).2,?_⟩
      simp only[Fq,b8 q1,b8 q2];exact O8) hd undef (q::ids)
  have Ru:(execOp a.eval o).run P w= .ok .skip (w.setCells b (i'*sz+off) (a.eval y).cells.toList):=by simp only[execOp,ho,e3,n6,P1,j7,o9]
  unfold Oper.wp;rw[Ru];exact hK _ _ ρ' this
theorem Fd {T:TypeId}{x y:Operand}{ti:Qp}(hΓ:Γ.chk P=true)(hT:Γ.get T=some ti)(ho:o.op= .store T x y)(h:zR ti (ev x) (ev y) H K):∃e,K e/\Good P o ev H e:=by
 obtain⟨i,d,fit⟩:=Env.fit hΓ hT;have P3:x∈o.op.operands.toList:=by simp[ho,Op.operands]
 have US:y∈o.op.operands.toList:=by simp[ho,Op.operands]
 unfold zR at h;split at h
 ·rename_i ar hy;split at h
  ·rename_i O2;have O2:ar.cells.length=ti.size:=(by simpa using O2);split at h
   ·rename_i q off hx;split at h
    ·rename_i cells hq;split at h
     ·rename_i Uc TT;refine⟨_,h,?_⟩;intro N B M w0 ρ s a w Q K hc O3 hR QT hd hK;have P4:s.H q=some (.box cells):=(by rw[hR q s_];exact hq);obtain⟨b,us,t,fz,g1,g2,g3,g4,g5⟩:=hc.box P4;have TG:=(hc.eval x).1;rw[O3 x P3,hx]at TG;obtain⟨b',e1,e2⟩:=TG;rw[g1]at e1;injection e1 with e1;injection e1 with e1;injection e1 with e1;subst e1;have Xb:=hc.eval y;rw[O3 y US,hy]at Xb;have TK:=RR.cells Xb.1;have QK:(a.eval y).cells.size=ti.size:=(by rw[<-O2,<-TK.length];simp);obtain⟨l1,l2⟩:=kg TT;have XX:us.size=cells.length:=(by have:=g4.length;simpa using this);have P1:=pC (w:=w) fit b off (a.eval y) QK g2 g3 o_ TK.one;obtain⟨QX,c1,c2,c3⟩:=fE b t fz (a.eval y).cells.toList off w us g2 (by simp[QK];omega)
      obtain⟨ρ',this⟩:=hc.upd P4 (x':= .box Uc) (b:=b) aat [] s_ (fun _=>False) (fun _ h=>h.elim) (fB b _ off w) (NH TT (fun id O9=>Xb.2 id (Pq id O9)) (hc.usedH q _ P4).2) (fun ρ' ok' hρ _ hk _ _ _=>by
       refine⟨b,QX,t,fz,by rw[hρ];exact g1,c1,by rw[c2];exact g3,?_⟩;rw[c3,l2];have acS:(a.eval y).cells.toList.length=ar.cells.length:=TK.length;rw[acS]
       exact(((g4.take off).append TK).append (g4.drop _)).keep hk fun o _=>hρ o) hd undef [q]
      have Ru:(execOp a.eval o).run P w= .ok .skip (w.setCells b off (a.eval y).cells.toList):=by simp only[execOp,ho,e2,n6,P1,j7,o9]
      unfold Oper.wp;rw[Ru];exact hK _ _ ρ' this
     ·exact h.elim
    ·exact h.elim
   ·rename_i q QQ i' off hx;split at h
    ·rename_i fr sz rows hq;split at h
     rotate_left
     ·exact h.elim
     rename_i ts fr' ids T5;obtain⟨rfl,hqi,row,P9,h⟩:=h;split at h
     ·rename_i row' TT;refine⟨_,h,?_⟩;intro N B M w0 ρ s a w Q K hc O3 hR QT hd hK;have P4:s.H q=some (.arr fr sz rows):=(by rw[hR q s_];exact hq);obtain⟨hu,g⟩:=hc.arr P4;have TG:=(hc.eval x).1;rw[O3 x P3,hx]at TG;obtain⟨b',n,c,e1,e2,e3⟩:=TG;have Xb:=hc.eval y;rw[O3 y US,hy]at Xb;have TK:=RR.cells Xb.1
      have Zh:∀ok':Nat->Prop,(∀c,okB ρ s.H w c->ok' c)->(∀o x c,o∈ids->s.H o=some x->Own ρ o c->ok' c)->RTs w (okF B ok' fr') (a.eval y).cells.toList ts:=
       fun ok' O7 hb=>nn hc O7 T5 (fun o ho=>hR o aao) TK hb
      have Zl:ts.length=ti.size:=(by rw[<-(Zh (fun _=>True) (fun _ _=>trivial) (fun _ _ _ _ _ _=>trivial)).length,TK.length,O2]);have QK:(a.eval y).cells.size=ti.size:=(by rw[<-O2,<-TK.length];simp);obtain⟨l1,l2⟩:=kg TT;have RM:row.length=sz:=hu row (c9 P9)
      have Rw:i'<rows.length:=by
       rcases n5 i' rows.length with h'|h'
       ·exact h'
       ·rw[e9 h']at P9;cases P9
      rcases g with⟨g1,g2⟩|⟨b,cap,cur,e,fz,g1,g2,g3,g4,g5,g6,g7,g8,g9⟩
      ·subst g2;simp at Rw
      ·rw[g1]at e1;injection e1 with e1 e1' e1'';injection e1 with e1;injection e1 with e1;subst e1;have Xa:(i'+1)*sz<=cap*sz:=m5 _ o_;have ZY:(i'+1)*sz=i'*sz+sz:=(by rw[p8];omega);have P1:=pC (w:=w) fit b (i'*sz+off) (a.eval y) QK g2 g3 o_ TK.one;obtain⟨QX,c1,c2,c3⟩:=fE b e fz (a.eval y).cells.toList (i'*sz+off) w cur g2 (by simp[QK];omega);have Up:row'.length=sz:=(by rw[l2];simp;omega);have Wr:(a.eval y).cells.toList.length=ts.length:=(Zh (fun _=>True) (fun _ _=>trivial) (fun _ _ _ _ _ _=>trivial)).length
       have RJ:(rows.set i' row').flatten=rows.flatten.take (i'*sz+off)++ts++rows.flatten.drop (i'*sz+off+ts.length):=by exact lR l1 l2 rows i' hu P9
       have Yf:=bm sz rows hu;have TH:(i'+1)*sz<=rows.length*sz:=m5 _ Rw
       obtain⟨ρ',this⟩:=hc.upd P4 (x':= .arr (fr&&fr') sz (rows.set i' row')) (b:=b) aat ids hqi (fun _=>False) (fun _ h=>h.elim) (fB b _ (i'*sz+off) w) abj (fun ρ' ok' hρ _ hk acZ _ _=>by
        have TP:=fun o x c h1 h2 h3=>acZ o x c h1 h2 h3 (fun h=>h);refine⟨fun r hr=>?_,.inr ⟨b,cap,QX,e,fz,by rw[hρ,g1,o8],c1,by rw[c2];exact g3,by rw[o8];exact g4,g5,by rw[c2];exact g6,?_,fun e=>g9 (by simp at e;exact e.1)⟩⟩
        ·rcases u9 hr with h'|h'
         ·exact hu r h'
         ·rw[h'];exact Up
        ·rw[o8,RJ,c3,Wr]
         have e1:(cur.toList.take (i'*sz+off)++(a.eval y).cells.toList++cur.toList.drop (i'*sz+off+ts.length)).take (rows.length*sz)=
           (cur.toList.take (rows.length*sz)).take (i'*sz+off)++(a.eval y).cells.toList++(cur.toList.take (rows.length*sz)).drop (i'*sz+off+ts.length):=by
          rw[G2,z7 o_]
          have UE:(cur.toList.take (i'*sz+off)++(a.eval y).cells.toList).length=i'*sz+off+ts.length:=by rw[c7,Wr,k0];simp;omega
          rw[I3,gt (by rw[UE];omega),UE];congr 1;rw[List.drop_take]
         rw[e1]
         have Vc:∀c,okB ρ s.H w c\/(∃o x,o∈ids/\s.H o=some x/\Own ρ o c)->(w.setCells b (i'*sz+off) (a.eval y).cells.toList).heap[c]?=w.heap[c]?/\ok' c:=by
          rintro c (O8|⟨o,x,k1,k2,k3⟩)
          ·exact hk c O8
          ·exact TP o x c k1 k2 k3
         have ht1:=(Zh (fun c=>okB ρ s.H w c\/(∃o x,o∈ids/\s.H o=some x/\Own ρ o c)) (fun c h=> .inl h) (fun o x c k1 k2 k3=> .inr ⟨o,x,k1,k2,k3⟩)).keep (jQ (B:=B) Vc);have ht2:=ht1.keep (iP (B:=B) (ok:=ok') (w:=w.setCells b (i'*sz+off) (a.eval y).cells.toList) (fr':=fr&&fr') fun e=>by simp at e;exact e.2);have h71:=(g7.keep (jQ (B:=B) hk)).keep (iP (B:=B) (ok:=ok') (w:=w.setCells b (i'*sz+off) (a.eval y).cells.toList) (fr':=fr&&fr') fun e=>by simp at e;exact e.1)
         exact((h71.take _).append ht2).append (h71.drop _)) hd undef (q::ids)
       have Ru:(execOp a.eval o).run P w= .ok .skip (w.setCells b (i'*sz+off) (a.eval y).cells.toList):=by simp only[execOp,ho,e3,n6,P1,j7,o9]
       unfold Oper.wp;rw[Ru];exact hK _ _ ρ' this
     ·exact h.elim
    ·rename_i sz rows hq;obtain⟨rfl,row,P9,h⟩:=h;exact Cj fit ho P3 US hy hx hq O2 P9 (fun _ _=>rfl) h
    ·rename_i sz rows i2 off2 n2 hq;obtain⟨rfl,rfl,rfl,h1,row,P9,h⟩:=h;refine Cj fit ho P3 US hy hx hq O2 P9 (fun p hp=>?_) h;simp only[cT];rw[b8 o_]
    ·exact h.elim
   ·exact h.elim
  ·exact h.elim
 ·exact h.elim
end
section
variable {P:Program} {Γ:Env} {N B:Nat} {M:Nat->Prop} {w0:Start} {ρ:Rho} {s:F_} {a:Act} {w:World} {o:Oper} {ev:Operand->AV} {H:Id->Option AO} {K:Eff->Prop} {KV:AV->Prop}
theorem oB:∀(us YW:List (Id×Option AO)) (H:Id->Option AO),cD H (us++YW)=cD (cD H us) YW
 | [],_,_=>rfl
 | p::us,YW,H=>by rw[p9,cD,oB us YW];rfl
theorem Conc.ghost (h:Conc N B M w0 ρ s a w)(keys:List Id){ρ':Rho}{H':Id->Option AO}(hρ:∀o,ρ' o=ρ o)(Ta:∀o x,o∉keys->s.H o=some x->ρ'.fp o=ρ.fp o)(QZ:ρ'.al=ρ.al)(hH:∀o,o∉keys->H' o=s.H o)
  (QT:∀o x b,o∈keys->H' o=some x->Own ρ' o b->∃o' x',s.H o'=some x'/\o'∈keys/\Own ρ o' b)
  (VM:∀o o' x x' b,o∈keys->o'∈keys->H' o=some x->H' o'=some x'->o≠o'->Own ρ' o b->¬Own ρ' o' b)
  (Rj:∀(_:∀b,okB ρ s.H w b->okB ρ' H' w b),∀o x,o∈keys->H' o=some x->RO B ρ' w (okB ρ' H' w) o x/\s.U o.1/\∀o'∈x.ids,s.U o'.1):Conc N B M w0 ρ' ⟨s.L,H',s.U⟩ a w:=by
 have:=h.step (fun _=>False) keys (w':=w) (ρ':=ρ') (H':=H') (U':=s.U) (a':=a) (L':=s.L) (Turn.refl _ _) h.size h.defers (fun o _=>hρ o) Ta QZ hH (fun _ h=>h) (fun _ _ h=>h) (fun _ _ _ _ _ _ h=>h) (fun _ _ _ h=>h)
  (fun o x b h1 h2 h3=>by
   obtain⟨o',x',g1,g2,g3⟩:=QT o x b h1 h2 h3;have:=h.rng o' x' b g1 g3
   exact⟨this.1,this.2,.inr ⟨o',x',g1,g2,g3⟩⟩) VM (fun hk=>Rj fun b hb=>(hk b hb).2) (fun _ t=> .inl ⟨rfl,rfl⟩)
 exact this
theorem Conc.close (h:Conc N B M w0 ρ s a w){q n:Id}(UB:n≠q){sz:Nat}{rows:List (List DC)}{i off:Nat}(hq:s.H q=some (.dar sz rows (some (i,off,n)))){y:AO}(hy:s.H n=some y){t:Nat}{rs:List (List Tr)}
  (YK:DT w (Own ρ n) (ρ n) (.lst t rs)) {row:List DC} (hr:rows[i]?=some row) (ho:off<sz):
  ∃ρ',Conc N B M w0 ρ' ⟨s.L,cD s.H [(n,none),(q,some (.dar sz (rows.set i (row.set off (.d (.lst t rs)))) none))],s.U⟩ a w:=by
 obtain⟨hu,g⟩:=h.dar hq
 have hi:i<rows.length:=by exact V143
 rcases g with⟨_,g,_⟩|⟨b,cap,cur,e,fz,Fp,g1,g2,g3,g4,g5,g6,g7,g8,g9,g10⟩
 ·subst g;simp at hr
 let ρ':Rho:=⟨ρ.val,fun o c=>ρ.fp o c\/(o=q/\Own ρ n c),ρ.al⟩
 have P8:∀o c,Own ρ' o c↔(Own ρ o c\/(o=q/\Own ρ n c)):=fun o c=>by
  show(blk (ρ o)=some c\/(ρ.fp o c\/(o=q/\Own ρ n c)))↔(Own ρ o c\/(o=q/\Own ρ n c));rw[<-or_assoc];rfl
 have Uh:∀o,cD s.H [(n,none),(q,some (.dar sz (rows.set i (row.set off (.d (.lst t rs)))) none))] o=if o=q then some (.dar sz (rows.set i (row.set off (.d (.lst t rs)))) none)else if o=n then none else s.H o:=by intro o;simp only[cD]
 refine⟨ρ',?_⟩;refine h.ghost [q,n] (ρ':=ρ') (fun _=>rfl) (fun o x h1 _=>?_) rfl (fun o h1=>?_) (fun o x c h1 h2 h3=>?_) (fun o o' x x' c h1 h2 h3 h4 P2=>?_) (fun hk o x h1 h2=>?_)
 ·simp only[d8,m8,or_false,not_or]at h1;funext c;exact propext ⟨fun hc=>hc.elim id fun hc=>absurd hc.1 h1.1,.inl⟩
 ·simp only[d8,m8,or_false,not_or]at h1;rw[Uh,b8 h1.1,b8 h1.2]
 ·simp only[d8,m8,or_false]at h1;rw[Uh]at h2;rcases h1 with rfl|rfl
  ·rw[P8]at h3;rcases h3 with h3|⟨_,h3⟩
   ·exact⟨o,_,hq,s_,h3⟩
   ·exact⟨n,_,hy,s_,h3⟩
  ·rw[b8 UB,b9 rfl]at h2;cases h2
 ·exfalso;rw[Uh]at h3 h4;simp only[d8,m8,or_false]at h1 h2;rcases h1 with rfl|rfl
  ·rcases h2 with rfl|rfl
   ·exact P2 rfl
   ·rw[b8 UB,b9 rfl]at h4;cases h4
  ·rw[b8 UB,b9 rfl]at h3;cases h3
 ·rw[Uh]at h2;simp only[d8,m8,or_false]at h1;rcases h1 with rfl|rfl
  ·rw[b9 rfl]at h2;injection h2 with h2;subst h2;have P9:=hu row (c9 hr);have P7:=wu sz rows i off row (.d (.lst t rs)) hu hr ho;refine⟨⟨fun r Uz=>?_,.inr ⟨b,cap,cur,e,fz,fun p c=>(p≠i*sz+off/\Fp p c)\/(p=i*sz+off/\Own ρ n c),by rw[o8];exact g1,g2,g3,by rw[o8];exact g4,g5,g6,fun p c hc=>?_,fun p p' c P2 h1 h2=>?_,?_,fun p v d hv hd=>?_⟩⟩,(h.usedH o _ hq).1,by simp[AO.ids]⟩
   ·rcases u9 Uz with h'|h'
    ·exact hu r h'
    ·rw[h',o8];exact P9
   ·rcases hc with⟨_,hc⟩|⟨_,hc⟩
    ·exact⟨.inl (g7 p c hc).1,(g7 p c hc).2⟩
    ·refine⟨.inr ⟨rfl,hc⟩,fun e=>?_⟩;subst e;exact h.sep n o y _ c hy hq UB hc (.inl aat)
   ·rcases h1 with⟨m1,h1⟩|⟨m1,h1⟩<;>rcases h2 with⟨m2,h2⟩|⟨m2,h2⟩
    ·exact g8 p p' c P2 h1 h2
    ·exact h.sep n o y _ c hy hq UB h2 (.inr (g7 p c h1).1)
    ·exact h.sep n o y _ c hy hq UB h1 (.inr (g7 p' c h2).1)
    ·omega
   ·rw[o8,P7,o8];exact g9.1
   ·simp only[cT];rw[P7]at hd;rw[o8]at hv;by_cases hp:p=i*sz+off
    ·subst hp
     rw[s6 (by
      rw[<-g9.1];have:=z6.1 hv
      exact this.1)]at hd
     injection hd with hd;subst hd
     have O4:i*sz+off<rows.flatten.length:=by rw[<-g9.1];exact(z6.1 hv).1
     have:=g9.2 _ v _ hv (i9 O4);simp only[cT,if_true]at this;rw[this.1];exact YK.keep fun c hc=>⟨rfl,.inr ⟨rfl,hc⟩⟩
    ·rw[y6 (fun e=>hp e.symm)]at hd;have:=g9.2 p v d hv hd;simp only[cT,b8 hp]at this;exact RD.keep this (fun b' Rc=>⟨rfl,hk b' Rc⟩) fun c hc=>⟨rfl,.inl ⟨hp,hc⟩⟩
  ·rw[b8 UB,b9 rfl]at h2;cases h2
theorem rr {x:AV}{K:(Id->Option AO)->List (Id×Option AO)->List Id->Prop}(hx:uo H x K):∃H' us R,K H' us R/\∀{N B:Nat} {M:Nat->Prop} {w0:Start} {ρ:Rho} {s:F_} {a:Act} {w:World},Conc N B M w0 ρ s a w->
  (∀id∈R,s.H id=H id)->(∃ρ',Conc N B M w0 ρ' ⟨s.L,cD s.H us,s.U⟩ a w)/\∀id,s.H id=H id->cD s.H us id=H' id:=by
 have same:∀{K:(Id->Option AO)->List (Id×Option AO)->List Id->Prop},K H [] []->∃H' us R,K H' us R/\∀{N B:Nat} {M:Nat->Prop} {w0:Start} {ρ:Rho} {s:F_} {a:Act} {w:World},Conc N B M w0 ρ s a w->
   (∀id∈R,s.H id=H id)->(∃ρ',Conc N B M w0 ρ' ⟨s.L,cD s.H us,s.U⟩ a w)/\∀id,s.H id=H id->cD s.H us id=H' id:=
  fun h=>⟨H,[],[],h,fun hc _=>⟨⟨_,hc⟩,fun id O9=>O9⟩⟩
 have agree:∀{s:F_} {q n:Id} {d:AO} (id:Id),s.H id=H id->cD s.H [(n,none),(q,some d)] id=HY (HY H n none) q (some d) id:=by
  intro s q n d id O9
  have he:∀x y:Id,(bif gw x y then true else false)=decide (x=y):=fun x y=>by
   cases hb:gw x y with
   | true=>rw[idEq_iff]at hb;simp[hb]
   | false=>symm;simp only[cond_false,p6];intro e;rw[idEq_iff.2 e]at hb;cases hb
  have hb:∀(x y:Id) (A B:Option AO),(bif gw x y then A else B)=if x=y then A else B:=fun x y A B=>by
   have:=he x y
   cases hb:gw x y with
   | true=>
        rw[hb]at this;have h2:x=y:=by simpa using this
        simp[h2]
   | false=>
         rw[hb]at this;have h2:¬x=y:=by simpa using this
         simp[h2]
  simp only[cD,HY,hb];by_cases e1:id=q
  ·simp[e1]
  ·have e1':¬q=id:=fun e=>e1 e.symm;by_cases e2:id=n
   ·subst e2;simp[e1,e1']
   ·have e2':¬n=id:=fun e=>e2 e.symm;simp[e1,e1',e2,e2',O9]
 unfold uo at hx;split at hx
 ·rename_i q QQ i' Xj;split at hx
  ·rename_i sz rows i off n hq;split at hx
   ·rename_i fr t rs hn hy;obtain⟨P7,row,hr,ho,hK⟩:=hx;have UB:n≠q:=fun e=>by rw[idEq_iff.2 e]at hn;cases hn
    refine⟨_,_,_,hK,fun hc hR=>⟨?_,agree⟩⟩;have P4:=(hR q s_).trans hq;have UO:=(hR n s_).trans hy;exact hc.close UB P4 UO (Ia hc UO P7) hr ho
   ·rename_i t rs hn hy;obtain⟨rs',rfl,row,hr,ho,hK⟩:=hx;have UB:n≠q:=fun e=>by rw[idEq_iff.2 e]at hn;cases hn
    refine⟨_,_,_,hK,fun hc hR=>⟨?_,agree⟩⟩;have P4:=(hR q s_).trans hq;have UO:=(hR n s_).trans hy;exact hc.close UB P4 UO (LX hc UO) hr ho
   ·exact same hx
   ·exact hx.elim
  ·exact same hx
 ·exact same hx
theorem yq {H':Id->Option AO}{us:List (Id×Option AO)}{R:List Id}{e:Eff}(QK:∀{N B:Nat} {M:Nat->Prop} {w0:Start} {ρ:Rho} {s:F_} {a:Act} {w:World},Conc N B M w0 ρ s a w->
  (∀id∈R,s.H id=H id)->(∃ρ',Conc N B M w0 ρ' ⟨s.L,cD s.H us,s.U⟩ a w)/\∀id,s.H id=H id->cD s.H us id=H' id) (hg:Good P o ev H' e):Good P o ev H ⟨e.v,us++e.us,e.new,R++e.R⟩:=by
 intro N B M w0 ρ s a w Q K hc O3 hR hn hd hK;obtain⟨⟨ρ1,h1⟩,h2⟩:=QK hc fun id O9=>hR id (by simp[O9]);refine hg N B M w0 ρ1 ⟨s.L,cD s.H us,s.U⟩ a w Q K h1 O3 (fun id O9=>h2 id (hR id (by simp[O9]))) hn hd fun v w' ρ' h'=>hK v w' ρ' ?_;refine h'.congr (fun _=>rfl) (fun o=>?_) fun _=>Iff.rfl;simp only[F_.app,oB]
end
section
variable {P:Program} {Γ:Env} {N B:Nat} {M:Nat->Prop} {w0:Start} {ρ ρ':Rho} {s:F_} {a:Act} {w w':World} {o:Oper} {ev:Operand->AV} {H:Id->Option AO} {K:Eff->Prop} {KV:AV->Prop}
theorem Et {α β:Type}(f:α->β)(l:List (List α)):(l.map (·.map f)).flatten=l.flatten.map f:=(I1 ..).symm
theorem KI (hc:Conc N B M w0 ρ s a w){ok':Nat->Prop}(hk:∀b,okB ρ s.H w b->ok' b){q:Id}(P4:∀x b,s.H q=some x->Own ρ q b->ok' b){fr:Bool}{sz:Nat}{rows:List (List Tr)}(hq:s.H q=some (.arr fr sz rows)):RT w ok' (ρ q) (.lst sz rows):=by
 obtain⟨hu,g⟩:=hc.arr hq;rcases g with⟨g1,g2⟩|⟨b,cap,cur,e,fz,g1,g2,g3,g4,g5,g6,g7,g8,g9⟩
 ·subst g2;rw[g1];exact .emp _ _ _ (v9 _)
 ·have hb:=P4 _ b hq (.inl aat);rw[g1];exact .lst _ _ _ _ _ _ rfl g4 g5 hu hb (by rw[g7.length]) g8 fun p v u hv Rp=>(g7.get p v u hv Rp).keep fun c O8=>⟨rfl,hk c O8.1⟩
theorem Nl (hc:Conc N B M w0 ρ s a w){ok':Nat->Prop}(hk:∀b,okB ρ s.H w b->ok' b){q:Id}(P4:∀x b,s.H q=some x->Own ρ q b->ok' b){sz:Nat}{rows:List (List DC)}(hq:s.H q=some (.dar sz rows none)):RT w ok' (ρ q) (.lst sz (rows.map (·.map DC.tr))):=by
 obtain⟨hu,g⟩:=hc.dar hq;rcases g with⟨g1,g2,_⟩|⟨b,cap,cur,e,fz,Fp,g1,g2,g3,g4,g5,g6,g7,g8,g9,g10⟩
 ·subst g2;rw[g1];exact .emp _ _ _ (v9 _)
 ·have hb:=P4 _ b hq (.inl aat);rw[g1];refine .lst _ _ _ _ _ _ s_ g4 g5 (fun r hr=>?_) hb (by rw[g9.1,Et,d9]) g10 fun p v u hv Rp=>?_
  ·obtain⟨r',h1,rfl⟩:=q7.1 hr;rw[d9];exact hu r' h1
  ·rw[Et,j9]at Rp
   cases hd:rows.flatten[p]? with
   | none=>rw[hd]at Rp;cases Rp
   | some d=>
    rw[hd]at Rp;injection Rp with Rp;subst Rp;have:=g9.2 p v d hv hd;simp only[cT]at this
    cases d with
    | t x=>exact RT.keep this fun c O8=>⟨rfl,hk c O8⟩
    | d x=>exact DT.toRT this fun c O8=>P4 _ c hq (.inr (g7 p c O8).1)
theorem lk (hc:Conc N B M w0 ρ s a w){ok':Nat->Prop}(hk:∀b,okB ρ s.H w b->ok' b){v:Value}{c:AC}{t:Tr}(P4:∀q∈c.ids,∀x b,s.H q=some x->Own ρ q b->ok' b)(hv:RC B ρ w (okB ρ s.H w) v c)(h:fG s.H c t):RT w ok' v t:=by
 cases c with
 | t x=>cases h;exact RT.keep hv fun b hb=>⟨rfl,hk b hb⟩
 | f x=>cases h;exact RT.keep hv fun b hb=>⟨rfl,hk b hb.1⟩
 | nils n=>
  obtain⟨sz,rfl⟩:=h;have:v= .slice none 0 0:=hv;rw[this]
  exact .emp _ _ _ (v9 _)
 | nilp=>exact h.elim
 | opq=>exact h.elim
 | mpv=>exact h.elim
 | own q=>
  have Yx:=P4 q aaz;simp only[fG]at h;obtain⟨_,e⟩:=hv;rw[e];split at h
  ·rename_i fr sz rows hq;subst h;exact KI hc hk Yx hq
  ·rename_i sz rows hq;subst h;exact Nl hc hk Yx hq
  ·exact h.elim
 | sub q k=>
  have Yx:=P4 q aaz;simp only[fG]at h;obtain⟨A,n,c,e0,e1,e2⟩:=hv;rw[e1]
  have fin:∀(sz:Nat) (rows:List (List Tr)),RT w ok' (.slice A n c) (.lst sz rows)->n=rows.length->RT w ok' (.slice A k c) (.lst sz (rows.take k)):=by
   intro sz rows hf hn;have:=hf.cut 0 k (v9 _) o_;simp only[Nat.zero_mul,Option.map_id',iA,u7,A1]at this;by_cases h0:c=0
   ·rw[b9 h0]at this;exact this
   ·rw[b8 h0]at this;exact this
  split at h
  ·rename_i fr sz rows hq;subst h;have:=KI hc hk Yx hq;rw[e0]at this;obtain⟨_,_,hs,_⟩:=this.slice_inv;injection hs with _ hs _;exact fin _ _ this hs
  ·rename_i sz rows hq;subst h;have:=Nl hc hk Yx hq;rw[e0]at this;obtain⟨_,_,hs,_⟩:=this.slice_inv;injection hs with _ hs _;rw[y8];exact fin _ _ this hs
  ·exact h.elim
 | ptr q off=>exact h.elim
theorem Bz (hc:Conc N B M w0 ρ s a w){v:Value}{c:AC}{t:Tr}(hv:RC B ρ w (okB ρ s.H w) v c)(h:fG s.H c t):RT w (fun b=>b<w.heap.size) v t:=
 lk hc (fun b hb=>hb.1.1) (fun q _ x b hq hb=>(hc.rng q x b hq hb).1) hv h
theorem yk (hc:Conc N B M w0 ρ s a w):∀{vs:List Value} {cs:List AC} {ts:List Tr},RCs B ρ w (okB ρ s.H w) vs cs->tk s.H cs ts->RTs w (fun b=>b<w.heap.size) vs ts
 | [],[],[],_,_=>trivial
 | _::_,_::_,_::_,h,h'=>⟨Bz hc h.1 h'.1,yk hc h.2 h'.2⟩
 | [],_::_,_,h,_=>h.elim
 | _::_,[],_,h,_=>h.elim
 | [],[],_::_,_,h=>h.elim
 | _::_,_::_,[],_,h=>h.elim
theorem HK (hc:Conc N B M w0 ρ s a w){v:Value}{x:AV}{t:TV}(hv:RV B ρ w (okB ρ s.H w) v x)(h:xV s.H x t):RTV w (fun b=>b<w.heap.size) v t:=by
 cases x with
 | r ar=>
  cases ar with
  | c c=>cases t with|c t=>exact Bz hc hv h|agg=>exact h.elim
  | agg cs=>cases t with|c t=>exact h.elim|agg ts=>obtain⟨us,rfl,hr⟩:=hv;exact⟨us,rfl,yk hc hr h⟩
 | tup=>exact h.elim
 | el=>exact h.elim
 | ro=>exact h.elim
 | unk=>exact h.elim
theorem nw {H H':Id->Option AO}{c:AC}{t:Tr}(hH:∀o∈c.ids,H' o=H o)(h:fG H c t):fG H' c t:=by cases c<;>simp only[fG]at h⊢<;> first|exact h|(rw[hH _ aaz];exact h)
theorem rf {H H':Id->Option AO}:∀{cs:List AC} {ts:List Tr},(∀o∈cs.flatMap AC.ids,H' o=H o)->tk H cs ts->tk H' cs ts
 | [],[],_,_=>trivial
 | c::cs,t::ts,hH,h=>⟨nw (fun o ho=>hH o aao) h.1,rf (fun o ho=>hH o aa8) h.2⟩
 | [],_::_,_,h=>h.elim
 | _::_,[],_,h=>h.elim
theorem AB {H H':Id->Option AO}{x:AV}{t:TV}(hH:∀o∈x.ids,H' o=H o)(h:xV H x t):xV H' x t:=by
 cases x with
 | r ar=>
  cases ar with
  | c c=>cases t with
   | c t=>exact nw hH h
   | agg=>exact h.elim
  | agg cs=>cases t with
   | c t=>exact h.elim
   | agg ts=>exact rf hH h
 | tup=>exact h.elim
 | el=>exact h.elim
 | ro=>exact h.elim
 | unk=>exact h.elim
theorem CQ (hc:Conc N B M w0 ρ s a w):∀(xs:List Operand) (ts:List TV),(∀x∈xs,evL s.L x=ev x)->(∀o∈(xs.map ev).flatMap AV.ids,s.H o=H o)->fy H (xs.map ev) ts->RTVs w (fun b=>b<w.heap.size) (xs.map a.eval) ts
 | [],[],_,_,_=>trivial
 | x::xs,t::ts,hx,hH,h=>by
  refine⟨HK hc (x:=ev x) ?_ (AB (fun o ho=>hH o aao) h.1),CQ hc xs ts (fun y hy=>hx y aba) (fun o ho=>hH o (by simp only[p7,v3,f0];exact .inr ho)) h.2⟩;have:=(hc.eval x).1
  rwa [hx x s_]at this
 | [],_::_,_,_,h=>h.elim
 | _::_,[],_,_,h=>h.elim
theorem NX {d i j:Nat}{cs:List RC'}{o:Id}{x:AO}(h:(o,x)∈RC'.oss d i j cs):o.1=d/\((0,o.2),x)∈RC'.oss 0 i j cs:=by
 induction cs generalizing j with
 | nil=>simp[RC'.oss]at h
 | cons c cs ih=>
  simp only[RC'.oss,f0]at h⊢;rcases h with h|h
  ·cases c with|t x=>simp[RC'.os]at h|arr sz rows=>simp only[RC'.os,t6,Prod.mk.injEq]at h;obtain⟨rfl,rfl⟩:=h;exact⟨rfl,.inl (by simp[RC'.os])⟩
  ·exact⟨(ih h).1,.inr (ih h).2⟩
theorem Dq {d i:Nat}{x:RR'}{o:Id}{y:AO}(h:(o,y)∈x.os d i):o.1=d/\((0,o.2),y)∈x.os 0 i:=by
 cases x with
 | c c=>cases c with
  | t x=>simp[RR'.os,RC'.os]at h
  | arr sz rows=>simp only[RR'.os,RC'.os,t6,Prod.mk.injEq]at h;obtain⟨rfl,rfl⟩:=h;exact⟨rfl,by simp[RR'.os,RC'.os]⟩
 | agg cs=>exact NX h
theorem Lz {d i:Nat}{xs:List RR'}{o:Id}{y:AO}(h:(o,y)∈RR'.oss d i xs):o.1=d/\((0,o.2),y)∈RR'.oss 0 i xs:=by
 induction xs generalizing i with
 | nil=>simp[RR'.oss]at h
 | cons x xs ih=>
  simp only[RR'.oss,f0]at h⊢;rcases h with h|h
  ·exact⟨(Dq h).1,.inl (Dq h).2⟩
  ·exact⟨(ih h).1,.inr (ih h).2⟩
theorem tp {d:Nat}{r:Res}{o:Id}{y:AO}(h:(o,y)∈r.os d):o.1=d/\((0,o.2),y)∈r.os 0:=by cases r with|r x=>exact Dq h|tup xs=>exact Lz h
theorem Jb {B' d i j:Nat}{c:RC'}{v:Value}{ok ok':Nat->Prop}(hρ:∀q:Nat×Nat,ρ' (d,q)=ρ (0,q))(hk:∀b,ok b->ok' b)(h:RC B' ρ w ok v (c.ac 0 i j)):RC B ρ' w ok' v (c.ac d i j):=by
 cases c with
 | t x=>exact RT.keep h fun b hb=>⟨rfl,hk b hb⟩
 | arr sz rows=>obtain⟨⟨A,n,c,e⟩,e1⟩:=h;exact⟨⟨A,n,c,(hρ (i,j)).trans e⟩,e1.trans (hρ (i,j)).symm⟩
theorem GB {B' d i:Nat}{ok ok':Nat->Prop}(hρ:∀q:Nat×Nat,ρ' (d,q)=ρ (0,q))(hk:∀b,ok b->ok' b):∀{cs:List RC'} {j:Nat} {vs:List Value},RCs B' ρ w ok vs (RC'.acs 0 i j cs)->RCs B ρ' w ok' vs (RC'.acs d i j cs)
 | [],_,[],_=>trivial
 | _::_,_,_::_,h=>⟨Jb hρ hk h.1,GB hρ hk h.2⟩
 | [],_,_::_,h=>h.elim
 | _::_,_,[],h=>h.elim
theorem IC {B' d i:Nat}{x:RR'}{v:Value}{ok ok':Nat->Prop}(hρ:∀q:Nat×Nat,ρ' (d,q)=ρ (0,q))(hk:∀b,ok b->ok' b)(h:RR B' ρ w ok v (x.ar 0 i)):RR B ρ' w ok' v (x.ar d i):=by cases x with|c c=>exact Jb hρ hk h|agg cs=>obtain⟨us,e,h⟩:=h;exact⟨us,e,GB hρ hk h⟩
theorem FD {B' d:Nat}{ok ok':Nat->Prop}(hρ:∀q:Nat×Nat,ρ' (d,q)=ρ (0,q))(hk:∀b,ok b->ok' b):∀{xs:List RR'} {i:Nat} {vs:List Value},RRs B' ρ w ok vs (RR'.ars 0 i xs)->RRs B ρ' w ok' vs (RR'.ars d i xs)
 | [],_,[],_=>trivial
 | _::_,_,_::_,h=>⟨IC hρ hk h.1,FD hρ hk h.2⟩
 | [],_,_::_,h=>h.elim
 | _::_,_,[],h=>h.elim
theorem ND {B' d:Nat}{r:Res}{v:Value}{ok ok':Nat->Prop}(hρ:∀q:Nat×Nat,ρ' (d,q)=ρ (0,q))(hk:∀b,ok b->ok' b)(h:RV B' ρ w ok v (r.av 0)):RV B ρ' w ok' v (r.av d):=by cases r with|r x=>exact IC hρ hk h|tup xs=>obtain⟨us,e,h⟩:=h;exact⟨us,e,FD hρ hk h⟩
theorem Ne (d i j:Nat)(c:RC'):∀id∈(c.ac d i j).ids,id.1=d:=by cases c with|t x=>simp[RC'.ac,AC.ids]|arr sz rows=>intro id O9;simp[RC'.ac,AC.ids]at O9;rw[O9]
theorem It (d i:Nat):∀(cs:List RC') (j:Nat),∀id∈(RC'.acs d i j cs).flatMap AC.ids,id.1=d
 | [],_,id,O9=>by simp[RC'.acs]at O9
 | c::cs,j,id,O9=>by
  simp only[RC'.acs,v3,f0]at O9;rcases O9 with O9|O9
  ·exact Ne d i j c id O9
  ·exact It d i cs (j+1) id O9
theorem IH (d i:Nat)(x:RR'):∀id∈(x.ar d i).ids,id.1=d:=by cases x with|c c=>exact Ne d i 0 c|agg cs=>exact It d i cs 0
theorem Ix (d:Nat):∀(xs:List RR') (i:Nat),∀id∈(RR'.ars d i xs).flatMap AR.ids,id.1=d
 | [],_,id,O9=>by simp[RR'.ars]at O9
 | c::cs,i,id,O9=>by
  simp only[RR'.ars,v3,f0]at O9;rcases O9 with O9|O9
  ·exact IH d i c id O9
  ·exact Ix d cs (i+1) id O9
theorem av_ids (d:Nat)(r:Res):∀id∈(r.av d).ids,id.1=d:=by cases r with|r x=>exact IH d 0 x|tup xs=>exact Ix d xs 0
theorem Og {d i:Nat}{cs:List RC'}{j:Nat}{o:Id}{x:AO}(h:(o,x)∈RC'.oss d i j cs):∃sz rows,x= .arr true sz rows:=by
 induction cs generalizing j with
 | nil=>simp[RC'.oss]at h
 | cons c cs ih=>
  simp only[RC'.oss,f0]at h;rcases h with h|h
  ·cases c with|t x=>simp[RC'.os]at h|arr sz rows=>simp only[RC'.os,t6,Prod.mk.injEq]at h;exact⟨sz,rows,h.2⟩
  ·exact ih h
theorem IY {d i:Nat}{y:RR'}{o:Id}{x:AO}(h:(o,x)∈y.os d i):∃sz rows,x= .arr true sz rows:=by
 cases y with
 | c c=>cases c with
  | t x=>simp[RR'.os,RC'.os]at h
  | arr sz rows=>simp only[RR'.os,RC'.os,t6,Prod.mk.injEq]at h;exact⟨sz,rows,h.2⟩
 | agg cs=>exact Og h
theorem MB {d i:Nat}{xs:List RR'}{o:Id}{x:AO}(h:(o,x)∈RR'.oss d i xs):∃sz rows,x= .arr true sz rows:=by
 induction xs generalizing i with
 | nil=>simp[RR'.oss]at h
 | cons y xs ih=>
  simp only[RR'.oss,f0]at h;rcases h with h|h
  ·exact IY h
  ·exact ih h
theorem DA {d:Nat}{r:Res}{o:Id}{x:AO}(h:(o,x)∈r.os d):∃sz rows,x= .arr true sz rows:=by cases r with|r x=>exact IY h|tup xs=>exact MB h
theorem vJ:∀(us:List (Id×AO)) (H:Id->Option AO) (o:Id) (x:AO),cD H (us.map fun p=>(p.1,some p.2)) o=some x->(o,x)∈us\/(o∉us.map (·.1)/\H o=some x)
 | [],H,o,x,h=> .inr ⟨s_,h⟩
 | p::us,H,o,x,h=>by
  simp only[p7,cD]at h;rcases vJ us _ o x h with h'|⟨h1,h2⟩
  ·exact .inl (by simp[h'])
  ·by_cases e:o=p.1
   ·rw[b9 e]at h2;injection h2 with h2;left;rw[e,<-h2];simp
   ·rw[b8 e]at h2;exact .inr ⟨by simp only[p7,d8,e,false_or];exact h1,h2⟩
theorem Conc.result (h:Conc N B M w0 ρ s a w){d:Nat}(hd:d<N)(hU:¬s.U d){r:Res}{v:Value}(hb:Below w.heap.size w w')(hr:yO w.heap.size w' v r)(R:List Id):
  ∃ρ',Conc N B M w0 ρ' (s.app (some d) ⟨r.av d,r.us d,some d,R⟩) (a.put (some d) v) w':=by
 obtain⟨ρr,okp,Ys,ZH,Rj,VM⟩:=hr
 let ρ':Rho:=⟨fun o=>if o.1=d then ρr (0,o.2)else ρ o,fun o c=>o.1≠d/\ρ.fp o c,ρ.al⟩
 have hρ:∀o:Id,s.U o.1->ρ' o=ρ o:=fun o ho=>b8 (fun e:o.1=d=>hU abl);have QT:∀q:Nat×Nat,ρ' (d,q)=ρr (0,q):=fun q=>b9 rfl
 have UF:∀o b,o.1=d->Own ρ' o b->blk (ρr (0,o.2))=some b:=fun o b e h1=>by
  rcases h1 with h1|h1
  ·have:ρ' o=ρr (0,o.2):=b9 e;rwa [this]at h1
  ·exact absurd e h1.1
 have aa1:∀o b,s.U o.1->Own ρ' o b->Own ρ o b:=fun o b e h1=>by
  rcases h1 with h1|h1
  ·rw[hρ o e]at h1;exact .inl h1
  ·exact .inr h1.2
 have hT:Turn (fun _=>False) w w':=⟨hb.os,hb.tape,hb.output,hb.size,fun k hk _=>hb.block k hk⟩;have hH:∀o x,cD s.H (r.us d) o=some x->(o,x)∈r.os d\/(o∉(r.os d).map (·.1)/\s.H o=some x):=fun o x ho=>vJ (r.os d) s.H o x ho
 have O7:∀b,okp b->okB ρ' (cD s.H (r.us d)) w' b:=by
  intro b Rc;refine⟨⟨(Ys b Rc).1,h.alw b (.inl (s8 h.base (Ys b Rc).2))⟩,fun o x ho he=>?_⟩;rcases hH o x ho with h1|⟨_,h1⟩
  ·obtain⟨g1,g2⟩:=tp h1;exact((Rj _ _ g2).2 b (UF o b g1 he)).2.2 Rc
  ·have:=(h.rng o x b h1 (aa1 o b (h.usedH o x h1).1 he)).1;have:=(Ys b Rc).2;omega
 refine⟨ρ',?_⟩
 have:=h.step (fun _=>False) ((r.os d).map (·.1)) (w':=w') (ρ':=ρ') (H':=cD s.H (r.us d)) (U':=fun n=>s.U n\/n=d) (a':=a.put (some d) v) (L':=pj s.L (some d) (r.av d)) hT abc aa9 hρ
  (fun o x _ ho=>by
   funext c;have:o.1≠d:=fun e=>hU (by rw[<-e];exact(h.usedH o x ho).1)
   exact propext ⟨fun h=>h.2,fun h=>⟨this,h⟩⟩) rfl
  (fun o ho=>dx _ _ o (by simpa [Res.us]using ho)) (fun n hn=> .inl hn) (fun _ _ h=>h) (fun _ _ _ _ _ _ h=>h) (fun _ _ _ h=>h)
  (fun o x b h1 h2 h3=>by
   rcases hH o x h2 with g|⟨g,_⟩
   ·obtain⟨g1,g2⟩:=tp g;have:=(Rj _ _ g2).2 b (UF o b g1 h3);exact⟨this.2.1,.inl (s8 h.base this.1),.inl this.1⟩
   ·exact absurd h1 g)
  (fun o o' x x' b h1 h2 h3 h4 P2 h5 h6=>by
   rcases hH o x h3 with g|⟨g,_⟩
   ·rcases hH o' x' h4 with g'|⟨g',_⟩
    ·obtain⟨e1,e2⟩:=tp g;obtain⟨e3,e4⟩:=tp g';refine VM _ _ _ _ e2 e4 (fun he=>P2 ?_) b (UF o b e1 h5) (UF o' b e3 h6);have:o.2=o'.2:=congrArg (·.2) he;exact Prod.ext (e1.trans e3.symm) this
    ·exact absurd h2 g'
   ·exact absurd h1 g)
  (fun hk o x h1 h2=>by
   rcases hH o x h2 with g|⟨g,_⟩
   ·obtain⟨g1,g2⟩:=tp g;have e:ρ' o=ρr (0,o.2):=b9 g1;have hx:=(Rj _ _ g2).1;refine⟨?_,.inr g1,?_⟩
    ·obtain⟨sz,rows,rfl⟩:=DA g2;obtain⟨hu,hx⟩:=hx;refine⟨hu,?_⟩;rcases hx with⟨k1,k2⟩|⟨b,cap,cur,e',fz,k1,k2,k3,k4,k5,k6,k7,k8⟩
     ·exact .inl ⟨by rw[e];exact k1,k2⟩
     ·exact .inr ⟨b,cap,cur,e',fz,by rw[e];exact k1,k2,k3,k4,k5,k6,k7.keep (fun c O8=>⟨rfl,O7 c O8.1,fun e=>s8 h.base (O8.2 e)⟩),fun e=>s8 h.base (k8 e)⟩
    ·obtain⟨sz,rows,rfl⟩:=DA g2;simp[AO.ids]
   ·exact absurd h1 g)
  (fun hk t=>h.slots (dst:=some d) (fun d' e=>by injection e with e;omega) (U':=fun n=>s.U n\/n=d) (ND QT O7 ZH) (fun id O9=> .inr (av_ids d r id O9)) t)
 exact this.congr (fun _=>rfl) (fun _=>rfl) (fun n=>by simp[F_.app,eq_comm])
theorem V134{p:Prop}(h:p:=by
 have he:a.eval (.func f)= .func (.func f) #[] #[]:=rfl
 simp[execOp,ho,resolve,he,Deferred.ofValue,invoke,hs.1 _ _]):p:=h
theorem Hk {f:FuncId}{args:Array Operand}{argTypes:Array TypeId}{d:Nat}(QU:o.dst=some d)(ho:o.op= .call {callee:= .value (.func f),args,argTypes}){ts:List TV}{r:Res}(ha:fy H (args.toList.map ev) ts)(hs:Spec P f ts r):
  Good P o ev H ⟨r.av d,r.us d,some d,(args.toList.map ev).flatMap AV.ids⟩:=by
 intro N B M w0 ρ s a w Q K hc O3 hR hn hd hK;rw[QU]at hd hK;have RW:=CQ hc args.toList ts (fun x hx=>O3 x aax) hR ha;have Rt:=hs.2 w (args.map a.eval) (by simpa using RW)
 have P1:(execOp a.eval o).run P w= .ok (.enter f (args.map a.eval)) w:=by exact V134
 unfold Oper.wp;rw[P1];show Calls P f (args.map a.eval) w _;refine Rt.mono fun e w' ⟨v,he,hb,hr⟩=>?_;subst he;obtain⟨ρ',h'⟩:=hc.result (hd d rfl) (hn d rfl) hb hr ((args.toList.map ev).flatMap AV.ids);show K (a.put o.dst v) w';rw[QU];exact hK _ _ ρ' h'
theorem xu {f:FuncId}{args:Array Operand}{argTypes:Array TypeId}(QU:o.dst=none)(ho:o.op= .call {callee:= .value (.func f),args,argTypes}){ts:List TV}{r:Res}(ha:fy H (args.toList.map ev) ts)(hs:Spec P f ts r):
  Good P o ev H ⟨.unk,[],none,(args.toList.map ev).flatMap AV.ids⟩:=by
 intro N B M w0 ρ s a w Q K hc O3 hR hn hd hK;rw[QU]at hd hK;have RW:=CQ hc args.toList ts (fun x hx=>O3 x aax) hR ha;have Rt:=hs.2 w (args.map a.eval) (by simpa using RW)
 have P1:(execOp a.eval o).run P w= .ok (.enter f (args.map a.eval)) w:=by exact V134
 unfold Oper.wp;rw[P1];show Calls P f (args.map a.eval) w _;refine Rt.mono fun e w' ⟨v,he,hb,hr⟩=>?_;subst he;show K (a.put o.dst v) w';rw[QU];refine hK v w' ρ ?_;have hT:Turn (fun _=>False) w w':=⟨hb.os,hb.tape,hb.output,hb.size,fun k hk _=>hb.block k hk⟩
 have:=hc.step (fun _=>False) [] (w':=w') (ρ':=ρ) (H':=s.H) (U':=s.U) (a':=a) (L':=s.L) hT hc.size hc.defers
  (fun _ _=>rfl) (fun _ _ _ _=>rfl) rfl (fun _ _=>rfl) (fun _ h=>h) (fun _ _ h=>h) (fun _ _ _ _ _ _ h=>h) (fun _ _ _ h=>h) s_ s_ s_ (fun _ t=> .inl ⟨rfl,rfl⟩)
 exact this.congr (fun _=>rfl) (fun _=>rfl) (fun n=>by simp[F_.app])
end
end Go.Sim
