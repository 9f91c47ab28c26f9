import Derived.Test.YtoglejgmjeojoaaGreatGa
namespace Go.Sim
open Go.RowKit
section
variable {P:Program} {Γ:Env} {N B:Nat} {M:Nat->Prop} {w0:Start} {ρ:Rho} {s:F_} {a:Act} {w:World} {o:Oper} {ev:Operand->AV} {H:Id->Option AO} {K:Eff->Prop}
theorem cz:∀(us:List (Id×Option AO)) (H:Id->Option AO) (o:Id),o∉us.map (·.1)->bP H us o=H o
 | [],_,_,_=>rfl
 | p::r,H,o,h=>by
  simp only[p7,d6,not_or]at h;rw[bP,cz r _ o h.2,b8 h.1]
theorem yO:∀(rm:List Id) (H:Id->Option AO) (q:Id) (x:Option AO),bP H (rm.map (fun r=>(r,none))++[(q,x)])=fun o=>if o=q then x else if o∈rm then none else H o
 | [],H,q,x=>by simp[bP]
 | r::rm,H,q,x=>by
  rw[p7,u3,bP,yO rm];funext o;by_cases h1:o=q
  ·simp[h1]
  ·by_cases h2:o∈rm
   ·simp[h1,h2]
   ·by_cases h3:o=r<;>simp[h1,h2,h3]
theorem V81{p:Prop}(h:p:=by
 have e':o'≠q:=fun e2=>MF (e.trans e2.symm);simp only[d6,e',false_or]at h2;simp only[b8 e',c7 h2]at h4
 cases h4):p:=h
theorem Conc.make (h:Conc N B M w0 ρ s a w){d:Nat}(hd:d<N)(hU:¬s.U d){w':World}{D:Nat->Prop}(rm:List Id)(hT:Turn D w w'){v vv:Value}{x:AO}{av:AV}{R:List Id}(F:Nat->Prop)
  (hD:∀b,D b->∃o x',o∈rm/\s.H o=some x'/\Own ρ o b)
  (hv:∀b,blk v=some b->b<w'.heap.size/\(w.heap.size<=b\/∃o x',o∈rm/\s.H o=some x'/\Own ρ o b))
  (hF:∀b,F b->∃o x',o∈rm/\s.H o=some x'/\Own ρ o b)
  (Sm:∀id∈x.ids,s.U id.1) (V0:∀id∈av.ids,id.1=d\/s.U id.1)
  (M3:∀(ρ':Rho) (ok':Nat->Prop),(∀b,okB ρ s.H w b->w'.heap[b]?=w.heap[b]?/\ok' b)->(∀o x' b,o∈rm->s.H o=some x'->Own ρ o b->blk v≠some b->¬F b->ok' b)->
   (∀o,s.U o.1->ρ' o=ρ o)->ρ' (d,0,0)=v->(∀b,F b->ρ'.fp (d,0,0) b)->RO B ρ' w' ok' (d,0,0) x/\RV B ρ' w' ok' vv av):
  ∃ρ',Conc N B M w0 ρ' (s.app (some d) ⟨av,rm.map (fun r=>(r,none))++[((d,0,0),some x)],some d,R⟩) (a.put (some d) vv) w':=by
 let q:Id:=(d,0,0)
 let ρ':Rho:=⟨fun o=>if o.1=d then v else ρ o,fun o c=>if o=q then F c else ρ.fp o c,ρ.al⟩
 have hρ:∀o:Id,s.U o.1->ρ' o=ρ o:=fun o ho=>by
  show(if o.1=d then v else ρ o)=ρ o;exact b8 (fun e:o.1=d=>hU aaM)
 have hq:ρ' q=v:=by show(if d=d then v else _)=v;simp
 have Qy:∀c,ρ'.fp q c↔F c:=fun c=>by show(if q=q then _ else _)↔_;simp
 have Pg:∀o c,o≠q->(ρ'.fp o c↔ρ.fp o c):=fun o c ho=>by show(if o=q then _ else _)↔_;simp[ho]
 have MP:∀o c,o≠q->s.U o.1->(Own ρ' o c↔Own ρ o c):=fun o c h1 h2=>by unfold Own;rw[hρ o h2,Pg o c h1]
 have Qr:=yO rm s.H q (some x)
 have O5:∀o x' b,o∈rm->s.H o=some x'->Own ρ o b->blk v≠some b->¬F b->okB ρ' (bP s.H (rm.map (fun r=>(r,none))++[(q,some x)])) w' b:=by
  intro o x' b h1 h2 h3 h4 Q0;refine⟨⟨z8 (h.rng o x' b h2 h3).1 hT.size,h.alw b (h.rng o x' b h2 h3).2⟩,fun o1 x1 h5 h6=>?_⟩;rw[Qr]at h5;by_cases e:o1=q
  ·subst e;rcases h6 with h6|h6
   ·rw[hq]at h6;exact h4 h6
   ·exact Q0 ((Qy b).1 h6)
  ·simp only[b8 e]at h5;by_cases e2:o1∈rm
   ·simp[e2]at h5
   ·simp only[b8 e2]at h5;rw[MP o1 b e (h.usedH o1 x1 h5).1]at h6;exact h.sep o o1 x' x1 b h2 h5 (fun e3=>e2 (e3▸h1)) h3 h6
 refine⟨ρ',?_⟩;have hnq:∀o x',s.H o=some x'->o≠q:=fun o x' h1 e=>hU (by have:=(h.usedH o x' h1).1;rw[e]at this;exact this)
 have:=h.step D (q::rm) (w':=w') (ρ':=ρ') (H':=bP s.H (rm.map (fun r=>(r,none))++[(q,some x)])) (U':=fun n=>s.U n\/n=d) (a':=a.put (some d) vv) (L':=nh s.L (some d) av) hT
  aaD aaA hρ
  (fun o x' h1 h2=>by funext c;exact propext (Pg o c (hnq o x' h2))) rfl
  (fun o ho=>by
   rw[Qr];simp only[d6,not_or]at ho
   simp only[b8 ho.1,b8 ho.2])
  (fun n hn=> .inl hn)
  (fun b hb Tv=>by obtain⟨o,x',_,h2,h3⟩:=hD b Tv;exact hb.2 o x' h2 h3)
  (fun o x1 b h1 h2 h3 Tv=>by
   obtain⟨o',x',g1,g2,g3⟩:=hD b Tv
   exact h.sep o o' x1 x' b h1 g2 (fun e=>h2 (by rw[e];simp[g1])) h3 g3)
  (fun b hb hM Tv=>by
   obtain⟨o',x',g1,g2,g3⟩:=hD b Tv;rcases(h.rng o' x' b g2 g3).2 with g|g
   ·omega
   ·exact hM g)
  (fun o x1 b h1 h2 h3=>by
   rw[Qr]at h2;by_cases e:o=q
   ·subst e
    have h3:(b<w'.heap.size/\(w.heap.size<=b\/∃o x',o∈rm/\s.H o=some x'/\Own ρ o b)):=by
     rcases h3 with h3|h3
     ·rw[hq]at h3;exact hv b h3
     ·obtain⟨o',x',g1,g2,g3⟩:=hF b ((Qy b).1 h3);exact⟨z8 (h.rng o' x' b g2 g3).1 hT.size,.inr ⟨o',x',g1,g2,g3⟩⟩
    obtain⟨g1,g2⟩:=h3;refine⟨g1,?_,?_⟩
    ·rcases g2 with g|⟨o',x',_,g3,g4⟩
     ·exact .inl (v5 h.base g)
     ·exact(h.rng o' x' b g3 g4).2
    ·rcases g2 with g|⟨o',x',g2,g3,g4⟩
     ·exact .inl g
     ·exact .inr ⟨o',x',g3,by simp[g2],g4⟩
   ·simp only[d6,e,false_or]at h1;simp only[b8 e,c7 h1]at h2
    cases h2)
  (fun o o' x1 x2 b h1 h2 h3 h4 MF=>by
   rw[Qr]at h3 h4;exfalso;by_cases e:o=q
   ·exact V81
   ·simp only[d6,e,false_or]at h1;simp only[b8 e,c7 h1]at h3
    cases h3)
  (fun hk o x1 h1 h2=>by
   rw[Qr]at h2;by_cases e:o=q
   ·subst e;simp only[if_true,Option.some.injEq]at h2;subst h2;exact⟨(M3 ρ' _ hk O5 hρ hq (fun b hb=>(Qy b).2 hb)).1,.inr rfl,fun id MD=> .inl (Sm id MD)⟩
   ·simp only[d6,e,false_or]at h1;simp only[b8 e,c7 h1]at h2
    cases h2)
  (fun hk t=>h.slots (dst:=some d) (fun d' e=>by injection e with e;omega) (U':=fun n=>s.U n\/n=d) (M3 ρ' _ hk O5 hρ hq (fun b hb=>(Qy b).2 hb)).2 (fun id MD=>(V0 id MD).symm) t)
 exact this.congr (fun _=>rfl) (fun _=>rfl) (fun n=>by simp[F_.app,eq_comm])
theorem kP (w:World)(o:Obj):(w.alloc o).heap[w.heap.size]?=some o:=heap_alloc_new w o
theorem dC (n:Nat):ca n (0,0):=fun p _ h=>by simp at h
theorem Conc.newBox (h:Conc N B M w0 ρ s a w){d:Nat}(hd:d<N)(hU:¬s.U d){us:Array Value}{t:TypeId}{cells:List AC}(hr:RCs B ρ w (okB ρ s.H w) us.toList cells)(hi:∀id∈cells.flatMap AC.ids,s.U id.1)(R:List Id):
  ∃ρ',Conc N B M w0 ρ' (s.app (some d) ⟨.r (.c (.ptr (d,0,0) 0)),[((d,0,0),some (.box cells))],some d,R⟩) (a.put (some d) (.pointer (some ⟨w.heap.size,0,none⟩))) (w.alloc (.cells us t)):=by
 refine h.make hd hU (D:=fun _=>False) [] (Turn.alloc _ _ _) (v:= .pointer (some ⟨w.heap.size,0,none⟩)) (fun _=>False) (fun _ h=>h.elim) (fun b hb=>?_) (fun _ h=>h.elim) hi (fun id MD=>?_) (fun ρ' ok' hk _ hρ hq _=>⟨?_,?_⟩)
 ·injection hb with hb;subst hb;exact⟨s_,.inl (d8 _)⟩
 ·simp[AV.ids,AR.ids,AC.ids]at MD;left;rw[MD]
 ·refine⟨w.heap.size,us,t,(0,0),hq,kP w _,dC _,hr.keep hk fun o ho=>hρ o (hi o ho)⟩
 ·exact⟨w.heap.size,hq,rfl⟩
theorem jw (e:TypeId)(cs:Array Value):(newRow e cs).run P w= .ok ⟨w.heap.size,0,none⟩ (w.alloc (.cells cs e)):=rfl
theorem V112{p:Prop}(h:p:=by
 unfold Oper.wp;rw[ME];show K (a.put o.dst _) _;rw[MU]
 exact hK _ _ ρ' h'):p:=h
theorem Ak {T:TypeId}{d:Nat}{ti:LK}(hΓ:Γ.chk P=true)(hT:Γ.get T=some ti)(MU:o.dst=some d)(ho:o.op= .alloc T):
  Good P o ev H ⟨.r (.c (.ptr (d,0,0) 0)),[((d,0,0),some (.box ti.zero))],some d,[]⟩:=by
 obtain⟨i,dd,fit⟩:=Env.fit hΓ hT;obtain⟨z,hz,hm⟩:=fit.zero;intro N B M w0 ρ s a w Q K hc Mx hR hn hd hK;rw[MU]at hd hK;obtain⟨ρ',h'⟩:=hc.newBox (hd d rfl) (hn d rfl) (us:=z.cells) (t:=T) (dU (B:=B) (ρ:=ρ) (w:=w) (ok:=okB ρ s.H w) hm) (by rw[qm hm];simp) []
 have ME:(execOp a.eval o).run P w= .ok (.value (.pointer (some ⟨w.heap.size,0,none⟩))) (w.alloc (.cells z.cells T)):=by simp[execOp,ho,Instr.alloc,fv fit.info hz,newVar,jw]
 exact V112
theorem EX {T:TypeId}{d:Nat}{x:Operand}{ar:AR}(MU:o.dst=some d)(ho:o.op= .box T x)(hx:ev x= .r ar):
  Good P o ev H ⟨.r (.c (.ptr (d,0,0) 0)),[((d,0,0),some (.box ar.cells))],some d,[]⟩:=by
 intro N B M w0 ρ s a w Q K hc Mx hR hn hd hK;rw[MU]at hd hK;have hv:=hc.eval x;rw[Mx x aaa,hx]at hv
 obtain⟨ρ',h'⟩:=hc.newBox (hd d rfl) (hn d rfl) (us:=(a.eval x).cells) (t:=T) (RR.cells hv.1) (by
  have:=hv.2
  cases ar with
  | c y=>intro id MD;exact this id (by simpa [AR.cells,AV.ids,AR.ids]using MD)
  | agg cs=>exact this) []
 have ME:(execOp a.eval o).run P w= .ok (.value (.pointer (some ⟨w.heap.size,0,none⟩))) (w.alloc (.cells (a.eval x).cells T)):=by simp[execOp,ho,Instr.box,newVar,jw]
 exact V112
theorem Conc.newArr (h:Conc N B M w0 ρ s a w){d:Nat}(hd:d<N)(hU:¬s.U d)(rm:List Id){w':World}(hT:Turn (fun _=>False) w w'){b cap sz:Nat}{us:Array Value}{e:TypeId}{fz:Nat×Nat}{rows:List (List Tr)}{fr:Bool}
  (hb:w.heap.size<=b) (hh:w'.heap[b]?=some (.cells us e fz)) (hf:ca us.size fz) (hu:∀r∈rows,r.length=sz) (h1:rows.length<=cap) (h2:cap<=maxLen) (h3:us.size=cap*sz)
  (hr:∀ok':Nat->Prop,(∀c,okB ρ s.H w c->ok' c)->(∀o x c,o∈rm->s.H o=some x->Own ρ o c->ok' c)->RTs w (okF B ok' fr) (us.toList.take (rows.length*sz)) rows.flatten) (R:List Id):
  ∃ρ',Conc N B M w0 ρ' (s.app (some d) ⟨.r (.c (.own (d,0,0))),rm.map (fun r=>(r,none))++[((d,0,0),some (.arr fr sz rows))],some d,R⟩) (a.put (some d) (.slice (some ⟨b,0,none⟩) rows.length cap)) w':=by
 have Mz:b<w'.heap.size:=(E1.1 hh).1;refine h.make hd hU (D:=fun _=>False) rm hT (v:= .slice (some ⟨b,0,none⟩) rows.length cap) (fun _=>False) (fun _ h=>h.elim) (fun b' ML=>?_) (fun _ h=>h.elim) (fun id MD=>by simp[AO.ids]at MD) (fun id MD=>?_) (fun ρ' ok' hk O5 hρ hq _=>⟨?_,?_⟩)
 ·injection ML with ML;subst ML;exact⟨Mz,.inl hb⟩
 ·simp[AV.ids,AR.ids,AC.ids]at MD;left;rw[MD]
 ·have Qe:∀c,okB ρ s.H w c\/(∃o x,o∈rm/\s.H o=some x/\Own ρ o c)->w'.heap[c]?=w.heap[c]?/\ok' c:=by
   rintro c (hc|⟨o,x,g1,g2,g3⟩)
   ·exact hk c hc
   ·have hr:=(h.rng o x c g2 g3).1;refine⟨hT.block c hr (fun h=>h),O5 o x c g1 g2 g3 ?_ (fun h=>h)⟩;intro e;have e':b=c:=(by simpa [blk]using e);omega
  refine⟨hu,.inr ⟨b,cap,us,e,fz,hq,hh,hf,h1,h2,h3,?_,fun _=>v5 h.base hb⟩⟩;have:=hr (fun c=>okB ρ s.H w c\/(∃o x,o∈rm/\s.H o=some x/\Own ρ o c)) (fun c hc=> .inl hc) (fun o x c g1 g2 g3=> .inr ⟨o,x,g1,g2,g3⟩);exact this.keep (iw Qe)
 ·exact⟨⟨_,_,_,hq⟩,hq.symm⟩
theorem GJ {ok':Nat->Prop}{fr:Bool}{sz:Nat}{rows:List (List Tr)}{o:Id}(hc:Conc N B M w0 ρ s a w)(ho:s.H o=some (.arr fr sz rows))(MC:∀c,okB ρ s.H w c->ok' c)(hb:∀c,Own ρ o c->ok' c):
  RT w (okF B ok' fr) (ρ o) (.lst sz rows):=by
 obtain⟨hu,g⟩:=hc.arr ho;rcases g with⟨g1,g2⟩|⟨b,cap,cur,e,fz,g1,g2,g3,g4,g5,g6,g7,g8,g9⟩
 ·subst g2;rw[g1];exact .emp _ _ _ (w6 _)
 ·rw[g1];have ML:=hb b (.inl aah);refine .lst _ _ _ _ _ (cur.toList.take (rows.length*sz)) rfl g4 g5 hu ⟨ML,g9⟩ (by rw[g7.length]) g8 fun p v u hv M9=>?_;exact(g7.get p v u hv M9).keep fun c MB=>⟨rfl,MC c MB.1,MB.2⟩
theorem lC {ok':Nat->Prop}(hc:Conc N B M w0 ρ s a w)(MC:∀c,okB ρ s.H w c->ok' c):∀{vs:List Value} {cs:List AC} {ts:List Tr} {fr:Bool} {ids:List Id},frz H cs=some (ts,fr,ids)->(∀o∈ids,s.H o=H o)->RCs B ρ w (okB ρ s.H w) vs cs->
  (∀o x c,o∈ids->s.H o=some x->Own ρ o c->ok' c)->RTs w (okF B ok' fr) vs ts
 | [],[],ts,fr,ids,h,_,_,_=>by simp only[frz,Option.some.injEq,Prod.mk.injEq]at h;obtain⟨rfl,_⟩:=h;trivial
 | v::vs,c::cs,ts,fr,ids,h,hH,hr,hb=>by
  cases c with
  | t x=>
   simp only[frz]at h
   cases hf:frz H cs with
   | none=>rw[hf]at h;simp at h
   | some p=>
    obtain⟨PN,fr',Nw⟩:=p;rw[hf]at h;have hx:RT w (okB ρ s.H w) v x:=hr.1
    cases x with
    | lst sz rows=>
     simp only[Option.some.injEq,Prod.mk.injEq]at h;obtain⟨rfl,rfl,rfl⟩:=h;have ih:=lC (ok':=ok') hc MC hf hH hr.2 hb
     exact⟨hx.keep fun c MB=>⟨rfl,MC c MB,fun e=>by cases e⟩,ih.keep (go fun e=>by cases e)⟩
    | int=>
     simp only[Option.some.injEq,Prod.mk.injEq]at h;obtain⟨rfl,rfl,rfl⟩:=h
     exact⟨by cases hx;exact .int _ _,lC hc MC hf hH hr.2 hb⟩
    | bool=>
     simp only[Option.some.injEq,Prod.mk.injEq]at h;obtain⟨rfl,rfl,rfl⟩:=h
     exact⟨by cases hx;exact .bool _,lC hc MC hf hH hr.2 hb⟩
    | str=>
     simp only[Option.some.injEq,Prod.mk.injEq]at h;obtain⟨rfl,rfl,rfl⟩:=h
     exact⟨by cases hx;exact .str _,lC hc MC hf hH hr.2 hb⟩
  | f x=>
   simp only[frz]at h
   cases hf:frz H cs with
   | none=>rw[hf]at h;simp at h
   | some p=>
    obtain⟨PN,fr',Nw⟩:=p;rw[hf]at h;simp only[Option.some.injEq,Prod.mk.injEq]at h;obtain⟨rfl,rfl,rfl⟩:=h;have hx:RT w (okF B (okB ρ s.H w) true) v x:=hr.1
    exact⟨hx.keep fun c MB=>⟨rfl,MC c MB.1,fun _=>MB.2 rfl⟩,lC hc MC hf hH hr.2 hb⟩
  | nils sz=>
   simp only[frz]at h
   cases hf:frz H cs with
   | none=>rw[hf]at h;simp at h
   | some p=>
    obtain⟨PN,fr',Nw⟩:=p;rw[hf]at h;simp only[Option.some.injEq,Prod.mk.injEq]at h;obtain⟨rfl,rfl,rfl⟩:=h;have hx:v= .slice none 0 0:=hr.1;subst hx
    exact⟨.emp _ _ _ (w6 _),lC hc MC hf hH hr.2 hb⟩
  | own o=>
   simp only[frz]at h;split at h
   ·rename_i fr1 sz rows PN fr' Nw ho hf;simp only[Option.some.injEq,Prod.mk.injEq]at h;obtain⟨rfl,rfl,rfl⟩:=h;have MX:s.H o=some (.arr fr1 sz rows):=(by rw[hH o s_];exact ho);obtain⟨_,hx⟩:=hr.1;have h1:=GJ (ok':=ok') hc MX MC (fun c ZQ=>hb o _ c s_ MX ZQ);rw[hx];exact⟨h1.keep (go fun e=>by simp at e;exact e.1),(lC hc MC hf (fun o ho=>hH o aag) hr.2 (fun o x c h1 h2 h3=>hb o x c (by simp[h1]) h2 h3)).keep (go fun e=>by simp at e;exact e.2)⟩
   ·cases h
  | nilp=>simp[frz]at h
  | sub=>simp[frz]at h
  | ptr=>simp[frz]at h
  | opq=>simp[frz]at h
  | mpv=>simp[frz]at h
 | [],_::_,_,_,_,_,_,h,_=>h.elim
 | _::_,[],_,_,_,_,_,h,_=>h.elim
theorem sj (sz:Nat):∀(parts:List (Nat×Value)) (n0:Nat) (pre:List Value) (rest:List Value),pre.length=n0*sz->(∀(j:Nat) (p:Nat×Value),parts[j]?=some p->p.1=n0+j/\p.2.cells.size=sz)->rest.length=parts.length*sz->
  Instr.fill (fun i=>some (i*sz,sz)) (pre++rest).toArray parts=some (pre++parts.flatMap (fun p=>p.2.cells.toList)).toArray
 | [],n0,pre,rest,_,_,hr=>by
  have:rest=[]:=x8 aaG;subst this
  simp[Instr.fill]
 |(i,v)::parts,n0,pre,rest,hp,SQ,hr=>by
  obtain⟨h1,h2⟩:=SQ 0 (i,v) s_;simp only[z4]at h1 h2;subst h1;have Nn:rest.length=sz+parts.length*sz:=by rw[hr,d5,p8];omega
  have P2:v.cells.zipIdx.foldl (fun cs (x:Value×Nat)=>cs.setIfInBounds (i*sz+x.2) x.1) (pre++rest).toArray=(pre++v.cells.toList++rest.drop sz).toArray:=by
   have key:∀(vs:List Value) (k:Nat) (pre rest:List Value),vs.length<=rest.length->
     (vs.zipIdx k).foldl (fun(cs:Array Value) (x:Value×Nat)=>cs.setIfInBounds (pre.length-k+x.2) x.1) (pre++rest).toArray=(pre++vs++rest.drop vs.length).toArray\/pre.length<k:=by
    intro vs
    induction vs with
    | nil=>intro k pre rest _;left;simp
    | cons u vs ih=>
     intro k pre rest hl;rcases m7 pre.length k with hk|hk
     ·exact .inr hk
     left
     cases rest with
     | nil=>simp at hl
     | cons r rest=>
      simp only[List.zipIdx_cons,E9]
      have e1:(pre++r::rest).toArray.setIfInBounds (pre.length-k+k) u=((pre++[u])++rest).toArray:=by rw[Nat.sub_add_cancel hk];simp
      rw[e1];have:=ih (k+1) (pre++[u]) rest aaF;rcases this with this|this
      ·have e2:(pre++[u]).length-(k+1)=pre.length-k:=s_;rw[e2]at this;rw[this];simp
      ·simp at this;omega
   have:=key v.cells.toList 0 pre rest aab;rcases this with this|this
   ·rw[<-Array.foldl_toList,Array.toList_zipIdx];simp only[y0,hp]at this;rw[this];simp[h2]
   ·omega
  simp only[Instr.fill];rw[b8 (by simp[h2];omega),P2]
  have:=sj sz parts (i+1) (pre++v.cells.toList) (rest.drop sz) (by simp[hp,h2,p8]) (fun j p hj=>by
   obtain⟨g1,g2⟩:=SQ (j+1) p aav
   exact⟨o_,g2⟩) (by rw[t9];omega)
  rw[this];simp
theorem pV:∀(parts:List (Nat×Operand)) (n:Nat) (K:Bool->List (List Tr)->List Id->Prop),nS H n (parts.map fun p=>(p.1,ev p.2)) K->
  ∃fr rows ids,K fr rows ids/\rows.length=parts.length/\(∀(j:Nat) (p:Nat×Operand),parts[j]?=some p->p.1=n+j)/\
   ∀(N B:Nat) (M:Nat->Prop) (w0:Start) (ρ:Rho) (s:F_) (a:Act) (w:World) (ok':Nat->Prop),Conc N B M w0 ρ s a w->(∀c,okB ρ s.H w c->ok' c)->(∀o∈ids,s.H o=H o)->(∀o x c,o∈ids->s.H o=some x->Own ρ o c->ok' c)->
    (∀p∈parts,RV B ρ w (okB ρ s.H w) (a.eval p.2) (ev p.2))->∀(j:Nat) (p:Nat×Operand) (row:List Tr),parts[j]?=some p->rows[j]?=some row->RTs w (okF B ok' fr) (a.eval p.2).cells.toList row
 | [],n,K,h=>⟨true,[],[],h,rfl,s_,s_⟩
 |(i,x)::parts,n,K,h=>by
  simp only[p7,nS]at h
  cases hx:ev x with
  | r ar=>
   rw[hx]at h;simp only[nS]at h;split at h
   ·rename_i ts fr0 ids0 hn Pf;have hin:i=n:=(by simpa using hn);obtain⟨fr,rows,ids,h1,h2,h3,h4⟩:=pV parts (n+1) _ h;refine⟨_,ts::rows,_,h1,by simp[h2],fun j p hj=>?_,fun N B M w0 ρ s a w ok' hc MC hH hb hf j p row hj hr=>?_⟩
    ·cases j with|zero=>simp at hj;subst hj;simpa using hin|succ j=>have:=h3 j p aav;omega
    ·cases j with
     | zero=>
      simp at hj hr;subst hj;subst hr;have:=hf (i,x) s_;simp only at this;rw[hx]at this
      exact(lC hc MC Pf (fun o ho=>hH o aag) (RR.cells this) (fun o x c g1 g2 g3=>hb o x c (by simp[g1]) g2 g3)).keep (go fun e=>by simp at e;exact e.1)
     | succ j=>exact(h4 N B M w0 ρ s a w ok' hc MC (fun o ho=>hH o aag) (fun o x c g1 g2 g3=>hb o x c (by simp[g1]) g2 g3) (fun p hp=>hf p (by simp[hp])) j p row aav aaG).keep (go fun e=>by simp at e;exact e.2)
   ·exact h.elim
  | tup=>rw[hx]at h;exact h.elim
  | el=>rw[hx]at h;exact h.elim
  | ro=>rw[hx]at h;exact h.elim
  | unk=>rw[hx]at h;exact h.elim
 termination_by parts=>parts.length
theorem Ad {ok:Nat->Prop}:∀(vss:List (List Value)) (rows:List (List Tr)),vss.length=rows.length->(∀(j:Nat) (vs:List Value) (row:List Tr),vss[j]?=some vs->rows[j]?=some row->RTs w ok vs row)->RTs w ok vss.flatten rows.flatten
 | [],[],_,_=>trivial
 | vs::vss,row::rows,hl,h=>RTs.append (h 0 vs row s_ s_) (Ad vss rows aaF fun j vs row h1 h2=>h (j+1) vs row aai aaf)
 | [],_::_,hl,_=>by simp at hl
 | _::_,[],hl,_=>by simp at hl
theorem nk {T e:TypeId}{n:Nat}{i ie:TypeInfo}{z:Value}(hu:P.underlying T=some (.slice e))(hi:P.info? e=some ie)(hz:ie.zero=some z)(Nv:n*ie.size<=16777216)(vals:Array (Nat×Value))(cs:Array Value)
  (hf:Instr.fill (fun i=>some (i*ie.size,ie.size)) ((Array.range (n*ie.size)).map (fun i=>(if n*ie.size=0 then #[]else z.cells)[i%(if n*ie.size=0 then #[]else z.cells).size]!)) vals.toList=some cs):
  (Instr.buildSlice T n vals).run P w= .ok (.slice (some ⟨w.heap.size,0,none⟩) n n) (w.alloc (.cells cs e)):=by
 have Mz:¬n*ie.size>2^24:=o_;unfold Instr.buildSlice;by_cases h0:n*ie.size=0
 ·rw[c7 h0]at hf;simp only[m8,run_underlying hu,i9,cn hi,b8 Mz,c7 h0,o9];rw[hf];simp[jw]
 ·rw[b8 h0]at hf;simp only[m8,run_underlying hu,i9,cn hi,b8 Mz,b8 h0,o9,fv hi hz];rw[hf];simp[jw]
theorem V104{p:Prop}(h:p:=by
 have:=(hc.eval p.2).1
 rwa [Mx p.2 (by simp only[ho,Op.operands];exact n7.2 ⟨p,hp,rfl⟩)]at this):p:=h
theorem V102{p:Prop}(h:p:=by
 rcases m7 j parts.toList.length with h'|h'
 ·exact h'
 ·rw[e9 h']at hj;cases hj):p:=h
theorem V18{p:Prop}(h:p:=by
 have:=sj te.size ((parts.map fun p=>(p.1,a.eval p.2)).toList) 0 [] init.toList s_ (fun j p hj=>by
  simp only[I1,p6,v4]at hj;obtain⟨q,g1,rfl⟩:=hj;obtain⟨g2,g3⟩:=MI j q g1
  exact⟨by simp[g2],g3⟩) (by simp only[Array.length_toList,RM,I1,e7];rw[<-hn];simp)
 simp only[t6,Array.toArray_toList]at this;rw[this]
 simp[vss,List.flatMap_def];rfl):p:=h
theorem V42{p:Prop}(h:p:=by
 have:=nk (w:=w) (n:=n) (i:=ii) fit.und fite.info hz (by rw[fite.size];exact Nv) (parts.map fun p=>(p.1,a.eval p.2)) vss.flatten.toArray (by rw[fite.size];exact RF)
 simp only[execOp,ho,m8,this,i9,o9]):p:=h
theorem rK {T e:TypeId}{d n:Nat}{parts:Array (Nat×Operand)}{ti te:LK}(hΓ:Γ.chk P=true)(hT:Γ.get T=some ti)(he:ti.elem=some e)(hE:Γ.get e=some te)(MU:o.dst=some d)(ho:o.op= .buildSlice T n parts)
  (hn:parts.toList.length=n)
  (h:nS H 0 (parts.toList.map fun p=>(p.1,ev p.2)) fun fr rows ids=>(∀r∈rows,r.length=te.size)/\n*te.size<=16777216/\K ⟨.r (.c (.own (d,0,0))),ids.map (fun r=>(r,none))++[((d,0,0),some (.arr fr te.size rows))],some d,ids⟩):
  ∃ef,K ef/\Good P o ev H ef:=by
 obtain⟨ii,dd,fit⟩:=Env.fit hΓ hT;obtain⟨ie,de,fite⟩:=Env.fit hΓ hE;have hd:=mU fit he;subst hd;obtain⟨z,hz,hm⟩:=fite.zero;obtain⟨fr,rows,ids,⟨hu,Nv,hK⟩,Nn,Sv,Oi⟩:=pV parts.toList 0 _ h;refine⟨_,hK,?_⟩;intro N B M w0 ρ s a w Q K hc Mx hR MQ hd hK;rw[MU]at hd hK
 have Nz:∀p∈parts.toList,RV B ρ w (okB ρ s.H w) (a.eval p.2) (ev p.2):=fun p hp=>by
  exact V104
 let vss:List (List Value):=parts.toList.map fun p=>(a.eval p.2).cells.toList
 have QI:vss.length=rows.length:=by simp[vss,Nn]
 have Nr:∀ok':Nat->Prop,(∀c,okB ρ s.H w c->ok' c)->(∀o x c,o∈ids->s.H o=some x->Own ρ o c->ok' c)->RTs w (okF B ok' fr) vss.flatten rows.flatten:=by intro ok' MC hb;have Vs:=Oi N B M w0 ρ s a w ok' hc MC hR hb Nz;refine Ad vss rows QI fun j vs row h1 h2=>?_;simp only[vss,p6,v4]at h1;obtain⟨p,g1,rfl⟩:=h1;exact Vs j p row g1 h2
 have Vs:=Oi N B M w0 ρ s a w (fun _=>True) hc (fun _ _=>trivial) hR (fun _ _ _ _ _ _=>trivial) Nz
 have MI:∀(j:Nat) (p:Nat×Operand),parts.toList[j]?=some p->p.1=j/\(a.eval p.2).cells.size=te.size:=by
  intro j p hj
  have NP:j<parts.toList.length:=by exact V102
  have TT:rows[j]?=some (rows[j]'o_):=i7 o_;have:=(Vs j p _ hj TT).length;rw[hu _ (c9 TT)]at this;exact⟨by simpa using Sv j p hj,by simpa using this⟩
 let init:Array Value:=(Array.range (n*te.size)).map (fun i=>(if n*te.size=0 then #[]else z.cells)[i%(if n*te.size=0 then #[]else z.cells).size]!)
 have RM:init.size=n*te.size:=by simp[init]
 have RF:Instr.fill (fun i=>some (i*te.size,te.size)) init ((parts.map fun p=>(p.1,a.eval p.2)).toList)=some vss.flatten.toArray:=by exact V18
 have ME:(execOp a.eval o).run P w= .ok (.value (.slice (some ⟨w.heap.size,0,none⟩) n n)) (w.alloc (.cells vss.flatten.toArray e)):=by exact V42
 have Mw:rows.length=n:=by rw[Nn,hn]
 have Qv:n<=maxLen:=by have:=fite.pos;have h1:n*1<=n*te.size:=A6 _ o_;unfold maxLen;omega
 have MN:vss.flatten.length=n*te.size:=by rw[(Nr (fun _=>True) (fun _ _=>trivial) (fun _ _ _ _ _ _=>trivial)).length,aR te.size rows hu,Mw]
 obtain⟨ρ',h'⟩:=hc.newArr (hd d rfl) (MQ d rfl) ids (w':=w.alloc (.cells vss.flatten.toArray e)) (Turn.alloc _ _ _) (b:=w.heap.size) (cap:=n) (sz:=te.size) (us:=vss.flatten.toArray) (e:=e) (fz:=(0,0)) (rows:=rows) (fr:=fr)
  (d8 _) (kP _ _) (dC _) hu o_ Qv (by simp only[B0,MN]) (fun ok' MC hb=>by rw[Mw,gt (by simp only[MN];omega)];exact Nr ok' MC hb) ids
 rw[Mw]at h';unfold Oper.wp;rw[ME];show K (a.put o.dst _) _;rw[MU];exact hK _ _ ρ' h'
theorem eE (b:Nat)(e:TypeId)(fz:Nat×Nat):∀(vs:List Value) (o:Nat) (w:World) (cur:Array Value),w.heap[b]?=some (.cells cur e fz)->o+vs.length<=cur.size->
  ∃MY,(w.setCells b o vs).heap[b]?=some (.cells MY e fz)/\MY.size=cur.size/\MY.toList=cur.toList.take o++vs++cur.toList.drop (o+vs.length)
 | [],o,w,cur,h,_=>⟨cur,h,rfl,s_⟩
 | v::vs,o,w,cur,h,hl=>by
  simp only[d5]at hl
  have h1:(w.setCell ⟨b,o,none⟩ v).heap[b]?=some (.cells (cur.setIfInBounds o v) e fz):=by simp[World.setCell,Array.getElem?_modify,h]
  obtain⟨MY,g1,g2,g3⟩:=eE b e fz vs (o+1) _ _ h1 aab;refine⟨MY,g1,by simpa using g2,?_⟩;rw[g3];have Mz:o<cur.toList.length:=by simp;omega
  simp only[Array.toList_setIfInBounds,d5]
  have e1:(cur.toList.set o v).take (o+1)=cur.toList.take o++[v]:=by rw[z6 aab];simp[G4]
  have e2:(cur.toList.set o v).drop (o+1+vs.length)=cur.toList.drop (o+(vs.length+1)):=by rw[List.drop_set_of_lt o_];congr 1;omega
  rw[e1,e2];simp
theorem eD (b:Nat):∀(vs:List Value) (o:Nat) (w:World),Turn (fun k=>k=b) w (w.setCells b o vs)
 | [],_,w=>Turn.refl _ w
 | v::vs,o,w=>(Turn.setCell w ⟨b,o,none⟩ v).trans (eD b vs (o+1) _)
theorem oa {t u ty e:TypeId}{i:TypeInfo}{du:TypeDesc}(ht:P.underlying t=some (.slice e))(hu:P.underlying u=some du)(hk:iU du=none)(hi:P.info? e=some i)
  (x:Value) (b sLen sCap n:Nat) (news:List Value) (hl:∀w,(Builtin.lenOf x).run P w= .ok n w) (hf:(Builtin.firstCells i.size n x).run P w= .ok news.toArray w) (Nj:sLen+n<=sCap)
  {cur:Array Value} {e':TypeId} {fz:Nat×Nat} (hb:w.heap[b]?=some (.cells cur e' fz)) (hz:ca cur.size fz) (M2:sLen*i.size+news.length<=cur.size) (h1:∀v∈news,v.oneCell'=true):
  (Builtin.append_ #[t,u] ty #[.slice (some ⟨b,0,none⟩) sLen sCap,x]).run P w= .ok (.slice (some ⟨b,0,none⟩) (sLen+n) sCap) (w.setCells b (sLen*i.size) news):=by
 have Na:=run_storeCells_cells (P:=P) b (sLen*i.size) news 0 w (fun j hj=>by
   rw[cell_of_row w b _ cur e' fz hb];simp only[z4]
   rw[w7 o_];rfl) (fun j hj=>by
   simp only[World.frozen?,hb,z4];have:=hz (sLen*i.size+j) o_;simp only[A8,p9,Nat.not_le,Nat.not_lt]
   omega) h1
 simp only[z4]at Na;unfold Builtin.append_;simp only[D7,e8,j8,m8,run_underlying ht,run_underlying hu,i9,cn hi,o9]
 cases du
 case int=>simp[iU]at hk
 all_goals simp only[A2,if_false,hl,c7 Nj,F2,if_true,hf,dS,Na,m8,i9,o9]
theorem mN {t u ty e:TypeId}{i:TypeInfo}{z:Value}{du:TypeDesc}(ht:P.underlying t=some (.slice e))(hu:P.underlying u=some du)(hk:iU du=none)(hi:P.info? e=some i)(hz:i.zero=some z)
  (x:Value) (A:Option Addr) (sLen sCap n:Nat) (olds news:List Value) (hl:∀w,(Builtin.lenOf x).run P w= .ok n w) (hf:(Builtin.firstCells i.size n x).run P w.drew= .ok news.toArray w.drew)
  (Pg:(Builtin.firstCells i.size sLen (.slice A sLen sCap)).run P w.drew= .ok olds.toArray w.drew)
  (hg:sCap<sLen+n) (h63:sLen+n<=9223372036854775807) (M2:(sLen+n)*i.bytes<=140737488355328):
  (Builtin.append_ #[t,u] ty #[.slice A sLen sCap,x]).run P w=
   .ok (.slice (some ⟨w.heap.size,0,none⟩) (sLen+n) (grownCap w (sLen+n) sCap e))
    (w.drew.alloc (.cells (olds.toArray++news.toArray++Builtin.zeroCells z.cells (grownCap w (sLen+n) sCap e-(sLen+n))) e)):=by
 have hn:¬(sLen+n<=sCap):=o_
 have Wh:¬(((sLen+n:Nat):Int)>IntKind.i64.max):=by have:IntKind.i64.max=9223372036854775807:=d_;omega
 have VR:¬(Builtin.nextslicecap (sLen+n) sCap*i.bytes>2^48):=by have:=growslice_fits hg M2;omega
 unfold Builtin.append_;simp only[D7,e8,j8,m8,run_underlying ht,run_underlying hu,i9,cn hi,o9]
 cases du
 case int=>simp[iU]at hk
 all_goals simp only[A2,if_false,hl,b8 hn,F2,if_true,zc hi,b8 VR,Wh,false_and,m8,i9,o9]
 all_goals
  simp[Question.forced,hf,Pg,fv hi hz,jw,grownCap];congr 2;apply Array.ext';simp[j9]
theorem DM {ok:Nat->Prop}{v:Value}{sz:Nat}{rows:List (List Tr)}(h:RT w ok v (.lst sz rows)):∃news,(∀(P:Program) (w':World),(Builtin.lenOf v).run P w'= .ok rows.length w')/\
  (∀(P:Program) (w':World),(∀b,ok b->w'.heap[b]?=w.heap[b]?)->(Builtin.firstCells sz rows.length v).run P w'= .ok news.toArray w')/\RTs w ok news rows.flatten/\∀r∈rows,r.length=sz:=by
 obtain⟨A,c,rfl,h1,h2,hu,MF⟩:=h.slice_inv;by_cases h0:rows=[]
 ·subst h0;refine⟨[],fun P w'=>by simp[Builtin.lenOf],fun P w' _=>?_,trivial,hu⟩
  cases A with|none=>simp[Builtin.firstCells]|some ad=>simp[Builtin.firstCells,loadCells,loadCellsFrom]
 ·obtain⟨ad,us,rfl,MC,hl,MI,hr⟩:=MF h0;refine⟨us,fun P w'=>by simp[Builtin.lenOf],fun P w' hk=>?_,hr,hu⟩;exact run_firstCells_some w' sz rows.length ad rows.length c us (by rw[hl,aR sz rows hu]) fun j v hv=>(C4 (w:=w) (by rw[gV];exact hk _ MC)).trans (MI j v hv)
theorem V108{p:Prop}(h:p:=by
 exact⟨[],fun P w'=>by simp[Builtin.lenOf],fun P w' _=>by simp[Builtin.firstCells],trivial,s_⟩):p:=h
theorem vG {esz:Nat}{x:Operand}{K2:Bool->List (List Tr)->List Id->Prop}(h:fV esz (ev x) H K2):∃fr rows R,K2 fr rows R/\
  ∀(N B:Nat) (M:Nat->Prop) (w0:Start) (ρ:Rho) (s:F_) (a:Act) (w:World),Conc N B M w0 ρ s a w->evL s.L x=ev x->(∀id∈R,s.H id=H id)->
   ∃news,(∀(P:Program) (w':World),(Builtin.lenOf (a.eval x)).run P w'= .ok rows.length w')/\(∀(P:Program) (w':World),w'.heap=w.heap->(Builtin.firstCells esz rows.length (a.eval x)).run P w'= .ok news.toArray w')/\
    RTs w (okF B (okB ρ s.H w) fr) news rows.flatten/\∀r∈rows,r.length=esz:=by
 unfold fV at h;split at h
 ·rename_i b hx;obtain⟨rfl,h⟩:=h;refine⟨_,_,_,h,fun N B M w0 ρ s a w hc Mx _=>?_⟩;have hv:=(hc.eval x).1;rw[Mx,hx]at hv;have e1:=fH hv;rw[e1];have Nv:(⟨b.toArray⟩:ByteArray).size=b.length:=by simp[ByteArray.size]
  refine⟨b.map fun u=> .int .u8 u.toNat,fun P w'=>by simp[Builtin.lenOf,Nv],fun P w' _=>?_,?_,by simp[aY]⟩
  ·simp only[Builtin.firstCells,e7,o9];congr 1;have:(⟨b.toArray⟩:ByteArray).extract 0 b.length=⟨b.toArray⟩:=(by rw[<-Nv];simp);rw[this];simp
  ·clear h e1 hv hx Nv
   induction b with
   | nil=>trivial
   | cons u b ih=>exact⟨.int _ _,ih⟩
 ·rename_i sz hx;refine⟨_,_,_,h,fun N B M w0 ρ s a w hc Mx _=>?_⟩;have hv:=(hc.eval x).1;rw[Mx,hx]at hv;have e1:a.eval x= .slice none 0 0:=hv;rw[e1];exact V108
 ·rename_i sz rows hx;obtain⟨rfl,h⟩:=h;refine⟨_,_,_,h,fun N B M w0 ρ s a w hc Mx _=>?_⟩;have hv:=(hc.eval x).1;rw[Mx,hx]at hv;obtain⟨news,g1,g2,g3,g4⟩:=DM hv;exact⟨news,g1,fun P w' e=>g2 P w' fun b _=>by rw[e],g3.keep fun b hb=>⟨rfl,hb,fun e=>by cases e⟩,g4⟩
 ·rename_i sz rows hx;obtain⟨rfl,h⟩:=h;refine⟨_,_,_,h,fun N B M w0 ρ s a w hc Mx _=>?_⟩;have hv:=(hc.eval x).1;rw[Mx,hx]at hv;have hv:RT w (okF B (okB ρ s.H w) true) (a.eval x) (.lst sz rows):=hv;obtain⟨news,g1,g2,g3,g4⟩:=DM hv;exact⟨news,g1,fun P w' e=>g2 P w' fun b _=>by rw[e],g3,g4⟩
 ·rename_i q hx;split at h
  ·rename_i fr sz rows hq;obtain⟨rfl,h⟩:=h;refine⟨_,_,_,h,fun N B M w0 ρ s a w hc Mx hR=>?_⟩;have hv:=(hc.eval x).1;rw[Mx,hx]at hv;obtain⟨_,e1⟩:=hv;rw[e1];have MH:s.H q=some (.arr fr sz rows):=(by rw[hR q s_];exact hq);obtain⟨hu,g⟩:=hc.arr MH;rcases g with⟨g1,g2⟩|⟨b,cap,cur,e,fz,g1,g2,g3,g4,g5,g6,g7,g8,g9⟩
   ·subst g2;rw[g1];exact V108
   ·rw[g1];refine⟨_,fun P w'=>by simp[Builtin.lenOf],fun P w' he=>?_,g7,hu⟩
    exact run_firstCells_some w' sz rows.length ⟨b,0,none⟩ rows.length cap _ (by rw[g7.length,aR sz rows hu]) fun j v hv=>by
     rw[C4 (w:=w) (by rw[he])];exact g8 j v hv
  ·exact h.elim
 ·rename_i q k hx;split at h
  ·rename_i fr sz rows hq;obtain⟨rfl,Nf,h⟩:=h;refine⟨_,_,_,h,fun N B M w0 ρ s a w hc Mx hR=>?_⟩;have hv:=(hc.eval x).1;rw[Mx,hx]at hv;obtain⟨A,n,c,e0,e1,e2⟩:=hv;rw[e1];have MH:s.H q=some (.arr fr sz rows):=(by rw[hR q s_];exact hq);obtain⟨hu,g⟩:=hc.arr MH;have UA:∀r∈rows.take k,r.length=sz:=fun r hr=>hu r (t8 hr);have QQ:(rows.take k).length=k:=(by rw[l6];omega);rcases g with⟨g1,g2⟩|⟨b,cap,cur,e,fz,g1,g2,g3,g4,g5,g6,g7,g8,g9⟩
   ·subst g2;have:k=0:=(by simpa using Nf);subst this;rw[g1]at e0;injection e0 with e01;subst e01;exact V108
   ·rw[g1]at e0;injection e0 with e01 e02 e03;subst e01;subst e02;subst e03;have MN:(rows.take k).flatten=rows.flatten.take (k*sz):=(gk sz rows k hu Nf).symm;have Pf:=g7.take (k*sz);rw[<-MN]at Pf;refine⟨_,fun P w'=>by simp[Builtin.lenOf,QQ],fun P w' he=>?_,Pf,UA⟩;rw[QQ];refine run_firstCells_some w' sz k ⟨b,0,none⟩ k cap _ ?_ fun j v hv=>?_
    ·rw[Pf.length,aR sz _ UA,QQ]
    ·rw[n3]at hv;split at hv
     ·rw[C4 (w:=w) (by rw[he])];exact g8 j v hv
     ·cases hv
  ·exact h.elim
 ·exact h.elim
theorem V92{p:Prop}(h:p:=by
 rw[dS,World.cell?_drew,cell_of_row w b j cur e' fz hb];rw[n3]at hv;split at hv
 ·simpa using hv
 ·cases hv):p:=h
theorem Conc.append (h:Conc N B M w0 ρ s a w){T U e:TypeId}{d:Nat}{te:LK}{i ie:TypeInfo}{de du:TypeDesc}(hu:P.underlying T=some (.slice e))(fite:te.Fit P e ie de)(QY:P.underlying U=some du)(hk:iU du=none)
  (hd:d<N) (hU:¬s.U d) (rm:List Id) (rows news:List (List Tr)) (fr fr':Bool) (ty:TypeId) (sv x:Value) (UD:∀r∈news,r.length=te.size) (U0:∀r∈rows,r.length=te.size)
  (hs:(sv= .slice none 0 0/\rows=[])\/∃b cap cur e' fz,sv= .slice (some ⟨b,0,none⟩) rows.length cap/\w.heap[b]?=some (.cells cur e' fz)/\ca cur.size fz/\rows.length<=cap/\cap<=maxLen/\cur.size=cap*te.size/\
   RTs w (okF B (okB ρ s.H w) fr) (cur.toList.take (rows.length*te.size)) rows.flatten/\(fr=true->B<=b)/\∃o x',o∈rm/\s.H o=some x'/\Own ρ o b)
  (nv:List Value) (hl:∀w',(Builtin.lenOf x).run P w'= .ok news.length w') (hf:∀w',w'.heap=w.heap->(Builtin.firstCells te.size news.length x).run P w'= .ok nv.toArray w') (hn:RTs w (okF B (okB ρ s.H w) fr') nv news.flatten)
  (M2:fits (rows.length+news.length) te.bytes) (R:List Id):
  ∃v w' ρ',(Builtin.append_ #[T,U] ty #[sv,x]).run P w= .ok v w'/\Conc N B M w0 ρ' (s.app (some d) ⟨.r (.c (.own (d,0,0))),rm.map (fun r=>(r,none))++[((d,0,0),some (.arr (fr&&fr') te.size (rows++news)))],some d,R⟩) (a.put (some d) v) w':=by
 obtain⟨z,hz,hm⟩:=fite.zero
 have PV:z.cells.size=te.size:=by have h1:=(dU (B:=B) (ρ:=⟨fun _=>default,fun _ _=>False,fun _=>True⟩) (w:=w) (ok:=fun _=>True) hm).length;rw[fite.zlen]at h1;simpa using h1
 have UU:∀r∈rows++news,r.length=te.size:=fun r hr=>(d9.1 hr).elim (U0 r) (UD r);have N2:nv.length=news.length*te.size:=by rw[hn.length,aR te.size news UD]
 have Nn:rows.flatten.length=rows.length*te.size:=aR te.size rows U0;have Sz:rows.length+news.length<=maxLen:=by have:=M2.2;unfold maxLen;omega
 have MN:(rows++news).flatten=rows.flatten++news.flatten:=s_;have wk1:∀{vs:List Value} {ts:List Tr},RTs w (okF B (okB ρ s.H w) fr) vs ts->RTs w (okF B (okB ρ s.H w) (fr&&fr')) vs ts:=fun h=>h.keep (go fun e=>by simp at e;exact e.1);have wk2:∀{vs:List Value} {ts:List Tr},RTs w (okF B (okB ρ s.H w) fr') vs ts->RTs w (okF B (okB ρ s.H w) (fr&&fr')) vs ts:=fun h=>h.keep (go fun e=>by simp at e;exact e.2)
 have grow:∀(A:Option Addr) (sCap:Nat) (olds:List Value),sCap<rows.length+news.length->olds.length=rows.length*te.size->RTs w (okF B (okB ρ s.H w) fr) olds rows.flatten->
   (Builtin.firstCells te.size rows.length (.slice A rows.length sCap)).run P w.drew= .ok olds.toArray w.drew->sv= .slice A rows.length sCap->
   ∃v w' ρ',(Builtin.append_ #[T,U] ty #[sv,x]).run P w= .ok v w'/\Conc N B M w0 ρ' (s.app (some d) ⟨.r (.c (.own (d,0,0))),rm.map (fun r=>(r,none))++[((d,0,0),some (.arr (fr&&fr') te.size (rows++news)))],some d,R⟩) (a.put (some d) v) w':=by
  intro A sCap olds Mz Pt Yq Pg Wz;subst Wz;have ME:=mN (w:=w) (ty:=ty) hu QY hk fite.info hz x A rows.length sCap news.length olds nv hl (by rw[fite.size];exact hf _ rfl) (by rw[fite.size];exact Pg) Mz M2.2 (by rw[fite.bytes];exact M2.1);have MT:=grownCap_ge w (rows.length+news.length) sCap e;have MZ:=grownCap_le_maxLen w (rows.length+news.length) sCap e Sz;generalize grownCap w (rows.length+news.length) sCap e=gc at ME MT MZ;have NN:RTs w (okF B (okB ρ s.H w) (fr&&fr')) (olds++nv) (rows.flatten++news.flatten):=(wk1 Yq).append (wk2 hn)
  obtain⟨ρ',h'⟩:=h.newArr hd hU rm (w':=w.drew.alloc (.cells (olds.toArray++nv.toArray++Builtin.zeroCells z.cells (gc-(rows.length+news.length))) e)) ((Turn.drew _ w).trans (Turn.alloc _ _ _)) (b:=w.heap.size) (cap:=gc) (sz:=te.size)
   (us:=olds.toArray++nv.toArray++Builtin.zeroCells z.cells (gc-(rows.length+news.length))) (e:=e) (fz:=(0,0)) (rows:=rows++news) (fr:=fr&&fr') (d8 _) (heap_alloc_new w.drew _) (dC _) UU aab MZ
   (by simp only[Array.size_append,B0,size_zeroCells,PV,Pt,N2];rw[<-p8,<-p8];congr 1;omega)
   (fun ok' MC _=>by
    rw[MN,c8,p8,<-Pt,<-N2,<-c8];simp only[B3,j9];rw[<-j9,G9]
    exact NN.keep fun c MB=>⟨rfl,MC c MB.1,MB.2⟩) R
  exact⟨_,_,ρ',ME,by simpa using h'⟩
 rcases hs with⟨rfl,rfl⟩|⟨b,cap,cur,e',fz,rfl,hb,TO,MZ,WC,PI,TD,Y0,QE⟩
 ·by_cases h0:news=[]
  ·subst h0;refine⟨.slice none 0 0,w,?_⟩;have TS:nv=[]:=x8 (by simpa using N2);subst TS
   have ME:(Builtin.append_ #[T,U] ty #[.slice none 0 0,x]).run P w= .ok (.slice none 0 0) w:=by
    unfold Builtin.append_;simp only[D7,e8,j8,m8,run_underlying hu,run_underlying QY,i9,cn fite.info,o9];have Ot:=hf w rfl
    cases du
    case int=>simp[iU]at hk
    all_goals simp[hl,fite.size]at Ot⊢;simp[Ot]
   obtain⟨ρ',h'⟩:=h.make hd hU (D:=fun _=>False) rm (Turn.refl _ w) (v:= .slice none 0 0) (vv:= .slice none 0 0) (x:= .arr (fr&&fr') te.size []) (av:= .r (.c (.own (d,0,0)))) (R:=R) (fun _=>False) (fun _ h=>h.elim) (fun b hb=>by cases hb) (fun _ h=>h.elim) (fun id MD=>by simp[AO.ids]at MD)
    (fun id MD=>by simp[AV.ids,AR.ids,AC.ids]at MD;left;rw[MD]) (fun ρ' ok' hk _ hρ hq _=>⟨⟨s_,.inl ⟨hq,rfl⟩⟩,⟨_,_,_,hq⟩,hq.symm⟩)
   exact⟨ρ',ME,by simpa using h'⟩
  ·exact grow none 0 [] (by simp;exact List.length_pos_iff.2 h0) s_ trivial (by simp[Builtin.firstCells]) rfl
 ·by_cases Nj:rows.length+news.length<=cap
  ·have ME:=oa (w:=w) (ty:=ty) hu QY hk fite.info x b rows.length cap news.length nv hl (by rw[fite.size];exact hf w rfl) Nj hb TO (by rw[fite.size,N2,PI,<-p8];exact l9 _ Nj) hn.one;obtain⟨MY,g1,g2,g3⟩:=eE b e' fz nv (rows.length*ie.size) w cur hb (by rw[fite.size,N2,PI,<-p8];exact l9 _ Nj);rw[fite.size]at g1 g3 ME
   obtain⟨ρ',h'⟩:=h.make hd hU (D:=fun k=>k=b) rm (eD b nv (rows.length*te.size) w) (v:= .slice (some ⟨b,0,none⟩) (rows.length+news.length) cap) (vv:= .slice (some ⟨b,0,none⟩) (rows.length+news.length) cap) (x:= .arr (fr&&fr') te.size (rows++news)) (av:= .r (.c (.own (d,0,0)))) (R:=R) (fun _=>False)
    (fun b' ML=>by subst ML;exact QE) (fun b' ML=>by
     injection ML with ML;subst ML
     exact⟨(E1.1 g1).1,.inr QE⟩) (fun _ h=>h.elim) (fun id MD=>by simp[AO.ids]at MD)
    (fun id MD=>by simp[AV.ids,AR.ids,AC.ids]at MD;left;rw[MD]) (fun ρ' ok' hk _ hρ hq _=>by
     refine⟨⟨UU,.inr ⟨b,cap,MY,e',fz,by rw[hq];simp,g1,by rw[g2];exact TO,by simp;omega,WC,by rw[g2,PI],?_,fun e=>Y0 (by simp at e;exact e.1)⟩⟩,⟨_,_,_,hq⟩,hq.symm⟩;have Mw:(cur.toList.take (rows.length*te.size)).length=rows.length*te.size:=(by rw[TD.length,Nn]);rw[g3,MN,c8,p8,j9,<-j9,<-N2];have e0:rows.length*te.size+nv.length=(cur.toList.take (rows.length*te.size)++nv).length:=(by rw[c8,Mw]);rw[e0,G9]
     exact((wk1 TD).append (wk2 hn)).keep (iw hk))
   exact⟨_,_,ρ',ME,h'⟩
  ·refine grow (some ⟨b,0,none⟩) cap (cur.toList.take (rows.length*te.size)) o_ (by rw[TD.length,Nn]) TD ?_ rfl;refine run_firstCells_some w.drew te.size rows.length ⟨b,0,none⟩ rows.length cap _ (by rw[TD.length,Nn]) fun j v hv=>?_;exact V92
end
section
variable {N B:Nat} {M:Nat->Prop} {w0:Start} {ρ:Rho} {s:F_} {a:Act} {w:World} {o:Oper} {H:Id->Option AO} {K:Eff->Prop}
theorem memI_iff {t:Id}{l:List Id}:kg t l=true↔t∈l:=by
 simp only[kg,y7];constructor
 ·rintro⟨x,h1,h2⟩;rw[idEq_iff]at h2;exact h2▸h1
 ·intro h;exact⟨t,h,idEq_iff.2 rfl⟩
theorem nodupI_iff:∀{l:List Id},gG l=true↔l.Nodup
 | []=>by simp[gG]
 | o::l=>by
  simp only[gG,b9,u9,F0,nodupI_iff (l:=l)];constructor
  ·rintro⟨h1,h2⟩;exact⟨fun h=>(by rw[memI_iff.2 h]at h1;cases h1),h2⟩
  ·rintro⟨h1,h2⟩;refine⟨?_,h2⟩
   cases hb:kg o l with|false=>rfl|true=>exact absurd (memI_iff.1 hb) h1
def Cells (ρ:Rho)(s:F_)(w:World)(ids:List Id)(bad:Nat->Prop)(us:List Value)(ds:List DC):Prop:=
 ∃Fp:Nat->Nat->Prop,us.length=ds.length/\(∀(p:Nat) (v:Value) (d:DC),us[p]?=some v->ds[p]?=some d->RD w (okB ρ s.H w) (Fp p) v d)/\
  (∀p c,Fp p c->(∃o x,o∈ids/\s.H o=some x/\Own ρ o c)/\¬bad c)/\∀p q c,p≠q->Fp p c->¬Fp q c
theorem Cells.mono {ids Nw:List Id}{bad T9:Nat->Prop}{us:List Value}{ds:List DC}(h:Cells ρ s w ids bad us ds)(hi:∀o∈ids,o∈Nw)(hb:∀c,T9 c->bad c):Cells ρ s w Nw T9 us ds:=by
 obtain⟨Fp,h1,h2,h3,h4⟩:=h
 exact⟨Fp,h1,h2,fun p c hc=>by
  obtain⟨⟨o,x,g1,g2,g3⟩,g4⟩:=h3 p c hc
  exact⟨⟨o,x,hi o g1,g2,g3⟩,fun hx=>g4 (hb c hx)⟩,h4⟩
theorem Cells.append (hc:Conc N B M w0 ρ s a w){ids Nw:List Id}{bad:Nat->Prop}{us SD:List Value}{ds VK:List DC}(h:Cells ρ s w ids bad us ds)(h':Cells ρ s w Nw bad SD VK)(MF:∀o∈ids,o∉Nw):
  Cells ρ s w (ids++Nw) bad (us++SD) (ds++VK):=by
 obtain⟨Fp,h1,h2,h3,h4⟩:=h;obtain⟨Fp',To,WM,PB,Q0⟩:=h';refine⟨fun p c=>(p<us.length/\Fp p c)\/(us.length<=p/\Fp' (p-us.length) c),by simp[h1,To],fun p v d hv hd=>?_,fun p c NZ=>?_,fun p q c Rj hp hq=>?_⟩
 ·rcases m7 p us.length with Mz|MT
  ·rw[j7 Mz]at hv;rw[j7 o_]at hd;have:=h2 p v d hv hd;exact this.keep (fun b hb=>⟨rfl,hb⟩) fun b hb=>⟨rfl,.inl ⟨Mz,hb⟩⟩
  ·rw[m5 MT]at hv;rw[m5 o_,<-h1]at hd;have:=WM _ v d hv hd;exact this.keep (fun b hb=>⟨rfl,hb⟩) fun b hb=>⟨rfl,.inr ⟨MT,hb⟩⟩
 ·rcases NZ with⟨_,NZ⟩|⟨_,NZ⟩
  ·obtain⟨⟨o,x,g1,g2,g3⟩,g4⟩:=h3 p c NZ;exact⟨⟨o,x,by simp[g1],g2,g3⟩,g4⟩
  ·obtain⟨⟨o,x,g1,g2,g3⟩,g4⟩:=PB _ c NZ;exact⟨⟨o,x,by simp[g1],g2,g3⟩,g4⟩
 ·rcases hp with⟨p1,hp⟩|⟨p1,hp⟩
  ·rcases hq with⟨q1,hq⟩|⟨q1,hq⟩
   ·exact h4 p q c Rj hp hq
   ·obtain⟨⟨o,x,g1,g2,g3⟩,_⟩:=h3 p c hp;obtain⟨⟨o',x',Qd,QR,QW⟩,_⟩:=PB _ c hq;exact hc.sep o o' x x' c g2 QR (fun e=>MF o g1 (e▸Qd)) g3 QW
  ·rcases hq with⟨q1,hq⟩|⟨q1,hq⟩
   ·obtain⟨⟨o,x,g1,g2,g3⟩,_⟩:=h3 q c hq;obtain⟨⟨o',x',Qd,QR,QW⟩,_⟩:=PB _ c hp;exact hc.sep o o' x x' c g2 QR (fun e=>MF o g1 (e▸Qd)) g3 QW
   ·exact Q0 _ _ c o_ hp hq
theorem Cells.nil {bad:Nat->Prop}:Cells ρ s w [] bad [] []:=⟨fun _ _=>False,rfl,s_,fun _ _ h=>h.elim,fun _ _ _ _ h=>h.elim⟩
theorem CT (hc:Conc N B M w0 ρ s a w){q:Id}{fr:Bool}{sz:Nat}{rows:List (List Tr)}(hq:s.H q=some (.arr fr sz rows))(MN:flat rows):DT w (Own ρ q) (ρ q) (.lst sz rows):=by
 obtain⟨hu,g⟩:=hc.arr hq;rcases g with⟨g1,g2⟩|⟨b,cap,cur,e,fz,g1,g2,g3,g4,g5,g6,g7,g8,g9⟩
 ·subst g2;rw[g1];exact .nil _ _
 ·have hb:Own ρ q b:= .inl aah;rw[g1];refine .arr _ b _ cap sz cur e fz rows (fun _ _=>False) hb g2 g3 rfl g4 g5 g6 hu g7.length (fun _ _ h=>h.elim) (fun _ _ _ _ h=>h.elim) fun p v u hv M9=>?_;have h4:=g7.get p v u hv M9;obtain⟨row,k1,k2⟩:=E4.1 (c9 M9);have h5:=MN row k1 u k2
  cases h4 with|int=>exact .int _ _ _|bool=>exact .bool _ _|str=>exact .str _ _|emp=>exact absurd rfl (h5 _ _)|lst=>exact absurd rfl (h5 _ _)
theorem Ho (hc:Conc N B M w0 ρ s a w){q:Id}{sz:Nat}{rows:List (List Tr)}(hq:s.H q=some (.dar sz (aK rows) none)):DT w (Own ρ q) (ρ q) (.lst sz rows):=by
 obtain⟨hu,g⟩:=hc.dar hq;have Mw:(aK rows).length=rows.length:=by simp[aK]
 have M9:∀r∈rows,r.length=sz:=fun r hr=>by
  have:=hu (r.map .d) (n7.2 ⟨r,hr,rfl⟩);simpa using this
 rcases g with⟨g1,g2,_⟩|⟨b,cap,cur,e,fz,Fp,g1,g2,g3,g4,g5,g6,g7,g8,g9,g10⟩
 ·have:rows=[]:=by simpa [aK]using g2
  subst this;rw[g1];exact .nil _ _
 ·have hb:Own ρ q b:= .inl aah;rw[Mw]at g1 g4 g9;rw[lz]at g9;rw[g1];refine .arr _ b _ cap sz cur e fz rows Fp hb g2 g3 rfl g4 g5 g6 M9 (by rw[g9.1,e7]) (fun p c h=>⟨.inr (g7 p c h).1,(g7 p c h).2⟩) g8 fun p v u hv Re=>?_;have:=g9.2 p v (.d u) hv (by rw[p6,Re];rfl);simp only[cp]at this;exact this
theorem rh:∀(cs:List AC) (K:List DC->List Id->Prop),jJ H cs K->∃ds ids,K ds ids/\∀{N B:Nat} {M:Nat->Prop} {w0:Start} {ρ:Rho} {s:F_} {a:Act} {w:World},Conc N B M w0 ρ s a w->(∀o∈ids,s.H o=H o)->ids.Nodup->
  ∀vs:List Value,RCs B ρ w (okB ρ s.H w) vs cs->Cells ρ s w ids (fun _=>False) vs ds
 | [],K,h=>⟨[],[],h,fun _ _ _ vs hv=>by
   cases vs with
   | nil=>exact Cells.nil
   | cons=>exact hv.elim⟩
 | c::r,K,h=>by
  have one:∀(d:DC) (ids0:List Id) (rest:jJ H r fun cs ids=>K (d::cs) (ids0++ids)),
    (∀{N B:Nat} {M:Nat->Prop} {w0:Start} {ρ:Rho} {s:F_} {a:Act} {w:World},Conc N B M w0 ρ s a w->(∀o∈ids0,s.H o=H o)->∀v,RC B ρ w (okB ρ s.H w) v c->Cells ρ s w ids0 (fun _=>False) [v] [d])->
    ∃ds ids,K ds ids/\∀{N B:Nat} {M:Nat->Prop} {w0:Start} {ρ:Rho} {s:F_} {a:Act} {w:World},Conc N B M w0 ρ s a w->(∀o∈ids,s.H o=H o)->ids.Nodup->
     ∀vs:List Value,RCs B ρ w (okB ρ s.H w) vs (c::r)->Cells ρ s w ids (fun _=>False) vs ds:=by
   intro d ids0 rest h1;obtain⟨ds,ids,hK,PW⟩:=rh r _ rest;refine⟨d::ds,ids0++ids,hK,fun hc hH OR vs hv=>?_⟩
   cases vs with
   | nil=>exact hv.elim
   | cons v vs=>have g1:=h1 hc (fun o ho=>hH o aag) v hv.1;have g2:=PW hc (fun o ho=>hH o aag) (E0.1 OR).2.1 vs hv.2;exact g1.append hc g2 fun o ho MX=>(E0.1 OR).2.2 o ho o MX rfl
  have flatC:∀(x:Tr),(∀sz rows,x≠.lst sz rows)->∀{w:World} {ok F:Nat->Prop} {v:Value},RT w ok v x->DT w F v x:=by
   intro x hx w ok F v hv
   cases hv with|int=>exact .int _ _ _|bool=>exact .bool _ _|str=>exact .str _ _|emp=>exact absurd rfl (hx _ _)|lst=>exact absurd rfl (hx _ _)
  have plain:∀(d:DC),(∀{B:Nat} {ρ:Rho} {s:F_} {w:World} (v:Value),RC B ρ w (okB ρ s.H w) v c->RD w (okB ρ s.H w) (fun _=>False) v d)->
    ∀{N B:Nat} {M:Nat->Prop} {w0:Start} {ρ:Rho} {s:F_} {a:Act} {w:World},Conc N B M w0 ρ s a w->(∀o∈([]:List Id),s.H o=H o)->∀v,RC B ρ w (okB ρ s.H w) v c->Cells ρ s w [] (fun _=>False) [v] [d]:=by
   intro d hd N B M w0 ρ s a w hc _ v hv;refine⟨fun _ _=>False,rfl,fun p v' d' h1 h2=>?_,fun _ _ h=>h.elim,fun _ _ _ _ h=>h.elim⟩
   cases p with|zero=>simp at h1 h2;subst h1;subst h2;exact hd v hv|succ p=>simp at h1
  have owned:∀(q:Id) (t:Tr),c= .own q->(∀{N B:Nat} {M:Nat->Prop} {w0:Start} {ρ:Rho} {s:F_} {a:Act} {w:World},Conc N B M w0 ρ s a w->s.H q=H q->DT w (Own ρ q) (ρ q) t/\∃x,s.H q=some x)->
    ∀{N B:Nat} {M:Nat->Prop} {w0:Start} {ρ:Rho} {s:F_} {a:Act} {w:World},Conc N B M w0 ρ s a w->(∀o∈[q],s.H o=H o)->∀v,RC B ρ w (okB ρ s.H w) v c->Cells ρ s w [q] (fun _=>False) [v] [.d t]:=by
   intro q t YN PO N B M w0 ρ s a w hc hH v hv;subst YN;obtain⟨g1,x,g2⟩:=PO hc (hH q s_);obtain⟨_,rfl⟩:=hv;refine⟨fun p c=>p=0/\Own ρ q c,rfl,fun p v' d' h1 h2=>?_,fun p c h=>⟨⟨q,x,s_,g2,h.2⟩,fun h=>h⟩,fun p p' c MF h1 h2=>MF (h1.1.trans h2.1.symm)⟩
   cases p with
   | zero=>simp at h1 h2;subst h1;subst h2;exact g1.mono fun c hc=>⟨rfl,hc⟩
   | succ p=>simp at h1
  cases c with
  | t x=>
   simp only[jJ]at h
   cases x with|lst sz rows=>exact one _ [] h (plain (.t (.lst sz rows)) fun v hv=>hv)|int k n=>exact one _ [] h (plain (.d (.int k n)) fun v hv=>flatC _ s_ hv)|bool b=>exact one _ [] h (plain (.d (.bool b)) fun v hv=>flatC _ s_ hv)|str b=>exact one _ [] h (plain (.d (.str b)) fun v hv=>flatC _ s_ hv)
  | f x=>
   simp only[jJ]at h
   cases x with|lst sz rows=>exact one _ [] h (plain (.t (.lst sz rows)) fun v hv=>RT.keep (show RT _ _ v _ from hv) mO)|int k n=>exact one _ [] h (plain (.d (.int k n)) fun v hv=>flatC _ s_ hv)|bool b=>exact one _ [] h (plain (.d (.bool b)) fun v hv=>flatC _ s_ hv)|str b=>exact one _ [] h (plain (.d (.str b)) fun v hv=>flatC _ s_ hv)
  | nils sz=>
   simp only[jJ]at h
   exact one _ [] h (plain (.d (.lst sz [])) fun v hv=>by
    have:v= .slice none 0 0:=hv
    subst this;exact .nil _ _)
  | own q=>
   simp only[jJ]at h;split at h
   ·rename_i fr sz rows hq;exact one _ [q] h.2 (owned q _ rfl fun hc hH=>⟨CT hc (hH.trans hq) h.1,_,hH.trans hq⟩)
   ·rename_i sz rows hq;obtain⟨rows',rfl,h⟩:=h;exact one _ [q] h (owned q _ rfl fun hc hH=>⟨Ho hc (hH.trans hq),_,hH.trans hq⟩)
   ·exact h.elim
  | nilp=>simp[jJ]at h
  | sub=>simp[jJ]at h
  | ptr=>simp[jJ]at h
  | opq=>simp[jJ]at h
  | mpv=>simp[jJ]at h
theorem Conc.newDar (h:Conc N B M w0 ρ s a w){d:Nat}(hd:d<N)(hU:¬s.U d)(rm:List Id){w':World}{D:Nat->Prop}(hT:Turn D w w'){b cap sz:Nat}{us:Array Value}{e:TypeId}{fz:Nat×Nat}{rows:List (List DC)}
  (hD:∀k,D k->k=b/\∃o x',o∈rm/\s.H o=some x'/\Own ρ o k) (hb:w.heap.size<=b\/∃o x',o∈rm/\s.H o=some x'/\Own ρ o b)
  (hh:w'.heap[b]?=some (.cells us e fz)) (hf:ca us.size fz) (hu:∀r∈rows,r.length=sz) (h1:rows.length<=cap) (h2:cap<=maxLen) (h3:us.size=cap*sz)
  (MK:Cells ρ s w rm (fun c=>c=b) (us.toList.take (rows.length*sz)) rows.flatten) (R:List Id):
  ∃ρ',Conc N B M w0 ρ' (s.app (some d) ⟨.r (.c (.own (d,0,0))),rm.map (fun r=>(r,none))++[((d,0,0),some (.dar sz rows none))],some d,R⟩) (a.put (some d) (.slice (some ⟨b,0,none⟩) rows.length cap)) w':=by
 have Mz:b<w'.heap.size:=(E1.1 hh).1;obtain⟨Fp,c1,c2,c3,c4⟩:=MK;refine h.make hd hU (D:=D) rm hT (v:= .slice (some ⟨b,0,none⟩) rows.length cap) (fun c=>∃p,Fp p c) (fun k hk=>(hD k hk).2) (fun b' ML=>?_) (fun c hc=>by obtain⟨p,hp⟩:=hc;exact(c3 p c hp).1) (fun id MD=>by simp[AO.ids]at MD) (fun id MD=>?_) (fun ρ' ok' hk O5 hρ hq hF=>⟨?_,?_⟩)
 ·injection ML with ML;subst ML;exact⟨Mz,hb⟩
 ·simp[AV.ids,AR.ids,AC.ids]at MD;left;rw[MD]
 ·refine⟨hu,.inr ⟨b,cap,us,e,fz,Fp,hq,hh,hf,h1,h2,h3,fun p c hc=>⟨hF c ⟨p,hc⟩,(c3 p c hc).2⟩,c4,c1,fun p v dd hv Rx=>?_⟩⟩;simp only[cp];refine(c2 p v dd hv Rx).keep hk fun c hc=>⟨?_,hc⟩;obtain⟨⟨o,x,g1,g2,g3⟩,g4⟩:=c3 p c hc;exact hT.block c (h.rng o x c g2 g3).1 fun hDc=>g4 (hD c hDc).1
 ·exact⟨⟨_,_,_,hq⟩,hq.symm⟩
end
section
variable {P:Program} {Γ:Env} {N B:Nat} {M:Nat->Prop} {w0:Start} {ρ:Rho} {s:F_} {a:Act} {w:World} {o:Oper} {ev:Operand->AV} {H:Id->Option AO} {K:Eff->Prop} {KV:AV->Prop}
theorem Cp {T U ty e:TypeId}{i:TypeInfo}{z:Value}{du:TypeDesc}(hu:P.underlying T=some (.slice e))(QY:P.underlying U=some du)(hk:iU du=none)(hi:P.info? e=some i)(hz:i.zero=some z)(PV:z.cells.size=i.size)
  (sv x:Value) (n m:Nat) (olds nv:List Value)
  (hs:(sv= .slice none 0 0/\n=0/\olds=[])\/∃b cap cur e' fz,sv= .slice (some ⟨b,0,none⟩) n cap/\w.heap[b]?=some (.cells cur e' fz)/\ca cur.size fz/\n<=cap/\cap<=maxLen/\cur.size=cap*i.size/\olds=cur.toList.take (n*i.size))
  (hl:∀w',(Builtin.lenOf x).run P w'= .ok m w') (hf:∀w',w'.heap=w.heap->(Builtin.firstCells i.size m x).run P w'= .ok nv.toArray w') (N2:nv.length=m*i.size) (Qu:∀v∈nv,v.oneCell'=true)
  (Zy:n+m<=9223372036854775807) (hby:(n+m)*i.bytes<=140737488355328):
  ∃v w',(Builtin.append_ #[T,U] ty #[sv,x]).run P w= .ok v w'/\
   ((
    v= .slice none 0 0/\w'=w/\n=0/\m=0/\sv= .slice none 0 0)\/∃b' NX MY e'' Rw D,v= .slice (some ⟨b',0,none⟩) (n+m) NX/\Turn D w w'/\w'.heap[b']?=some (.cells MY e'' Rw)/\ca MY.size Rw/\n+m<=NX/\NX<=maxLen/\MY.size=NX*i.size/\
    MY.toList.take ((n+m)*i.size)=olds++nv/\((w.heap.size<=b'/\∀k,¬D k)\/(blk sv=some b'/\∀k,D k->k=b'))):=by
 have Sz:n+m<=maxLen:=by unfold maxLen;omega
 have grow:∀(A:Option Addr) (sCap:Nat),sCap<n+m->olds.length=n*i.size->(Builtin.firstCells i.size n (.slice A n sCap)).run P w.drew= .ok olds.toArray w.drew->sv= .slice A n sCap->
   ∃v w',(Builtin.append_ #[T,U] ty #[sv,x]).run P w= .ok v w'/\
   ((
    v= .slice none 0 0/\w'=w/\n=0/\m=0/\sv= .slice none 0 0)\/∃b' NX MY e'' Rw D,v= .slice (some ⟨b',0,none⟩) (n+m) NX/\Turn D w w'/\w'.heap[b']?=some (.cells MY e'' Rw)/\ca MY.size Rw/\n+m<=NX/\NX<=maxLen/\MY.size=NX*i.size/\
    MY.toList.take ((n+m)*i.size)=olds++nv/\((w.heap.size<=b'/\∀k,¬D k)\/(blk sv=some b'/\∀k,D k->k=b'))):=by
  intro A sCap Mz Pt Pg Wz;have ME:=mN (w:=w) (ty:=ty) hu QY hk hi hz x A n sCap m olds nv hl (hf _ rfl) Pg Mz Zy hby;have MT:=grownCap_ge w (n+m) sCap e;have MZ:=grownCap_le_maxLen w (n+m) sCap e Sz;generalize grownCap w (n+m) sCap e=gc at ME MT MZ;rw[Wz];refine⟨_,_,ME,.inr ⟨w.heap.size,gc,olds.toArray++nv.toArray++Builtin.zeroCells z.cells (gc-(n+m)),e,(0,0),fun _=>False,s_,(Turn.drew _ w).trans (Turn.alloc _ _ _),heap_alloc_new w.drew _,dC _,MT,MZ,?_,?_,.inl ⟨d8 _,fun _ h=>h⟩⟩⟩
  ·simp only[Array.size_append,B0,size_zeroCells,PV,Pt,N2];rw[<-p8,<-p8];congr 1;omega
  ·rw[p8,<-Pt,<-N2,<-c8];simp only[B3,j9];rw[<-j9,G9]
 rcases hs with⟨rfl,rfl,rfl⟩|⟨b,cap,cur,e',fz,rfl,hb,TO,MZ,WC,PI,rfl⟩
 ·by_cases h0:m=0
  ·subst h0;have TS:nv=[]:=x8 (by simpa using N2);subst TS;refine⟨.slice none 0 0,w,?_,.inl ⟨rfl,rfl,rfl,rfl,rfl⟩⟩;unfold Builtin.append_;simp only[D7,e8,j8,m8,run_underlying hu,run_underlying QY,i9,cn hi,o9];have Ot:=hf w rfl
   cases du
   case int=>simp[iU]at hk
   all_goals simp[hl]at Ot⊢;simp[Ot]
  ·exact grow none 0 o_ s_ (by simp[Builtin.firstCells]) rfl
 ·have Pt:(cur.toList.take (n*i.size)).length=n*i.size:=by rw[l6,Array.length_toList,PI];exact y6 (l9 _ MZ)
  by_cases Nj:n+m<=cap
  ·have ME:=oa (w:=w) (ty:=ty) hu QY hk hi x b n cap m nv hl (hf w rfl) Nj hb TO (by rw[N2,PI,<-p8];exact l9 _ Nj) Qu;obtain⟨MY,g1,g2,g3⟩:=eE b e' fz nv (n*i.size) w cur hb (by rw[N2,PI,<-p8];exact l9 _ Nj);refine⟨_,_,ME,.inr ⟨b,cap,MY,e',fz,fun k=>k=b,rfl,eD b nv (n*i.size) w,g1,by rw[g2];exact TO,Nj,WC,by rw[g2,PI],?_,.inr ⟨rfl,fun _ h=>h⟩⟩⟩;rw[g3,p8,j9,<-j9,<-N2];have e0:n*i.size+nv.length=(cur.toList.take (n*i.size)++nv).length:=(by rw[c8,Pt]);rw[e0,G9]
  ·refine grow (some ⟨b,0,none⟩) cap o_ Pt ?_ rfl;refine run_firstCells_some w.drew i.size n ⟨b,0,none⟩ n cap _ Pt fun j v hv=>?_;exact V92
theorem RTs.cellsT {ok:Nat->Prop}{us:List Value}{ts:List Tr}{bad:Nat->Prop}(h:RTs w ok us ts)(MC:∀b,ok b->okB ρ s.H w b):Cells ρ s w [] bad us (ts.map .t):=by refine⟨fun _ _=>False,by rw[e7];exact h.length,fun p v d hv hd=>?_,fun _ _ h=>h.elim,fun _ _ _ _ h=>h.elim⟩;rw[p6,v4]at hd;obtain⟨u,hu,rfl⟩:=hd;exact(h.get p v u hv hu).keep fun b hb=>⟨rfl,MC b hb⟩
theorem rj {esz:Nat}{x:Operand}{K2:List (List DC)->List Id->List Id->Prop}(h:GI esz (ev x) H K2):∃news rm R,K2 news rm R/\
  ∀(N B:Nat) (M:Nat->Prop) (w0:Start) (ρ:Rho) (s:F_) (a:Act) (w:World),Conc N B M w0 ρ s a w->evL s.L x=ev x->(∀id∈rm++R,s.H id=H id)->
   ∃nv,(∀(P:Program) (w':World),(Builtin.lenOf (a.eval x)).run P w'= .ok news.length w')/\(∀(P:Program) (w':World),w'.heap=w.heap->(Builtin.firstCells esz news.length (a.eval x)).run P w'= .ok nv.toArray w')/\
    (∀r∈news,r.length=esz)/\(∀v∈nv,v.oneCell'=true)/\∀bad:Nat->Prop,(∀o x c,o∈rm->s.H o=some x->Own ρ o c->¬bad c)->Cells ρ s w rm bad nv news.flatten:=by
 have plain:∀(y:AV),ev x=y->(fV esz y H fun _ rows R=>K2 (rows.map (·.map .t)) [] R)->∃news rm R,K2 news rm R/\
  ∀(N B:Nat) (M:Nat->Prop) (w0:Start) (ρ:Rho) (s:F_) (a:Act) (w:World),Conc N B M w0 ρ s a w->evL s.L x=ev x->(∀id∈rm++R,s.H id=H id)->
   ∃nv,(∀(P:Program) (w':World),(Builtin.lenOf (a.eval x)).run P w'= .ok news.length w')/\(∀(P:Program) (w':World),w'.heap=w.heap->(Builtin.firstCells esz news.length (a.eval x)).run P w'= .ok nv.toArray w')/\
    (∀r∈news,r.length=esz)/\(∀v∈nv,v.oneCell'=true)/\∀bad:Nat->Prop,(∀o x c,o∈rm->s.H o=some x->Own ρ o c->¬bad c)->Cells ρ s w rm bad nv news.flatten:=by
  intro y hy h;rw[<-hy]at h;obtain⟨fr,rows,R,hK,ND⟩:=vG h;refine⟨_,[],R,hK,fun N B M w0 ρ s a w hc Wl hR=>?_⟩;obtain⟨nv,g1,g2,g3,g4⟩:=ND N B M w0 ρ s a w hc Wl (fun id MD=>hR id (by simpa using MD));refine⟨nv,by simpa using g1,by simpa using g2,fun r hr=>?_,g3.one,fun bad _=>?_⟩
  ·obtain⟨r',h1,rfl⟩:=n7.1 hr;simpa using g4 r' h1
  ·rw[<-I0];exact g3.cellsT fun b hb=>hb.1
 unfold GI at h;split at h
 ·rename_i q hx;split at h
  ·rename_i sz rows hq;obtain⟨rfl,hK⟩:=h;refine⟨rows,[q],[],hK,fun N B M w0 ρ s a w hc Wl hR=>?_⟩;have MH:s.H q=some (.dar sz rows none):=(by rw[hR q s_];exact hq);have hv:=(hc.eval x).1;rw[Wl,hx]at hv;obtain⟨_,e1⟩:=hv;obtain⟨hu,g⟩:=hc.dar MH;rcases g with⟨g1,g2,_⟩|⟨b,cap,cur,e,fz,Fp,g1,g2,g3,g4,g5,g6,g7,g8,g9,g10⟩
   ·subst g2;rw[e1,g1];exact⟨[],fun P w'=>by simp[Builtin.lenOf],fun P w' _=>by simp[Builtin.firstCells],s_,s_,fun bad _=>Cells.nil.mono s_ (fun _ h=>h)⟩
   ·rw[e1,g1];have MN:=aR sz rows hu;refine⟨cur.toList.take (rows.length*sz),fun P w'=>by simp[Builtin.lenOf],fun P w' e=>?_,hu,fun v hv=>?_,fun bad OH=>?_⟩
    ·refine run_firstCells_some w' sz rows.length ⟨b,0,none⟩ rows.length cap _ (by rw[g9.1,MN]) fun j v hv=>?_;have:=g10 j v hv;unfold World.cell? at this⊢;rw[e];exact this
    ·obtain⟨p,hp⟩:=C3 hv
     have Mz:p<rows.flatten.length:=by
      rw[<-g9.1];rcases m7 p (cur.toList.take (rows.length*sz)).length with h|h
      ·exact h
      ·rw[e9 h]at hp;cases hp
     have:=g9.2 p v _ hp (i7 Mz);simp only[cp]at this;generalize rows.flatten[p]=dd at this
     cases dd with|t x=>exact RT.one this|d x=>exact DT.one this
    ·refine⟨Fp,g9.1,fun p v d hv hd=>?_,fun p c MB=>⟨⟨q,_,s_,MH,.inr (g7 p c MB).1⟩,OH q _ c s_ MH (.inr (g7 p c MB).1)⟩,g8⟩;have:=g9.2 p v d hv hd;simpa only[cp]using this
  ·exact plain (ev x) rfl h
 ·exact plain _ rfl h
theorem Conc.appendD (h:Conc N B M w0 ρ s a w){T U e ty:TypeId}{d:Nat}{te:LK}{ie:TypeInfo}{de du:TypeDesc}(hu:P.underlying T=some (.slice e))(fite:te.Fit P e ie de)(QY:P.underlying U=some du)(hk:iU du=none)
  (hd:d<N) (hU:¬s.U d) (rm Oy:List Id) (rows news:List (List DC)) (sv x:Value) (UD:∀r∈news,r.length=te.size) (U0:∀r∈rows,r.length=te.size) (MF:∀o∈rm,o∉Oy)
  (hs:(sv= .slice none 0 0/\rows=[])\/∃b cap cur e' fz,sv= .slice (some ⟨b,0,none⟩) rows.length cap/\w.heap[b]?=some (.cells cur e' fz)/\ca cur.size fz/\rows.length<=cap/\cap<=maxLen/\cur.size=cap*te.size/\
   Cells ρ s w rm (fun c=>c=b) (cur.toList.take (rows.length*te.size)) rows.flatten/\∃o x',o∈rm/\s.H o=some x'/\blk (ρ o)=some b)
  (nv:List Value) (hl:∀w',(Builtin.lenOf x).run P w'= .ok news.length w') (hf:∀w',w'.heap=w.heap->(Builtin.firstCells te.size news.length x).run P w'= .ok nv.toArray w') (Qu:∀v∈nv,v.oneCell'=true)
  (UQ:∀bad:Nat->Prop,(∀o x c,o∈Oy->s.H o=some x->Own ρ o c->¬bad c)->Cells ρ s w Oy bad nv news.flatten)
  (M2:fits (rows.length+news.length) te.bytes) (R:List Id):
  ∃v w' ρ',(Builtin.append_ #[T,U] ty #[sv,x]).run P w= .ok v w'/\Conc N B M w0 ρ' (s.app (some d) ⟨.r (.c (.own (d,0,0))),(rm++Oy).map (fun r=>(r,none))++[((d,0,0),some (.dar te.size (rows++news) none))],some d,R⟩) (a.put (some d) v) w':=by
 obtain⟨z,hz,hm⟩:=fite.zero
 have PV:z.cells.size=te.size:=by have h1:=(dU (B:=B) (ρ:=ρ) (w:=w) (ok:=fun _=>True) hm).length;rw[fite.zlen]at h1;simpa using h1
 have N2:nv.length=news.length*te.size:=by obtain⟨Fp,h1,_⟩:=UQ (fun _=>False) (fun _ _ _ _ _ _ h=>h);rw[h1,aR te.size news UD]
 have MV:∀bad:Nat->Prop,(∀c,bad c->¬∃o x,o∈Oy/\s.H o=some x/\Own ρ o c)->Cells ρ s w Oy bad nv news.flatten:=fun bad hb=>UQ bad fun o x c h1 h2 h3 h4=>hb c h4 ⟨o,x,h1,h2,h3⟩
 obtain⟨olds,hs⟩:∃olds,(sv= .slice none 0 0/\rows=[]/\olds=[])\/∃b cap cur e' fz,sv= .slice (some ⟨b,0,none⟩) rows.length cap/\w.heap[b]?=some (.cells cur e' fz)/\ca cur.size fz/\rows.length<=cap/\cap<=maxLen/\cur.size=cap*te.size/\
   Cells ρ s w rm (fun c=>c=b) olds rows.flatten/\(∃o x',o∈rm/\s.H o=some x'/\blk (ρ o)=some b)/\olds=cur.toList.take (rows.length*te.size):=by
  rcases hs with⟨h1,h2⟩|⟨b,cap,cur,e',fz,h1,h2,h3,h4,h5,h6,h7,h8⟩
  ·exact⟨[],.inl ⟨h1,h2,rfl⟩⟩
  ·exact⟨_,.inr ⟨b,cap,cur,e',fz,h1,h2,h3,h4,h5,h6,h7,h8,rfl⟩⟩
 obtain⟨v,w',ME,SB⟩:=Cp (w:=w) (ty:=ty) hu QY hk fite.info hz (by rw[fite.size];exact PV) sv x rows.length news.length olds nv
  (by
   rcases hs with⟨h1,h2,h3⟩|⟨b,cap,cur,e',fz,h1,h2,h3,h4,h5,h6,_,_,h9⟩
   ·exact .inl ⟨h1,by rw[h2];rfl,h3⟩
   ·exact .inr ⟨b,cap,cur,e',fz,h1,h2,h3,h4,h5,by rw[fite.size];exact h6,by rw[fite.size];exact h9⟩) hl (by rw[fite.size];exact hf) (by rw[fite.size];exact N2) Qu M2.2 (by rw[fite.bytes];exact M2.1)
 refine⟨v,w',?_⟩;have UU:∀r∈rows++news,r.length=te.size:=fun r hr=>(d9.1 hr).elim (U0 r) (UD r);have MN:(rows++news).flatten=rows.flatten++news.flatten:=s_;rcases SB with⟨rfl,rfl,S4,WA,_⟩|⟨b',NX,MY,e'',Rw,D,rfl,hT,g1,g2,g3,g4,g5,g6,g7⟩
 ·have e1:rows=[]:=x8 S4;have e2:news=[]:=x8 WA;subst e1;subst e2
  obtain⟨ρ',h'⟩:=h.make hd hU (D:=fun _=>False) (rm++Oy) (Turn.refl _ w') (v:= .slice none 0 0) (vv:= .slice none 0 0) (x:= .dar te.size ([]++[]) none) (av:= .r (.c (.own (d,0,0)))) (R:=R) (fun _=>False) (fun _ h=>h.elim) (fun b hb=>by cases hb) (fun _ h=>h.elim) (fun id MD=>by simp[AO.ids]at MD)
   (fun id MD=>by simp[AV.ids,AR.ids,AC.ids]at MD;left;rw[MD]) (fun ρ' ok' hk _ hρ hq _=>⟨⟨s_,.inl ⟨hq,rfl,rfl⟩⟩,⟨_,_,_,hq⟩,hq.symm⟩)
  exact⟨ρ',ME,h'⟩
 ·rw[fite.size]at g5 g6
  have MK:∀bad:Nat->Prop,(∀c,bad c->c=b')->Cells ρ s w (rm++Oy) bad (MY.toList.take ((rows++news).length*te.size)) (rows++news).flatten:=by
   intro bad OH;rw[c8,g6,MN];rcases hs with⟨h1,h2,h0⟩|⟨b,cap,cur,e',fz,h1,h2,h3,h4,h5,h6,h7,⟨o,x',k1,k2,k3⟩,h0⟩
   ·subst h1;subst h2;subst h0;rcases g7 with⟨g7,_⟩|⟨g7,_⟩
    ·refine Cells.append h (Cells.nil.mono s_ (fun _ h=>h)) (MV bad fun c ML ⟨o1,x1,m1,m2,m3⟩=>?_) MF;have:=(h.rng o1 x1 c m2 m3).1;rw[OH c ML]at this;omega
    ·cases g7
   ·subst h1;have Ob:blk (ρ o)=some b:=k3
    have Nk:∀c,bad c->c=b\/w.heap.size<=c:=fun c hc=>by
     rw[OH c hc];rcases g7 with⟨g7,_⟩|⟨g7,_⟩
     ·exact .inr g7
     ·have:b=b':=(by simpa [blk]using g7);exact .inl this.symm
    obtain⟨Fp,c1,c2,c3,c4⟩:=h7;refine Cells.append h ⟨Fp,c1,c2,fun p c hc=>⟨(c3 p c hc).1,fun hx=>?_⟩,c4⟩ (MV bad fun c ML ⟨o1,x1,m1,m2,m3⟩=>?_) MF
    ·rcases Nk c hx with e|e
     ·exact(c3 p c hc).2 e
     ·obtain⟨⟨o2,x2,m1,m2,m3⟩,_⟩:=c3 p c hc;have:=(h.rng o2 x2 c m2 m3).1;omega
    ·rcases Nk c ML with e|e
     ·subst e;exact h.sep o o1 x' x1 c k2 m2 (fun e=>MF o k1 (e▸m1)) (.inl k3) m3
     ·have:=(h.rng o1 x1 c m2 m3).1;omega
  obtain⟨ρ',h'⟩:=h.newDar hd hU (rm++Oy) hT (b:=b') (cap:=NX) (sz:=te.size) (us:=MY) (e:=e'') (fz:=Rw) (rows:=rows++news)
   (fun k hk=>by
    rcases g7 with⟨_,g7⟩|⟨g7,g8⟩
    ·exact absurd hk (g7 k)
    ·refine⟨g8 k hk,?_⟩;rw[g8 k hk];rcases hs with⟨h1,h2,h0⟩|⟨b,cap,cur,e',fz,h1,h2,h3,h4,h5,h6,h7,⟨o,x',k1,k2,k3⟩,h0⟩
     ·subst h1;cases g7
     ·subst h1;have:b=b':=(by simpa [blk]using g7);subst this
      exact⟨o,x',by simp[k1],k2,.inl k3⟩)
   (by
    rcases g7 with⟨g7,_⟩|⟨g7,_⟩
    ·exact .inl g7
    ·rcases hs with⟨h1,h2,h0⟩|⟨b,cap,cur,e',fz,h1,h2,h3,h4,h5,h6,h7,⟨o,x',k1,k2,k3⟩,h0⟩
     ·subst h1;cases g7
     ·subst h1;have:b=b':=(by simpa [blk]using g7);subst this
      exact .inr ⟨o,x',by simp[k1],k2,.inl k3⟩) g1 g2 UU (by simpa using g3) g4 g5 (MK _ fun _ h=>h) R
  exact⟨ρ',ME,by simpa using h'⟩
theorem V62{p:Prop}(h:p:=by
 have ME:(execOp a.eval o).run P w= .ok (.value v) w':=by simp[execOp,ho,resolve,invoke,builtin,r1]
 unfold Oper.wp;rw[ME];show K (a.put o.dst _) _;rw[MU]
 exact hK _ _ ρ' r2):p:=h
theorem V90{p:Prop}(h:p:=by
 subst g2;have:k=0:=by simpa using Nf
 subst this;rw[g1]at e0;injection e0 with x1 x2 x3;subst x1;subst x3
 exact .inl ⟨e1,s_⟩):p:=h
theorem yS {T U e:TypeId}{d:Nat}{sx x:Operand}{ti tu te:LK}(hΓ:Γ.chk P=true)(hT:Γ.get T=some ti)(hTU:Γ.get U=some tu)(he:ti.elem=some e)(hk:tu.kind=none)(hE:Γ.get e=some te)(MU:o.dst=some d)
  (ho:o.op= .call {callee:= .builtin .append,args:=#[sx,x],argTypes:=#[T,U]}) (h:qZ d te.size te.bytes (ev sx) (ev x) H K):∃ef,K ef/\Good P o ev H ef:=by
 obtain⟨ii,dd,fit⟩:=Env.fit hΓ hT;obtain⟨iu,du,fitu⟩:=Env.fit hΓ hTU;obtain⟨ie,de,fite⟩:=Env.fit hΓ hE;have hd:=mU fit he;subst hd;have MG:x∈o.op.operands.toList:=by simp[ho,Op.operands,Call.operands]
 have TW:sx∈o.op.operands.toList:=by simp[ho,Op.operands,Call.operands]
 have QQ:iU du=none:=fitu.kind.trans hk
 have fin:∀(rm:List Id) (rows news:List (List Tr)) (fr fr':Bool) (R R':List Id),
   (∀(N B:Nat) (M:Nat->Prop) (w0:Start) (ρ:Rho) (s:F_) (a:Act) (w:World),Conc N B M w0 ρ s a w->evL s.L sx=ev sx->(∀id∈R',s.H id=H id)->
    (∀r∈rows,r.length=te.size)/\((a.eval sx= .slice none 0 0/\rows=[])\/∃b cap cur e' fz,a.eval sx= .slice (some ⟨b,0,none⟩) rows.length cap/\w.heap[b]?=some (.cells cur e' fz)/\ca cur.size fz/\rows.length<=cap/\cap<=maxLen/\cur.size=cap*te.size/\
     RTs w (okF B (okB ρ s.H w) fr) (cur.toList.take (rows.length*te.size)) rows.flatten/\(fr=true->B<=b)/\∃o x',o∈rm/\s.H o=some x'/\Own ρ o b))->
   (∀(N B:Nat) (M:Nat->Prop) (w0:Start) (ρ:Rho) (s:F_) (a:Act) (w:World),Conc N B M w0 ρ s a w->evL s.L x=ev x->(∀id∈R,s.H id=H id)->
    ∃nv,(∀(P:Program) (w':World),(Builtin.lenOf (a.eval x)).run P w'= .ok news.length w')/\(∀(P:Program) (w':World),w'.heap=w.heap->(Builtin.firstCells te.size news.length (a.eval x)).run P w'= .ok nv.toArray w')/\
    RTs w (okF B (okB ρ s.H w) fr') nv news.flatten/\∀r∈news,r.length=te.size)->fits (rows.length+news.length) te.bytes->(∀id∈R,id∈R')->
   Good P o ev H ⟨.r (.c (.own (d,0,0))),rm.map (fun r=>(r,none))++[((d,0,0),some (.arr (fr&&fr') te.size (rows++news)))],some d,R'⟩:=by
  intro rm rows news fr fr' R R' h1 h2 M2 M0 N B M w0 ρ s a w Q K hc Mx hR MQ hd hK;rw[MU]at hd hK;obtain⟨g1,g2⟩:=h1 N B M w0 ρ s a w hc (Mx sx TW) hR;obtain⟨nv,f1,f2,f3,f4⟩:=h2 N B M w0 ρ s a w hc (Mx x MG) (fun id MD=>hR id (M0 id MD));obtain⟨v,w',ρ',r1,r2⟩:=hc.append fit.und fite fitu.und QQ (hd d rfl) (MQ d rfl) rm rows news fr fr' o.type (a.eval sx) (a.eval x) f4 g1 g2 nv (f1 P) (f2 P) f3 M2 R' (i:=ii);exact V62
 have finD:∀(rm Oy:List Id) (rows news:List (List DC)) (R R':List Id),(∀o∈rm,o∉Oy)->
   (∀(N B:Nat) (M:Nat->Prop) (w0:Start) (ρ:Rho) (s:F_) (a:Act) (w:World),Conc N B M w0 ρ s a w->evL s.L sx=ev sx->(∀id∈R',s.H id=H id)->
    (∀r∈rows,r.length=te.size)/\((a.eval sx= .slice none 0 0/\rows=[])\/∃b cap cur e' fz,a.eval sx= .slice (some ⟨b,0,none⟩) rows.length cap/\w.heap[b]?=some (.cells cur e' fz)/\ca cur.size fz/\rows.length<=cap/\cap<=maxLen/\cur.size=cap*te.size/\
     Cells ρ s w rm (fun c=>c=b) (cur.toList.take (rows.length*te.size)) rows.flatten/\∃o x',o∈rm/\s.H o=some x'/\blk (ρ o)=some b))->
   (∀(N B:Nat) (M:Nat->Prop) (w0:Start) (ρ:Rho) (s:F_) (a:Act) (w:World),Conc N B M w0 ρ s a w->evL s.L x=ev x->(∀id∈Oy++R,s.H id=H id)->
    ∃nv,(∀(P:Program) (w':World),(Builtin.lenOf (a.eval x)).run P w'= .ok news.length w')/\(∀(P:Program) (w':World),w'.heap=w.heap->(Builtin.firstCells te.size news.length (a.eval x)).run P w'= .ok nv.toArray w')/\
    (∀r∈news,r.length=te.size)/\(∀v∈nv,v.oneCell'=true)/\∀bad:Nat->Prop,(∀o x c,o∈Oy->s.H o=some x->Own ρ o c->¬bad c)->Cells ρ s w Oy bad nv news.flatten)->fits (rows.length+news.length) te.bytes->(∀id∈Oy++R,id∈R')->
   Good P o ev H ⟨.r (.c (.own (d,0,0))),(rm++Oy).map (fun r=>(r,none))++[((d,0,0),some (.dar te.size (rows++news) none))],some d,R'⟩:=by
  intro rm Oy rows news R R' MF h1 h2 M2 M0 N B M w0 ρ s a w Q K hc Mx hR MQ hd hK;rw[MU]at hd hK;obtain⟨g1,g2⟩:=h1 N B M w0 ρ s a w hc (Mx sx TW) hR;obtain⟨nv,f1,f2,f3,f4,f5⟩:=h2 N B M w0 ρ s a w hc (Mx x MG) (fun id MD=>hR id (M0 id MD));obtain⟨v,w',ρ',r1,r2⟩:=hc.appendD (ty:=o.type) fit.und fite fitu.und QQ (hd d rfl) (MQ d rfl) rm Oy rows news (a.eval sx) (a.eval x) f3 g1 MF g2 nv (f1 P) (f2 P) f4 f5 M2 R';exact V62
 unfold qZ at h;split at h
 ·rename_i sz hs;split at h
  ·obtain⟨news,rm,R,⟨M2,hK⟩,ND⟩:=rj h;refine⟨_,hK,?_⟩;have:=finD [] rm [] news R (rm++R) s_ (fun N B M w0 ρ s a w hc Mx _=>⟨s_,.inl ⟨by have:=(hc.eval sx).1;rw[Mx,hs]at this;exact this,rfl⟩⟩) ND (by simpa using M2) (fun _ h=>h);simpa using this
  ·obtain⟨fr',news,R,⟨M2,hK⟩,ND⟩:=vG h;refine⟨_,hK,?_⟩;have:=fin [] [] news true fr' R R (fun N B M w0 ρ s a w hc Mx _=>⟨s_,.inl ⟨by have:=(hc.eval sx).1;rw[Mx,hs]at this;exact this,rfl⟩⟩) ND (by simpa using M2) (fun _ h=>h);simpa using this
 ·rename_i q hs;split at h
  ·rename_i fr sz rows hq;obtain⟨rfl,h⟩:=h;obtain⟨fr',news,R,⟨M2,MR,hK⟩,ND⟩:=vG h;refine⟨_,hK,?_⟩
   have:=fin [q] rows news fr fr' R (q::R) (fun N B M w0 ρ s a w hc Mx hR=>by
    have hv:=(hc.eval sx).1;rw[Mx,hs]at hv;obtain⟨_,e1⟩:=hv;have MH:s.H q=some (.arr fr te.size rows):=(by rw[hR q s_];exact hq);obtain⟨hu,g⟩:=hc.arr MH;refine⟨hu,?_⟩;rcases g with⟨g1,g2⟩|⟨b,cap,cur,e,fz,g1,g2,g3,g4,g5,g6,g7,g8,g9⟩
    ·exact .inl ⟨e1.trans g1,g2⟩
    ·exact .inr ⟨b,cap,cur,e,fz,e1.trans g1,g2,g3,g4,g5,g6,g7,g9,q,_,s_,MH,.inl aah⟩) ND M2 (fun id MD=>by simp[MD])
   simpa using this
  ·rename_i sz rows hq;obtain⟨rfl,h⟩:=h;obtain⟨news,rm,R,⟨M2,MR,hK⟩,ND⟩:=rj h;refine⟨_,hK,?_⟩;have SF:q∉rm++R:=fun hm=>by rw[memI_iff.2 hm]at MR;cases MR
   have:=finD [q] rm rows news R (q::(rm++R)) (by simpa using fun h=>SF aaE) (fun N B M w0 ρ s a w hc Mx hR=>by
    have hv:=(hc.eval sx).1;rw[Mx,hs]at hv;obtain⟨_,e1⟩:=hv;have MH:s.H q=some (.dar te.size rows none):=(by rw[hR q s_];exact hq);obtain⟨hu,g⟩:=hc.dar MH;refine⟨hu,?_⟩;rcases g with⟨g1,g2,_⟩|⟨b,cap,cur,e,fz,Fp,g1,g2,g3,g4,g5,g6,g7,g8,g9,g10⟩
    ·exact .inl ⟨e1.trans g1,g2⟩
    ·refine .inr ⟨b,cap,cur,e,fz,e1.trans g1,g2,g3,g4,g5,g6,⟨Fp,g9.1,fun p v d hv hd=>?_,fun p c MB=>⟨⟨q,_,s_,MH,.inr (g7 p c MB).1⟩,(g7 p c MB).2⟩,g8⟩,q,_,s_,MH,by rw[g1];rfl⟩;have:=g9.2 p v d hv hd
     simpa only[cp]using this) ND M2 (fun id MD=>by simp only[d6];exact .inr MD)
   simpa using this
  ·exact h.elim
 ·rename_i q k hs;split at h
  ·rename_i fr sz rows hq;obtain⟨rfl,Nf,h⟩:=h;obtain⟨fr',news,R,⟨M2,MR,hK⟩,ND⟩:=vG h;refine⟨_,hK,?_⟩;have Rz:(rows.take k).length=k:=by rw[l6];omega
   have:=fin [q] (rows.take k) news fr fr' R (q::R) (fun N B M w0 ρ s a w hc Mx hR=>by
    have hv:=(hc.eval sx).1;rw[Mx,hs]at hv;obtain⟨A,n,c,e0,e1,e2⟩:=hv;have MH:s.H q=some (.arr fr te.size rows):=(by rw[hR q s_];exact hq);obtain⟨hu,g⟩:=hc.arr MH;refine⟨fun r hr=>hu r (t8 hr),?_⟩;rcases g with⟨g1,g2⟩|⟨b,cap,cur,e,fz,g1,g2,g3,g4,g5,g6,g7,g8,g9⟩
    ·exact V90
    ·rw[g1]at e0;injection e0 with x1 x2 x3;subst x1;subst x2;subst x3;have MN:(rows.take k).flatten=rows.flatten.take (k*te.size):=(gk te.size rows k hu Nf).symm;have Pf:=g7.take (k*te.size);rw[<-MN,H0]at Pf;have SG:min (k*te.size) (rows.length*te.size)=k*te.size:=y6 (l9 _ Nf);rw[SG]at Pf
     exact .inr ⟨b,cap,cur,e,fz,by rw[Rz];exact e1,g2,g3,o_,g5,g6,by rw[Rz];exact Pf,g9,q,_,s_,MH,.inl aah⟩) ND (by rw[Rz];exact M2) (fun id MD=>by simp[MD])
   simpa using this
  ·rename_i sz rows hq;obtain⟨rfl,Nf,h⟩:=h;obtain⟨news,rm,R,⟨M2,MR,hK⟩,ND⟩:=rj h;refine⟨_,hK,?_⟩;have SF:q∉rm++R:=fun hm=>by rw[memI_iff.2 hm]at MR;cases MR
   have Rz:(rows.take k).length=k:=by rw[l6];omega
   have:=finD [q] rm (rows.take k) news R (q::(rm++R)) (by simpa using fun h=>SF aaE) (fun N B M w0 ρ s a w hc Mx hR=>by
    have hv:=(hc.eval sx).1;rw[Mx,hs]at hv;obtain⟨A,n,c,e0,e1,e2⟩:=hv;have MH:s.H q=some (.dar te.size rows none):=(by rw[hR q s_];exact hq);obtain⟨hu,g⟩:=hc.dar MH;refine⟨fun r hr=>hu r (t8 hr),?_⟩;rcases g with⟨g1,g2,_⟩|⟨b,cap,cur,e,fz,Fp,g1,g2,g3,g4,g5,g6,g7,g8,g9,g10⟩
    ·exact V90
    ·rw[g1]at e0;injection e0 with x1 x2 x3;subst x1;subst x2;subst x3;have MN:(rows.take k).flatten=rows.flatten.take (k*te.size):=(gk te.size rows k hu Nf).symm;have SG:min (k*te.size) (rows.length*te.size)=k*te.size:=y6 (l9 _ Nf);have Xm:cur.toList.take (k*te.size)=(cur.toList.take (rows.length*te.size)).take (k*te.size):=(by rw[H0,SG]);refine .inr ⟨b,cap,cur,e,fz,by rw[Rz];exact e1,g2,g3,o_,g5,g6,⟨Fp,?_,fun p v d hv hd=>?_,fun p c MB=>⟨⟨q,_,s_,MH,.inr (g7 p c MB).1⟩,(g7 p c MB).2⟩,g8⟩,q,_,s_,MH,by rw[g1];rfl⟩
     ·rw[Rz,Xm,MN,l6,g9.1,l6]
     ·rw[Rz,Xm,n3]at hv;rw[MN,n3]at hd;split at hv
      ·rename_i hp;rw[c7 hp]at hd;have:=g9.2 p v d hv hd;simpa only[cp]using this
      ·cases hv) ND (by rw[Rz];exact M2) (fun id MD=>by simp only[d6];exact .inr MD)
   simpa using this
  ·exact h.elim
 ·exact h.elim
theorem pR (z:Array Value)(n:Nat)(h:0<z.size):(madeCells z (n*z.size)).toList=(List.replicate n z.toList).flatten:=by
 apply List.ext_getElem?
 intro p
 have hl:(List.replicate n z.toList).flatten.length=n*z.size:=by rw[aR z.size _ (by intro r hr;rw[(D3.1 hr).2];simp)];simp
 by_cases hp:p<n*z.size
 ·have h1:(madeCells z (n*z.size)).toList[p]?=some (z[p%z.size]'(G0 _ h)):=by simp[madeCells,hp];rw[getElem!_pos z _ (G0 _ h)]
  rw[h1];have Yl:p=(p/z.size)*z.size+p%z.size:=by rw[Nat.mul_comm];exact(Nat.div_add_mod p z.size).symm
  have Mz:p/z.size<n:=(Nat.div_lt_iff_lt_mul h).2 hp;have:=mF z.size (List.replicate n z.toList) (p/z.size) (p%z.size) z.toList (by intro r hr;rw[(D3.1 hr).2];simp) (by simp[Mz]) (G0 _ h);rw[<-Yl]at this;rw[this];simp[G0 _ h]
 ·rw[e9 (by simp[madeCells];omega),e9 (by rw[hl];omega)]
theorem RTs.replicate {ok:Nat->Prop}{vs:List Value}{ts:List Tr}(h:RTs w ok vs ts):∀n:Nat,RTs w ok (List.replicate n vs).flatten (List.replicate n ts).flatten
 | 0=>trivial
 | n+1=>by simp only[List.replicate_succ,r8];exact h.append (RTs.replicate h n)
theorem ub {ok':Nat->Prop}:∀{vs:List Value} {cs:List AC} {ts:List Tr} {fr:Bool} {ids:List Id},cq vs cs=true->frz (fun _=>none) cs=some (ts,fr,ids)->RTs w ok' vs ts
 | [],[],ts,fr,ids,_,h=>by simp only[frz,Option.some.injEq,Prod.mk.injEq]at h;obtain⟨rfl,_⟩:=h;trivial
 | v::vs,c::cs,ts,fr,ids,hm,h=>by
  have SU:=dU (B:=0) (ρ:=⟨fun _=>default,fun _ _=>False,fun _=>True⟩) (w:=w) (ok:=ok') hm;simp only[cq,b9]at hm
  cases c with
  | t x=>
   simp only[frz]at h
   cases hf:frz (fun _=>none) cs with
   | none=>rw[hf]at h;simp at h
   | some p=>
    obtain⟨PN,fr',Nw⟩:=p;rw[hf]at h;have ih:=ub (ok':=ok') hm.2 hf
    cases x<;>(simp only[Option.some.injEq,Prod.mk.injEq]at h;obtain⟨rfl,rfl,rfl⟩:=h;exact⟨SU.1,ih⟩)
  | nils sz=>
   simp only[frz]at h
   cases hf:frz (fun _=>none) cs with
   | none=>rw[hf]at h;simp at h
   | some p=>
    obtain⟨PN,fr',Nw⟩:=p;rw[hf]at h;simp only[Option.some.injEq,Prod.mk.injEq]at h;obtain⟨rfl,rfl,rfl⟩:=h;have hx:v= .slice none 0 0:=SU.1;subst hx
    exact⟨.emp _ _ _ (w6 _),ub hm.2 hf⟩
  | f=>simp[vm]at hm
  | own=>simp[frz]at h
  | nilp=>simp[frz]at h
  | sub=>simp[frz]at h
  | ptr=>simp[frz]at h
  | opq=>simp[frz]at h
  | mpv=>simp[frz]at h
 | [],_::_,_,_,_,hm,_=>by simp[cq]at hm
 | _::_,[],_,_,_,hm,_=>by simp[cq]at hm
theorem JW:∀{vs:List Value} {cs:List AC} {ts:List Tr} {fr:Bool} {ids:List Id},cq vs cs=true->frz (fun _=>none) cs=some (ts,fr,ids)->∀(w:World) (F:Nat->Prop) (p:Nat) (v:Value) (t:Tr),vs[p]?=some v->ts[p]?=some t->DT w F v t
 | [],[],ts,fr,ids,_,_,w,F,p,v,t,hv,_=>by simp at hv
 | v0::vs,c::cs,ts,fr,ids,hm,h,w,F,p,v,t,hv,ht=>by
  simp only[cq,b9]at hm
  have head:∀(t0:Tr) (rest:List Tr),ts=t0::rest->DT w F v0 t0->(∀(q:Nat) (v:Value) (t:Tr),vs[q]?=some v->rest[q]?=some t->DT w F v t)->DT w F v t:=by
   intro t0 rest e h0 hr;subst e
   cases p with|zero=>simp at hv ht;subst hv;subst ht;exact h0|succ p=>exact hr p v t (by simpa using hv) (by simpa using ht)
  have h1:=hm.1
  cases hf:frz (fun _=>none) cs with
  | none=>cases c<;>simp[frz,hf]at h
  | some q=>
   obtain⟨PN,fr',Nw⟩:=q;have Nu:=fun q v t=>JW hm.2 hf w F q v t;unfold vm at h1;split at h1
   ·simp only[b9,j5]at h1;obtain⟨rfl,rfl⟩:=h1;simp only[frz,hf,Option.some.injEq,Prod.mk.injEq]at h;exact head _ _ h.1.symm (.int _ _ _) Nu
   ·simp only[w8]at h1;subst h1;simp only[frz,hf,Option.some.injEq,Prod.mk.injEq]at h;exact head _ _ h.1.symm (.bool _ _) Nu
   ·rename_i s l;simp only[b9,C8]at h1;obtain⟨h2,rfl⟩:=h1
    have:s=⟨#[]⟩:=by obtain⟨d⟩:=s;have:d=#[]:=(by simpa using h2);rw[this]
    subst this;simp only[frz,hf,Option.some.injEq,Prod.mk.injEq]at h;exact head _ _ h.1.symm (.str _ []) Nu
   ·simp only[frz,hf,Option.some.injEq,Prod.mk.injEq]at h;exact head _ _ h.1.symm (.nil _ _) Nu
   ·simp[frz]at h
   ·simp[frz]at h
   ·simp[frz]at h
   ·simp[frz]at h
   ·cases h1
 | [],_::_,_,_,_,hm,_,_,_,_,_,_,_,_=>by simp[cq]at hm
 | _::_,[],_,_,_,hm,_,_,_,_,_,_,_,_=>by simp[cq]at hm
theorem Cells.replicate (hc:Conc N B M w0 ρ s a w){bad:Nat->Prop}{vs:List Value}{ds:List DC}(h:Cells ρ s w [] bad vs ds):∀n:Nat,Cells ρ s w [] bad (List.replicate n vs).flatten (List.replicate n ds).flatten
 | 0=>Cells.nil
 | n+1=>by
  simp only[List.replicate_succ,r8];exact Cells.append hc h (Cells.replicate hc h n) s_
theorem CI {T e:TypeId}{d:Nat}{l c:Operand}{ti te:LK}(hΓ:Γ.chk P=true)(hT:Γ.get T=some ti)(he:ti.elem=some e)(hE:Γ.get e=some te)(MU:o.dst=some d)
  (ho:o.op= .makeSlice T l c) (h:zw d te.size te.bytes te.zero (ev l) (ev c) K):∃ef,K ef/\Good P o ev H ef:=by
 obtain⟨ii,dd,fit⟩:=Env.fit hΓ hT;obtain⟨ie,de,fite⟩:=Env.fit hΓ hE;have hd:=mU fit he;subst hd;obtain⟨z,hz,hm⟩:=fite.zero;unfold zw at h;split at h
 ·rename_i k n k' m zt _ _ hl MB WK;obtain⟨j,rfl,rfl,hj,hb,hK⟩:=h;split at hK
  ·refine⟨_,hK,?_⟩;intro N B M w0 ρ s a w Q K hc Mx hR MQ hd hK;rw[MU]at hd hK;have QA:=(hc.eval l).1;have UG:=(hc.eval c).1;rw[Mx l aaa,hl]at QA;rw[Mx c aaa,MB]at UG;have e1:=cC QA;have e2:=cC UG;have T5:=dU (B:=B) (ρ:=ρ) (w:=w) (ok:=okB ρ s.H w) hm;have PV:z.cells.size=te.size:=(by have h1:=T5.length;rw[fite.zlen]at h1;simpa using h1);have QT:∀ok':Nat->Prop,RTs w ok' z.cells.toList zt:=fun ok'=>ub hm WK
   have OX:(ie.bytes:Int)*(j:Int)<=281474976710656:=by rw[fite.bytes,I4];omega
   have ME:=run_make (P:=P) w T e ie z fit.und fite.info hz k k' (j:Int) (j:Int) o_ (v2 _) OX o_;simp only[d7,fite.size]at ME;have Tq:=pR z.cells j (by have:=fite.pos;omega);rw[PV]at Tq
   have Nb:(execOp a.eval o).run P w= .ok (.value (.slice (some ⟨w.heap.size,0,none⟩) j j)) (w.alloc (.cells (madeCells z.cells (j*te.size)) e)):=by simp[execOp,ho,e1,e2,ME]
   have Te:zt.length=te.size:=by have:=(QT fun _=>True).length;rw[<-this];simpa using PV
   obtain⟨ρ',h'⟩:=hc.newArr (hd d rfl) (MQ d rfl) [] (w':=w.alloc (.cells (madeCells z.cells (j*te.size)) e)) (Turn.alloc _ _ _) (b:=w.heap.size) (cap:=j) (sz:=te.size) (us:=madeCells z.cells (j*te.size)) (e:=e) (fz:=(0,0)) (rows:=List.replicate j zt) (fr:=true)
    (d8 _) (kP _ _) (dC _) (by intro r hr;rw[(D3.1 hr).2];exact Te) s_ (by unfold maxLen;omega) aaB
    (fun ok' _ _=>by rw[gt aaB,Tq];exact(QT _).replicate j) []
   simp only[F7,C5,t6]at h';unfold Oper.wp;rw[Nb];show K (a.put o.dst _) _;rw[MU];exact hK _ _ ρ' h'
  ·refine⟨_,hK,?_⟩;intro N B M w0 ρ s a w Q K hc Mx hR MQ hd hK;rw[MU]at hd hK;have QA:=(hc.eval l).1;have UG:=(hc.eval c).1;rw[Mx l aaa,hl]at QA;rw[Mx c aaa,MB]at UG;have e1:=cC QA;have e2:=cC UG;have T5:=dU (B:=B) (ρ:=ρ) (w:=w) (ok:=okB ρ s.H w) hm;have PV:z.cells.size=te.size:=(by have h1:=T5.length;rw[fite.zlen]at h1;simpa using h1);have QT:∀ok':Nat->Prop,RTs w ok' z.cells.toList zt:=fun ok'=>ub hm WK
   have OX:(ie.bytes:Int)*(j:Int)<=281474976710656:=by rw[fite.bytes,I4];omega
   have ME:=run_make (P:=P) w T e ie z fit.und fite.info hz k k' (j:Int) (j:Int) o_ (v2 _) OX o_;simp only[d7,fite.size]at ME;have Tq:=pR z.cells j (by have:=fite.pos;omega);rw[PV]at Tq
   have Nb:(execOp a.eval o).run P w= .ok (.value (.slice (some ⟨w.heap.size,0,none⟩) j j)) (w.alloc (.cells (madeCells z.cells (j*te.size)) e)):=by simp[execOp,ho,e1,e2,ME]
   have Te:zt.length=te.size:=by have:=(QT fun _=>True).length;rw[<-this];simpa using PV
   obtain⟨ρ',h'⟩:=hc.newDar (hd d rfl) (MQ d rfl) [] (w':=w.alloc (.cells (madeCells z.cells (j*te.size)) e)) (D:=fun _=>False) (Turn.alloc _ _ _) (b:=w.heap.size) (cap:=j) (sz:=te.size) (us:=madeCells z.cells (j*te.size)) (e:=e) (fz:=(0,0)) (rows:=List.replicate j (zt.map .d))
    (fun _ h=>h.elim) (.inl (d8 _)) (kP _ _) (dC _) (by intro r hr;rw[(D3.1 hr).2,e7];exact Te) s_ (by unfold maxLen;omega) aaB
    (by
     rw[F7,gt aaB,Tq];refine Cells.replicate hc ⟨fun _ _=>False,by rw[e7,Te];simpa using PV,fun p v dd hv Rx=>?_,fun _ _ h=>h.elim,fun _ _ _ _ h=>h.elim⟩ j;rw[p6,v4]at Rx;obtain⟨t,ht,rfl⟩:=Rx
     exact JW hm WK w _ p v t hv ht) []
   simp only[F7,C5,t6]at h';unfold Oper.wp;rw[Nb];show K (a.put o.dst _) _;rw[MU];exact hK _ _ ρ' h'
 ·exact h.elim
theorem vU {ti:LK}(hΓ:Γ.chk P=true)(h:uf Γ ti=true):∃e te ie de,ti.elem=some e/\Γ.get e=some te/\te.Fit P e ie de/\de= .int .u8:=by
 unfold uf at h;split at h
 ·rename_i e he;split at h
  ·rename_i te hE;obtain⟨ie,de,fite⟩:=Env.fit hΓ hE;split at h
   ·rename_i hk;refine⟨e,te,ie,de,he,hE,fite,?_⟩;have:=fite.kind;rw[hk]at this
    cases de<;>simp[iU]at this
    rw[this]
   ·cases h
  ·cases h
 ·cases h
theorem pM (bs:List UInt8):(bs.map aY).flatten=bs.map fun u=>Tr.int .u8 u.toNat:=by
 induction bs with
 | nil=>rfl
 | cons b bs ih=>simp[aY,<-ih]
theorem sm {ok:Nat->Prop}:∀bs:List UInt8,RTs w ok (bs.map fun u=>Value.int .u8 u.toNat) (bs.map fun u=>Tr.int .u8 u.toNat)
 | []=>trivial
 | _::bs=>⟨.int _ _,sm bs⟩
theorem yd {ok:Nat->Prop}:∀{vs:List Value} {bs:List UInt8},RTs w ok vs (bs.map fun u=>Tr.int .u8 u.toNat)->vs=bs.map fun u=>Value.int .u8 u.toNat
 | [],[],_=>rfl
 | v::vs,b::bs,h=>by
  have h1:RT w ok v (.int .u8 b.toNat):=h.1;have:v= .int .u8 b.toNat:=by cases h1;rfl
  rw[this,yd h.2]
  rfl
 | [],_::_,h=>h.elim
 | _::_,[],h=>h.elim
theorem FF {esz:Nat}{y:AV}{K2:Bool->List (List Tr)->List Id->Prop}{ok:Nat->Prop}{v:Value}(h:fV esz y H K2)(hn:∀t,y≠tS t)(hv:RV B ρ w ok v y):∃A n c,v= .slice A n c:=by
 unfold fV at h;split at h
 ·rename_i b;exact absurd rfl (hn b)
 ·exact⟨_,_,_,hv⟩
 ·have hv:RT w ok v (.lst _ _):=hv;obtain⟨A,c,e,_⟩:=hv.slice_inv;exact⟨_,_,_,e⟩
 ·have hv:RT w (okF B ok true) v (.lst _ _):=hv;obtain⟨A,c,e,_⟩:=hv.slice_inv;exact⟨_,_,_,e⟩
 ·obtain⟨⟨A,n,c,e⟩,e1⟩:=hv;exact⟨_,_,_,e1.trans e⟩
 ·obtain⟨A,n,c,_,e1,_⟩:=hv;exact⟨_,_,_,e1⟩
 ·exact h.elim
theorem xc {Ts Td:TypeId}{d:Nat}{x:Operand}{ts td:LK}(hΓ:Γ.chk P=true)(Zs:Γ.get Ts=some ts)(hTd:Γ.get Td=some td)(MU:o.dst=some d)
  (ho:o.op= .convert Ts Td x) (h:pi Γ ts td d (ev x) H K):∃ef,K ef/\Good P o ev H ef:=by
 obtain⟨is,ds,fits⟩:=Env.fit hΓ Zs;obtain⟨id,dd,fitd⟩:=Env.fit hΓ hTd;have MG:x∈o.op.operands.toList:=by simp[ho,Op.operands]
 unfold pi at h;split at h
 ·rename_i k n hx;split at h
  ·rename_i k' hk;have hd:dd= .int k':=(by have:=fitd.kind;rw[hk]at this;cases dd<;>simp[iU]at this;rw[this]);subst hd;refine⟨_,h,aD fun N B M w0 ρ s a w hc Mx hR=>?_⟩;have hv:=(hc.eval x).1;rw[Mx x MG,hx]at hv;have e1:=cC hv;refine⟨.int k' (k'.wrap n),?_,.int _ _,by simp[AV.ids,AR.ids,AC.ids]⟩
   have:(convert Ts Td (.int k n)).run P w= .ok (.int k' (k'.wrap n)) w:=by
    simp only[convert,m8,run_underlying fits.und,run_underlying fitd.und,i9]
    cases ds<;>simp[Conv.intToInt]
   simp only[execOp,ho,e1,m8,this,i9,o9]
  ·exact h.elim
 ·rename_i t hx;split at h
  ·rename_i hs;have hd:dd= .string:=(by have:=fitd.str;rw[hs]at this;cases dd<;>simp[wO]at this⊢);subst hd;refine⟨_,h,aD fun N B M w0 ρ s a w hc Mx hR=>?_⟩;have hv:=(hc.eval x).1;rw[Mx x MG,hx]at hv;have e1:=fH hv;refine⟨.string ⟨t.toArray⟩,?_,.str _,by simp[AV.ids,AR.ids,AC.ids]⟩
   have:(convert Ts Td (.string ⟨t.toArray⟩)).run P w= .ok (.string ⟨t.toArray⟩) w:=by
    simp only[convert,m8,run_underlying fits.und,run_underlying fitd.und,i9]
    cases ds<;>simp
   simp only[execOp,ho,e1,m8,this,i9,o9]
  ·split at h
   ·rename_i QH;simp only[b9]at QH;obtain⟨ZU,QH⟩:=QH;obtain⟨e,te,ie,de,he,hE,fite,rfl⟩:=vU hΓ QH;have YH:ds= .string:=(by have:=fits.str;rw[ZU]at this;cases ds<;>simp[wO]at this⊢);subst YH;have hd:=mU fitd he;subst hd;obtain⟨Mw,hK⟩:=h;refine⟨_,hK,?_⟩;intro N B M w0 ρ s a w Q K hc Mx hR MQ hd hK;rw[MU]at hd hK;have hv:=(hc.eval x).1;rw[Mx x MG,hx]at hv;have e1:=fH hv;have Nv:(⟨t.toArray⟩:ByteArray).size=t.length:=(by simp[ByteArray.size]);have hr:=run_bytes_of_string w Ts Td e ⟨t.toArray⟩ fits.und fitd.und fite.und;have MT:=grownCap_ge w (⟨t.toArray⟩:ByteArray).size 0 e;have MZ:=grownCap_le_maxLen w (⟨t.toArray⟩:ByteArray).size 0 e (by rw[Nv];unfold maxLen;omega);generalize grownCap w (⟨t.toArray⟩:ByteArray).size 0 e=gc at hr MT MZ;rw[Nv]at hr MT
    have Nb:(execOp a.eval o).run P w= .ok (.value (.slice (some ⟨w.heap.size,0,none⟩) t.length gc)) (w.drew.alloc (.cells (bytesRow ⟨t.toArray⟩ gc) e ((bytesRow ⟨t.toArray⟩ gc).size,(bytesRow ⟨t.toArray⟩ gc).size+1))):=by simp only[execOp,ho,e1,m8,hr,i9,o9]
    have QO:(bytesRow ⟨t.toArray⟩ gc).size=gc:=by simp[bytesRow,ByteArray.size];omega
    have Nn:(bytesRow ⟨t.toArray⟩ gc).toList.take t.length=t.map fun u=>Value.int .u8 u.toNat:=by simp only[bytesRow,B3];rw[A1 s_];rw[gt s_];simp
    obtain⟨ρ',h'⟩:=hc.newArr (hd d rfl) (MQ d rfl) [] (w':=w.drew.alloc (.cells (bytesRow ⟨t.toArray⟩ gc) e ((bytesRow ⟨t.toArray⟩ gc).size,(bytesRow ⟨t.toArray⟩ gc).size+1))) ((Turn.drew _ w).trans (Turn.alloc _ _ _)) (b:=w.heap.size) (cap:=gc) (sz:=1)
     (us:=bytesRow ⟨t.toArray⟩ gc) (e:=e) (fz:=((bytesRow ⟨t.toArray⟩ gc).size,(bytesRow ⟨t.toArray⟩ gc).size+1)) (rows:=t.map aY) (fr:=true) (d8 _) (heap_alloc_new w.drew _) (fun p hp h=>o_) (by intro r hr;obtain⟨u,_,rfl⟩:=n7.1 hr;rfl) (by simpa using MT) MZ
     (by rw[QO];omega) (fun ok' _ _=>by
      simp only[e7,Nat.mul_one];rw[Nn,pM]
      exact sm t) []
    simp only[e7,C5,t6]at h';unfold Oper.wp;rw[Nb];show K (a.put o.dst _) _;rw[MU];exact hK _ _ ρ' h'
   ·exact h.elim
 ·rename_i QG PU;split at h
  ·rename_i hs QH;obtain⟨e,te,ie,de,he,hE,fite,rfl⟩:=vU hΓ QH;have hd:=mU fits he;subst hd;have hd:dd= .string:=(by have:=fitd.str;rw[hs]at this;cases dd<;>simp[wO]at this⊢);subst hd;obtain⟨_,rows,R,⟨bs,rfl,hK⟩,ND⟩:=vG h;refine⟨_,hK,aD fun N B M w0 ρ s a w hc Mx hR=>?_⟩;obtain⟨nv,f1,f2,f3,f4⟩:=ND N B M w0 ρ s a w hc (Mx x MG) hR;rw[pM]at f3;have TS:=yd f3;subst TS;refine⟨.string ⟨bs.toArray⟩,?_,.str _,by simp[AV.ids,AR.ids,AC.ids]⟩;have hv:=(hc.eval x).1;rw[Mx x MG]at hv;obtain⟨A,n,c,e1⟩:=FF h (fun t ht=>PU t ht) hv;have Mw:=f1 P w;rw[e1]at Mw;simp only[Builtin.lenOf,o9,Result.ok.injEq,and_true,e7]at Mw;subst Mw;have MK:=f2 P w rfl;rw[e1]at MK
   have Tz:(convert Ts Td (.slice A bs.length c)).run P w= .ok (.string ⟨bs.toArray⟩) w:=by
    cases A with
    | none=>
     simp only[Builtin.firstCells,o9,Result.ok.injEq,and_true]at MK
     have:bs=[]:=by have:=congrArg Array.size MK;simp at this;exact x8 this.symm
     subst this;rw[run_convert_bytes_string w Ts Td e none _ c fits.und fite.und fitd.und];simp[Conv.bytesToString]
     rfl
    | some ad=>simp only[Builtin.firstCells,e7,Nat.mul_one]at MK;rw[run_convert_bytes_string w Ts Td e (some ad) _ c fits.und fite.und fitd.und];rw[run_bytesToString w ad bs.length c (bs.map fun u=>(u.toNat:Int)) (by rw[MK];simp),foldl_push_byteCells];simp
   simp only[execOp,ho,e1,m8,Tz,i9,o9]
  ·exact h.elim
theorem AS {T ft:TypeId}{x:Operand}{f off sz:Nat}{ti to:LK}(hΓ:Γ.chk P=true)(hT:Γ.get T=some ti)(hf:ti.fields[f]?=some (off,sz,ft))(TY:Γ.get ft=some to)
  (ho:o.op= .field T x f) (h:wD off to (ev x) KV):∃v,KV v/\Good P o ev H (.val v []):=by
 obtain⟨i,d,fit⟩:=Env.fit hΓ hT;obtain⟨fs,F,rfl,h1,h2,h3,_⟩:=fit.field hf;subst h3;obtain⟨io,dO,fito⟩:=Env.fit hΓ TY;have MG:x∈o.op.operands.toList:=by simp[ho,Op.operands]
 unfold wD at h;split at h
 ·rename_i cs hx
  have base:∀(N B:Nat) (M:Nat->Prop) (w0:Start) (ρ:Rho) (s:F_) (a:Act) (w:World),Conc N B M w0 ρ s a w->(∀x∈o.op.operands.toList,evL s.L x=ev x)->
    ∃us,a.eval x= .agg us/\RCs B ρ w (okB ρ s.H w) us.toList cs/\∀id∈cs.flatMap AC.ids,s.U id.1:=by
   intro N B M w0 ρ s a w hc Mx;have hv:=hc.eval x;rw[Mx x MG,hx]at hv;obtain⟨⟨us,e1,e2⟩,e3⟩:=hv;exact⟨us,e1,e2,e3⟩
  split at h
  ·rename_i M4;split at h
   ·rename_i xs MM;obtain⟨g1,g2⟩:=fW MM;refine⟨_,h,aD fun N B M w0 ρ s a w hc Mx hR=>?_⟩;obtain⟨us,e1,e2,e3⟩:=base N B M w0 ρ s a w hc Mx;refine⟨.agg (us.extract off (off+to.size)),?_,⟨_,rfl,?_⟩,?_⟩
    ·simp[execOp,ho,e1,Instr.field,run_underlying fit.und,h1,asAgg,part,jj fito.und,fito.agg,M4,cn fito.info,fito.size,h2]
    ·rw[g2];have:=(e2.drop off).take to.size;simpa [G8]using this
    ·rw[g2];exact ku e3 off to.size
   ·exact h.elim
  ·rename_i M4;split at h
   ·rename_i c MM;obtain⟨g1,g2⟩:=fW MM;refine⟨_,h,aD fun N B M w0 ρ s a w hc Mx hR=>?_⟩;obtain⟨us,e1,e2,e3⟩:=base N B M w0 ρ s a w hc Mx
    have OP:cs[off]?=some c:=by have:((cs.drop off).take 1)[0]?=some c:=(by rw[<-g2];rfl);simpa using this
    obtain⟨u,hu,R6⟩:=e2.get off c OP;have M9:us[off]?=some u:=(by simpa using hu);refine⟨u,?_,R6,fun id MD=>e3 id (u0.2 ⟨c,c9 OP,MD⟩)⟩;simp[execOp,ho,e1,Instr.field,run_underlying fit.und,h1,asAgg,part,jj fito.und,fito.agg,M4,h2,M9]
   ·exact h.elim
 ·exact h.elim
theorem AJ (places:Nat->Option (Nat×Nat)){B:Nat}{ρ:Rho}{w:World}{ok:Nat->Prop}{f:Operand->Value}{fs:List (Nat×Nat×TypeId)}(hp:∀i off sz ft,fs[i]?=some (off,sz,ft)->places i=some (off,sz)):
  ∀(parts:List (Nat×Operand)) (zero:List AC) (cells:Array Value) (K:List AC->Prop),(∀p∈parts,RV B ρ w ok (f p.2) (ev p.2))->RCs B ρ w ok cells.toList zero->
   ez fs zero (parts.map fun p=>(p.1,ev p.2)) K->∃cs out,K cs/\Instr.fill places cells (parts.map fun p=>(p.1,f p.2))=some out/\RCs B ρ w ok out.toList cs
 | [],zero,cells,K,_,hr,h=>⟨zero,cells,h,by simp[Instr.fill],hr⟩
 |(i,x)::parts,zero,cells,K,hv,hr,h=>by
  simp only[p7,ez]at h
  cases hx:ev x with
  | r ar=>
   rw[hx]at h;simp only[ez]at h;split at h
   ·rename_i off sz ft Od;split at h
    ·rename_i z Zk OI;have hs:ar.cells.length=sz:=(by simpa using Zk);have Pb:=hp i off sz ft Od;obtain⟨g1,g2⟩:=iC OI;have OK:=hv (i,x) s_;simp only at OK;rw[hx]at OK;have MK:=RR.cells OK;have MV:=MK.length;have Nn:=hr.length
     have P2:(f x).cells.zipIdx.foldl (fun cs (y:Value×Nat)=>cs.setIfInBounds (off+y.2) y.1) cells=(cells.toList.take off++(f x).cells.toList++cells.toList.drop (off+(f x).cells.toList.length)).toArray:=by
      have key:∀(vs:List Value) (k:Nat) (cells:Array Value),off+k+vs.length<=cells.size->
        (vs.zipIdx k).foldl (fun(cs:Array Value) (y:Value×Nat)=>cs.setIfInBounds (off+y.2) y.1) cells=(cells.toList.take (off+k)++vs++cells.toList.drop (off+k+vs.length)).toArray:=by
       intro vs
       induction vs with
       | nil=>intro k cells _;simp
       | cons u vs ih=>
        intro k cells hl;simp only[d5]at hl;simp only[List.zipIdx_cons,E9];rw[ih (k+1) _ aab];have Mz:off+k<cells.toList.length:=by simp;omega
        have e1:(cells.toList.set (off+k) u).take (off+(k+1))=cells.toList.take (off+k)++[u]:=by rw[show off+(k+1)=off+k+1 by omega,z6 aab];simp[G4]
        have e2:(cells.toList.set (off+k) u).drop (off+(k+1)+vs.length)=cells.toList.drop (off+k+(vs.length+1)):=by rw[List.drop_set_of_lt o_];congr 1;omega
        simp only[Array.toList_setIfInBounds,d5,e1,e2];simp
      have:=key (f x).cells.toList 0 cells (by rw[MV];simp at Nn;omega);rw[<-Array.foldl_toList,Array.toList_zipIdx];simpa using this
     have PC:RCs B ρ w ok (cells.toList.take off++(f x).cells.toList++cells.toList.drop (off+(f x).cells.toList.length)) z:=by rw[g2,MV];exact((hr.take off).append MK).append (hr.drop _)
     obtain⟨cs,out,k1,k2,k3⟩:=AJ places hp parts z (cells.toList.take off++(f x).cells.toList++cells.toList.drop (off+(f x).cells.toList.length)).toArray K (fun p Pm=>hv p (by simp[Pm])) PC h;refine⟨cs,out,k1,?_,k3⟩;simp only[p7,Instr.fill,Pb];have N7:(f x).cells.size=sz:=(by rw[<-hs,<-MV];simp);rw[b8 (by simp at Nn;simp[N7];omega),P2];exact k2
    ·exact h.elim
   ·exact h.elim
  | tup=>rw[hx]at h;exact h.elim
  | el=>rw[hx]at h;exact h.elim
  | ro=>rw[hx]at h;exact h.elim
  | unk=>rw[hx]at h;exact h.elim
theorem Cb {α β:Type}(g:α->Sem β)(g':α->β)(w:World):∀l:List α,(∀x∈l,(g x).run P w= .ok (g' x) w)->(l.mapM g).run P w= .ok (l.map g') w
 | [],_=>s_
 | x::l,h=>by
  simp only[List.mapM_cons,m8,h x s_,i9,Cb g g' w l (fun y hy=>h y aaJ),o9,p7]
theorem Bq {T:TypeId}{parts:Array (Nat×Operand)}{ti:LK}(hΓ:Γ.chk P=true)(hT:Γ.get T=some ti)(ho:o.op= .build T parts)(MF:ti.fields≠[])
  (h:ez ti.fields ti.zero (parts.toList.map fun p=>(p.1,ev p.2)) fun cs=>K (.val (.r (.agg cs)) [])):∃ef,K ef/\Good P o ev H ef:=by
 obtain⟨i,d,fit⟩:=Env.fit hΓ hT;obtain⟨z,hz,hm⟩:=fit.zero
 have Ra:∃fs,d= .struct fs/\fs.toList.map (fun f=>(f.offset,P.cellsOf f.type,f.type))=ti.fields/\∀F∈fs.toList,P.cellsOf F.type≠0:=by
  have ho:=fit.fields
  cases d<;>simp only[jU]at ho<;>try(rw[C8]at ho;exact absurd ho MF)
  rename_i fs;simp only[b9,j5,o8,u9]at ho;refine⟨fs,rfl,ho.1,fun F hF e=>?_⟩;have:=ho.2 (F.offset,P.cellsOf F.type,F.type) (by rw[<-ho.1];exact n7.2 ⟨F,hF,rfl⟩);simp only[e]at this;simp at this
 obtain⟨fs,rfl,Pu,M7⟩:=Ra
 have Rg:∀w:World,(fs.mapM (fun f:Field=>(do pure (f.offset,<-sizeOf f.type):Sem (Nat×Nat)))).run P w= .ok (fs.map fun f:Field=>(f.offset,P.cellsOf f.type)) w:=by
  intro w;rw[Array.mapM_eq_mapM_toList]
  have:=Cb (P:=P) (fun f:Field=>(do pure (f.offset,<-sizeOf f.type):Sem (Nat×Nat))) (fun f:Field=>(f.offset,P.cellsOf f.type)) w fs.toList (fun F hF=>by
   have:=M7 F hF;unfold Program.cellsOf at this⊢
   cases hi:P.info? F.type with
   | none=>rw[hi]at this;simp at this
   | some j=>simp[cn hi])
  rw[Sem.run_map,this,i9];congr 1;apply Array.ext';simp
 have Pb:∀(i off sz:Nat) (ft:TypeId),ti.fields[i]?=some (off,sz,ft)->(fs.map fun f:Field=>(f.offset,P.cellsOf f.type))[i]?=some (off,sz):=by
  intro i off sz ft hi;rw[<-Pu,p6,v4]at hi;obtain⟨F,g1,g2⟩:=hi;simp only[Prod.mk.injEq]at g2;have:fs[i]?=some F:=by simpa using g1
  simp[this,g2.1,g2.2.1]
 have key:∀(B:Nat) (ρ:Rho) (w:World) (ok:Nat->Prop) (f:Operand->Value) (K2:List AC->Prop),(∀p∈parts.toList,RV B ρ w ok (f p.2) (ev p.2))->ez ti.fields ti.zero (parts.toList.map fun p=>(p.1,ev p.2)) K2->
   ∃cs out,K2 cs/\Instr.fill (fun i=>(fs.map fun f:Field=>(f.offset,P.cellsOf f.type))[i]?) z.cells (parts.toList.map fun p=>(p.1,f p.2))=some out/\RCs B ρ w ok out.toList cs:=by
  intro B ρ w ok f K2 hv h;exact AJ _ Pb parts.toList ti.zero z.cells K2 hv (dU hm) h
 have det:∀(l:List (Nat×AV)) (zero:List AC) (K1:List AC->Prop),ez ti.fields zero l K1->∃cs,K1 cs/\∀K2:List AC->Prop,K2 cs->ez ti.fields zero l K2:=by
  intro l
  induction l with
  | nil=>intro zero K1 h;exact⟨zero,h,fun K2 h=>h⟩
  | cons p l ih=>
   intro zero K1 h;obtain⟨i,v⟩:=p
   cases v with
   | r ar=>
    simp only[ez]at h⊢;split at h
    ·rename_i off sz ft hf;split at h
     ·rename_i z' h1 h2;obtain⟨cs,g1,g2⟩:=ih _ _ h;exact⟨cs,g1,fun K2 hk=>g2 K2 hk⟩
     ·exact h.elim
    ·exact h.elim
   | tup=>exact h.elim
   | el=>exact h.elim
   | ro=>exact h.elim
   | unk=>exact h.elim
 obtain⟨cs,hK,TM⟩:=det _ _ _ h;refine⟨_,hK,aD fun N B M w0 ρ s a w hc Mx hR=>?_⟩
 have Nz:∀p∈parts.toList,RV B ρ w (okB ρ s.H w) (a.eval p.2) (ev p.2)/\∀id∈(ev p.2).ids,s.U id.1:=fun p hp=>by
  have:=hc.eval p.2;rwa [Mx p.2 (by simp only[ho,Op.operands];exact n7.2 ⟨p,hp,rfl⟩)]at this
 obtain⟨cs',out,rfl,g2,g3⟩:=key B ρ w (okB ρ s.H w) a.eval (fun x=>x=cs) (fun p hp=>(Nz p hp).1) (TM _ rfl);refine⟨.agg out,?_,⟨out,rfl,g3⟩,?_⟩
 ·have:(Instr.build T (parts.map fun p=>(p.1,a.eval p.2))).run P w= .ok (.agg out) w:=by simp only[Instr.build,m8,fv fit.info hz,i9,run_underlying fit.und,Rg,I1];simp only[Array.getElem?_map]at g2⊢;rw[g2];rfl
  simp only[execOp,ho,m8,this,i9,o9]
 ·
  have idsb:∀(l:List (Nat×AV)) (zero cs:List AC),(∀id∈zero.flatMap AC.ids,s.U id.1)->(∀p∈l,∀id∈p.2.ids,s.U id.1)->ez ti.fields zero l (fun x=>x=cs)->∀id∈cs.flatMap AC.ids,s.U id.1:=by
   intro l
   induction l with
   | nil=>intro zero cs hz _ h;cases h;exact hz
   | cons p l ih=>
    intro zero cs hz hl h;obtain⟨i,v⟩:=p
    cases v with
    | r ar=>
     simp only[ez]at h;split at h
     ·split at h
      ·rename_i z' h1 h2;refine ih z' cs (fun id MD=>?_) (fun p hp=>hl p (by simp[hp])) h;obtain⟨_,g⟩:=iC h2;rw[g]at MD;simp only[List.flatMap_append,d9]at MD;rcases MD with(MD|MD)|MD
       ·obtain⟨c,c1,c2⟩:=u0.1 MD;exact hz id (u0.2 ⟨c,t8 c1,c2⟩)
       ·refine hl (i,.r ar) s_ id ?_
        cases ar with|c x=>simpa [AR.cells,AV.ids,AR.ids]using MD|agg xs=>exact MD
       ·obtain⟨c,c1,c2⟩:=u0.1 MD;exact hz id (u0.2 ⟨c,z7 c1,c2⟩)
      ·exact h.elim
     ·exact h.elim
    | tup=>exact h.elim
    | el=>exact h.elim
    | ro=>exact h.elim
    | unk=>exact h.elim
  exact idsb _ _ _ (by rw[qm hm];simp) (fun p hp=>by
   obtain⟨q,hq,rfl⟩:=n7.1 hp
   exact(Nz q hq).2) (TM _ rfl)
end
section
variable {P:Program} {Γ:Env} {N B:Nat} {M:Nat->Prop} {w0:Start} {ρ:Rho} {s:F_} {a:Act} {w:World} {o:Oper} {ev:Operand->AV} {H:Id->Option AO} {K:Eff->Prop}
theorem oh:∀(parts:List (Nat×Operand)) (n:Nat) (K:List (List DC)->List Id->Prop),kF H n (parts.map fun p=>(p.1,ev p.2)) K->
  ∃rows ids,K rows ids/\rows.length=parts.length/\(∀(j:Nat) (p:Nat×Operand),parts[j]?=some p->p.1=n+j)/\
   ∀(N B:Nat) (M:Nat->Prop) (w0:Start) (ρ:Rho) (s:F_) (a:Act) (w:World),Conc N B M w0 ρ s a w->(∀o∈ids,s.H o=H o)->ids.Nodup->
    (∀p∈parts,RV B ρ w (okB ρ s.H w) (a.eval p.2) (ev p.2))->Cells ρ s w ids (fun _=>False) ((parts.map fun p=>(a.eval p.2).cells.toList).flatten) rows.flatten/\
     ∀(j:Nat) (p:Nat×Operand) (row:List DC),parts[j]?=some p->rows[j]?=some row->(a.eval p.2).cells.size=row.length
 | [],n,K,h=>⟨[],[],h,rfl,s_,fun N B M w0 ρ s a w _ _ _ _=>⟨Cells.nil,s_⟩⟩
 |(i,x)::parts,n,K,h=>by
  simp only[p7,kF]at h
  cases hx:ev x with
  | r ar=>
   rw[hx]at h;simp only[kF]at h;split at h
   ·rename_i hn;have hin:i=n:=(by simpa using hn);obtain⟨ds,ids0,h0,Py⟩:=rh _ _ h;obtain⟨rows,ids,h1,h2,h3,h4⟩:=oh parts (n+1) _ h0;refine⟨ds::rows,ids0++ids,h1,by simp[h2],fun j p hj=>?_,fun N B M w0 ρ s a w hc hH OR hf=>?_⟩
    ·cases j with|zero=>simp at hj;subst hj;simpa using hin|succ j=>have:=h3 j p aav;omega
    ·have hv:=hf (i,x) s_;simp only at hv;rw[hx]at hv;have c1:=Py hc (fun o ho=>hH o aag) (E0.1 OR).1 _ (RR.cells hv);obtain⟨c2,c3⟩:=h4 N B M w0 ρ s a w hc (fun o ho=>hH o aag) (E0.1 OR).2.1 (fun p hp=>hf p (by simp[hp]));refine⟨?_,fun j p row hj hr=>?_⟩
     ·simp only[p7,r8];exact Cells.append hc c1 c2 fun o ho MX=>(E0.1 OR).2.2 o ho o MX rfl
     ·cases j with
      | zero=>
       simp at hj hr;subst hj;subst hr;obtain⟨_,g,_⟩:=c1
       simpa using g
      | succ j=>exact c3 j p row aav aaG
   ·exact h.elim
  | tup=>rw[hx]at h;exact h.elim
  | el=>rw[hx]at h;exact h.elim
  | ro=>rw[hx]at h;exact h.elim
  | unk=>rw[hx]at h;exact h.elim
 termination_by parts=>parts.length
theorem qg {T e:TypeId}{d n:Nat}{parts:Array (Nat×Operand)}{ti te:LK}(hΓ:Γ.chk P=true)(hT:Γ.get T=some ti)(he:ti.elem=some e)(hE:Γ.get e=some te)(MU:o.dst=some d)(ho:o.op= .buildSlice T n parts)
  (hn:parts.toList.length=n)
  (h:kF H 0 (parts.toList.map fun p=>(p.1,ev p.2)) fun rows ids=>(∀r∈rows,r.length=te.size)/\n*te.size<=16777216/\gG ids=true/\K ⟨.r (.c (.own (d,0,0))),ids.map (fun r=>(r,none))++[((d,0,0),some (.dar te.size rows none))],some d,ids⟩):
  ∃ef,K ef/\Good P o ev H ef:=by
 obtain⟨ii,dd,fit⟩:=Env.fit hΓ hT;obtain⟨ie,de,fite⟩:=Env.fit hΓ hE;have hd:=mU fit he;subst hd;obtain⟨z,hz,hm⟩:=fite.zero;obtain⟨rows,ids,⟨hu,Nv,OR,hK⟩,Nn,Sv,Oi⟩:=oh parts.toList 0 _ h;refine⟨_,hK,?_⟩;intro N B M w0 ρ s a w Q K hc Mx hR MQ hd hK;rw[MU]at hd hK
 have Nz:∀p∈parts.toList,RV B ρ w (okB ρ s.H w) (a.eval p.2) (ev p.2):=fun p hp=>by
  exact V104
 let vss:List (List Value):=parts.toList.map fun p=>(a.eval p.2).cells.toList
 have QI:vss.length=rows.length:=by simp[vss,Nn]
 obtain⟨MK,PI⟩:=Oi N B M w0 ρ s a w hc hR (nodupI_iff.1 OR) Nz
 have MI:∀(j:Nat) (p:Nat×Operand),parts.toList[j]?=some p->p.1=j/\(a.eval p.2).cells.size=te.size:=by
  intro j p hj
  have NP:j<parts.toList.length:=by exact V102
  have TT:rows[j]?=some (rows[j]'o_):=i7 o_;have:=PI j p _ hj TT;rw[hu _ (c9 TT)]at this;exact⟨by simpa using Sv j p hj,this⟩
 let init:Array Value:=(Array.range (n*te.size)).map (fun i=>(if n*te.size=0 then #[]else z.cells)[i%(if n*te.size=0 then #[]else z.cells).size]!)
 have RM:init.size=n*te.size:=by simp[init]
 have RF:Instr.fill (fun i=>some (i*te.size,te.size)) init ((parts.map fun p=>(p.1,a.eval p.2)).toList)=some vss.flatten.toArray:=by exact V18
 have ME:(execOp a.eval o).run P w= .ok (.value (.slice (some ⟨w.heap.size,0,none⟩) n n)) (w.alloc (.cells vss.flatten.toArray e)):=by exact V42
 have Mw:rows.length=n:=by rw[Nn,hn]
 have Qv:n<=maxLen:=by have:=fite.pos;have h1:n*1<=n*te.size:=A6 _ o_;unfold maxLen;omega
 have MN:vss.flatten.length=n*te.size:=by obtain⟨_,g,_⟩:=MK;rw[show vss.flatten.length=rows.flatten.length from g,aR te.size rows hu,Mw]
 obtain⟨ρ',h'⟩:=hc.newDar (hd d rfl) (MQ d rfl) ids (w':=w.alloc (.cells vss.flatten.toArray e)) (D:=fun _=>False) (Turn.alloc _ _ _) (b:=w.heap.size) (cap:=n) (sz:=te.size) (us:=vss.flatten.toArray) (e:=e) (fz:=(0,0)) (rows:=rows)
  (fun _ h=>h.elim) (.inl (d8 _)) (kP _ _) (dC _) hu o_ Qv (by simp only[B0,MN]) (by
   rw[Mw,gt (by simp only[MN];omega)];obtain⟨Fp,c1,c2,c3,c4⟩:=MK;refine⟨Fp,c1,c2,fun p c NZ=>⟨(c3 p c NZ).1,fun e=>?_⟩,c4⟩;obtain⟨⟨o1,x1,m1,m2,m3⟩,_⟩:=c3 p c NZ;have:=(hc.rng o1 x1 c m2 m3).1
   omega) ids
 rw[Mw]at h';unfold Oper.wp;rw[ME];show K (a.put o.dst _) _;rw[MU];exact hK _ _ ρ' h'
end
section
variable {P:Program} {Γ:Env} {N B:Nat} {M:Nat->Prop} {w0:Start} {ρ:Rho} {s:F_} {a:Act} {w:World} {o:Oper} {ev:Operand->AV} {H:Id->Option AO} {K:Eff->Prop}
theorem Conc.upd (h:Conc N B M w0 ρ s a w){q:Id}{x x':AO}(hq:s.H q=some x){b:Nat}(hb:blk (ρ q)=some b)(rm:List Id)(Wf:q∉rm)(F:Nat->Prop)(hF:∀c,F c->∃o x,o∈rm/\s.H o=some x/\Own ρ o c){w':World}(hT:Turn (fun k=>k=b) w w')(Sm:∀id∈x'.ids,s.U id.1)
  (M3:∀(ρ':Rho) (ok':Nat->Prop),(∀o,ρ' o=ρ o)->(∀c,ρ.fp q c\/F c->ρ'.fp q c)->(∀c,okB ρ s.H w c->w'.heap[c]?=w.heap[c]?/\ok' c)->(∀o x c,o∈rm->s.H o=some x->Own ρ o c->¬F c->w'.heap[c]?=w.heap[c]?/\ok' c)->
   (∀c,F c->w'.heap[c]?=w.heap[c]?/\c≠b)->(∀c,ρ.fp q c->c≠b->w'.heap[c]?=w.heap[c]?)->RO B ρ' w' ok' q x') {dst:Option Nat} (hd:∀d,dst=some d->d<N) (vv:Value) (R:List Id):
  ∃ρ',Conc N B M w0 ρ' (s.app dst ⟨.unk,rm.map (fun r=>(r,none))++[(q,some x')],none,R⟩) (a.put dst vv) w':=by
 let ρ':Rho:=⟨ρ.val,fun o c=>ρ.fp o c\/(o=q/\F c),ρ.al⟩
 have MP:∀o c,Own ρ' o c↔(Own ρ o c\/(o=q/\F c)):=fun o c=>by
  show(blk (ρ o)=some c\/(ρ.fp o c\/(o=q/\F c)))↔_;unfold Own;rw[or_assoc]
 have QE:Own ρ q b:= .inl hb;have hr:=h.rng q x b hq QE;have Qr:=yO rm s.H q (some x')
 have Yd:∀c,F c->c≠b:=fun c hc e=>by
  obtain⟨o,x1,g1,g2,g3⟩:=hF c hc;subst e;exact h.sep o q x1 x c g2 hq (fun e=>Wf (e▸g1)) g3 QE
 have O5:∀o x1 c,o∈rm->s.H o=some x1->Own ρ o c->¬F c->w'.heap[c]?=w.heap[c]?/\okB ρ' (bP s.H (rm.map (fun r=>(r,none))++[(q,some x')])) w' c:=by
  intro o x1 c h1 h2 h3 YQ;have Mz:=(h.rng o x1 c h2 h3).1;have MF:c≠b:=fun e=>by subst e;exact h.sep o q x1 x c h2 hq (fun e=>Wf (e▸h1)) h3 QE
  refine⟨hT.block c Mz MF,⟨z8 Mz hT.size,h.alw c (h.rng o x1 c h2 h3).2⟩,fun o1 x2 h5 h6=>?_⟩;rw[Qr]at h5;rw[MP]at h6;rcases h6 with h6|⟨_,h6⟩
  ·by_cases e:o1=q
   ·subst e;exact h.sep o o1 x1 x c h2 hq (fun e3=>Wf (e3▸h1)) h3 h6
   ·simp only[b8 e]at h5;by_cases e2:o1∈rm
    ·simp[e2]at h5
    ·simp only[b8 e2]at h5;exact h.sep o o1 x1 x2 c h2 h5 (fun e3=>e2 (e3▸h1)) h3 h6
  ·exact YQ h6
 refine⟨ρ',?_⟩
 have:=h.step (fun k=>k=b) (q::rm) (w':=w') (ρ':=ρ') (H':=bP s.H (rm.map (fun r=>(r,none))++[(q,some x')])) (U':=s.U) (a':=a.put dst vv) (L':=nh s.L dst .unk) hT aaD aaA
  (fun _ _=>rfl) (fun o x1 ho _=>by
   funext c;have:o≠q:=fun e=>ho (by simp[e])
   exact propext ⟨fun hc=>hc.elim id fun hc=>absurd hc.1 this,.inl⟩) rfl (fun o ho=>by
   rw[Qr];simp only[d6,not_or]at ho
   simp only[b8 ho.1,b8 ho.2]) (fun _ h=>h)
  (fun c hc e=>by subst e;exact hc.2 q x hq QE)
  (fun o x1 c h1 h2 h3 e=>by subst e;exact h.sep o q x1 x c h1 hq (fun e=>h2 (by simp[e])) h3 QE)
  (fun c hc hM e=>by
   subst e;rcases hr.2 with g|g
   ·omega
   ·exact hM g)
  (fun o x1 c h1 h2 h3=>by
   rw[Qr]at h2;by_cases e:o=q
   ·subst e;rw[MP]at h3;rcases h3 with h3|⟨_,h3⟩
    ·have:=h.rng o x c hq h3;exact⟨z8 this.1 hT.size,this.2,.inr ⟨o,x,hq,s_,h3⟩⟩
    ·obtain⟨o',x2,g1,g2,g3⟩:=hF c h3;have:=h.rng o' x2 c g2 g3;exact⟨z8 this.1 hT.size,this.2,.inr ⟨o',x2,g2,by simp[g1],g3⟩⟩
   ·simp only[d6,e,false_or]at h1;simp only[b8 e,c7 h1]at h2
    cases h2)
  (fun o o' x1 x2 c h1 h2 h3 h4 MF=>by
   rw[Qr]at h3 h4;exfalso;by_cases e:o=q
   ·exact V81
   ·simp only[d6,e,false_or]at h1;simp only[b8 e,c7 h1]at h3
    cases h3)
  (fun hk o x1 h1 h2=>by
   rw[Qr]at h2;by_cases e:o=q
   ·subst e;simp only[if_true,Option.some.injEq]at h2;subst h2;refine⟨M3 ρ' _ (fun _=>rfl) (fun c hc=>hc.elim .inl fun hc=> .inr ⟨rfl,hc⟩) hk O5 (fun c hc=>?_) (fun c hc MF=>hT.block c (h.rng o x c hq (.inr hc)).1 MF),(h.usedH o x hq).1,Sm⟩;obtain⟨o',x2,g1,g2,g3⟩:=hF c hc;exact⟨hT.block c (h.rng o' x2 c g2 g3).1 (Yd c hc),Yd c hc⟩
   ·simp only[d6,e,false_or]at h1;simp only[b8 e,c7 h1]at h2
    cases h2)
  (fun hk t=>h.slots hd (av:= .unk) trivial aaK t)
 exact this.congr (fun _=>rfl) (fun _=>rfl) (fun n=>by simp[F_.app])
theorem mn {T:TypeId}{ti:LK}{i:TypeInfo}{d:TypeDesc}(fit:ti.Fit P T i d)(b off:Nat)(v:Value)(hl:v.cells.size=ti.size){cur:Array Value}{e:TypeId}{fz:Nat×Nat}(hb:w.heap[b]?=some (.cells cur e fz))(hz:ca cur.size fz)
  (M2:off+ti.size<=cur.size) (h1:∀u∈v.cells.toList,u.oneCell'=true):(Instr.storeAt T (.pointer (some ⟨b,off,none⟩)) v).run P w= .ok () (w.setCells b off v.cells.toList):=by
 have Oh:v.cells.toList.length=ti.size:=by simpa using hl
 have Na:=run_storeCells_cells (P:=P) b off v.cells.toList 0 w (fun j hj=>by
   rw[cell_of_row w b _ cur e fz hb];simp only[z4]
   rw[w7 o_];rfl) (fun j hj=>by
   simp only[World.frozen?,hb,z4];have:=hz (off+j) o_;simp only[A8,p9,Nat.not_le,Nat.not_lt]
   omega) h1
 simp only[z4]at Na;simp[Instr.storeAt,Instr.sureAddr,storeVar,cn fit.info,fit.size,hl,Na]
theorem JD {U:Nat->Prop}{off:Nat}{xs l l':List AC}(h:lay off xs l=some l')(h1:∀id∈xs.flatMap AC.ids,U id.1)(h2:∀id∈l.flatMap AC.ids,U id.1):∀id∈l'.flatMap AC.ids,U id.1:=by
 obtain⟨_,rfl⟩:=iC h;intro id MD;simp only[List.flatMap_append,d9]at MD;rcases MD with(MD|MD)|MD
 ·obtain⟨c,c1,c2⟩:=u0.1 MD;exact h2 id (u0.2 ⟨c,t8 c1,c2⟩)
 ·exact h1 id MD
 ·obtain⟨c,c1,c2⟩:=u0.1 MD;exact h2 id (u0.2 ⟨c,z7 c1,c2⟩)
theorem Kj {ar:AR}:∀id∈ar.cells.flatMap AC.ids,id∈(AV.r ar).ids:=by
 intro id MD
 cases ar with|c x=>simpa [AR.cells,AV.ids,AR.ids]using MD|agg xs=>exact MD
theorem kb {α:Type}{sz off:Nat}{row row' ts:List α}(l1:off+ts.length<=row.length)(l2:row'=row.take off++ts++row.drop (off+ts.length)):∀(rows:List (List α)) (i:Nat),(∀r∈rows,r.length=sz)->rows[i]?=some row->
  (rows.set i row').flatten=rows.flatten.take (i*sz+off)++ts++rows.flatten.drop (i*sz+off+ts.length)
 | [],i,_,h=>by simp at h
 | r::rows,0,hu,h=>by
  simp at h;subst h;simp only[D2,r8,Nat.zero_mul,u5];rw[A1 o_,l2];rw[List.drop_append_of_le_length o_]
  simp
 | r::rows,i+1,hu,h=>by
  have hr:=hu r s_;simp only[List.set_cons_succ,r8];rw[kb l1 l2 rows i (fun r hr=>hu r aau) aad];have e1:(i+1)*sz+off=r.length+(i*sz+off):=by rw[p8,hr];omega
  rw[e1,List.take_length_add_append,H9 r.length,List.drop_length_add_append];simp
theorem vt {α:Type}{A ys:List α}{k:Nat}(h:k+ys.length<=A.length)(p:Nat):(A.take k++ys++A.drop (k+ys.length))[p]?=if p<k then A[p]? else if p<k+ys.length then ys[p-k]? else A[p]?:=by
 have hk:(A.take k).length=k:=by rw[l6];omega
 have MO:(A.take k++ys).length=k+ys.length:=by rw[c8,hk]
 split
 ·rw[j7 o_,j7 o_,n3];simp_all
 ·split
  ·rw[j7 o_,m5 o_,hk]
  ·rw[m5 o_,MO,v7];congr 1;omega
theorem xh {T:TypeId}{x y:Operand}{ti:LK}{i:TypeInfo}{d:TypeDesc}(fit:ti.Fit P T i d)(ho:o.op= .store T x y)(MG:x∈o.op.operands.toList)(PK:y∈o.op.operands.toList){ar:AR}{q:Id}{sz i' off:Nat}{rows:List (List DC)}{hole:Option (Nat×Nat×Id)}{row:List DC}
  (hy:ev y= .r ar) (hx:ev x= .el q sz i' off) (hq:H q=some (.dar sz rows hole)) (Mw:ar.cells.length=ti.size) (MJ:rows[i']?=some row) (hh:∀p,(p<i'*sz+off\/i'*sz+off+ti.size<=p)->cp sz hole p=none)
  (h:jJ H ar.cells fun cs ids=>gG (q::ids)=true/\(match lay off cs row with
   | some row'=>K ⟨.unk,ids.map (fun r=>(r,none))++[(q,some (.dar sz (rows.set i' row') none))],none,q::ids⟩
   | none=>False)):∃e,K e/\Good P o ev H e:=by
 obtain⟨ds,ids,⟨OR,h⟩,Py⟩:=rh _ _ h;rw[nodupI_iff]at OR;obtain⟨Vc,OR⟩:=F0.1 OR;split at h
 rotate_left
 ·exact h.elim
 rename_i row' OI;refine⟨_,h,?_⟩;intro N B M w0 ρ s a w Q K hc Mx hR MQ hd hK;have MH:s.H q=some (.dar sz rows hole):=by rw[hR q s_];exact hq
 obtain⟨hu,g⟩:=hc.dar MH;have OK:=(hc.eval x).1;rw[Mx x MG,hx]at OK;obtain⟨b',n,c,e1,e2,e3⟩:=OK;have QV:=hc.eval y;rw[Mx y PK,hy]at QV;have OZ:=RR.cells QV.1;obtain⟨Fn,f1,f2,f3,f4⟩:=Py hc (fun o ho=>hR o aag) OR _ OZ;have MV:(a.eval y).cells.size=ti.size:=by rw[<-Mw,<-OZ.length];simp
 obtain⟨l1,l2⟩:=iC OI;have Nn:row.length=sz:=hu row (c9 MJ)
 have Ny:i'<rows.length:=by
  rcases m7 i' rows.length with h'|h'
  ·exact h'
  ·rw[e9 h']at MJ;cases MJ
 rcases g with⟨g1,g2,_⟩|⟨b,cap,cur,e,fz,Fp,g1,g2,g3,g4,g5,g6,g7,g8,g9,g10⟩
 ·subst g2;simp at Ny
 ·rw[g1]at e1;injection e1 with e1 Vk e1'';injection e1 with e1;injection e1 with e1;subst e1;have aal:(a.eval y).cells.toList.length=ti.size:=by simpa using MV
  have Sb:(i'+1)*sz<=cap*sz:=l9 _ o_;have UC:(i'+1)*sz=i'*sz+sz:=by rw[p8];omega
  have ME:=mn (w:=w) fit b (i'*sz+off) (a.eval y) MV g2 g3 o_ OZ.one;obtain⟨MY,c1,c2,c3⟩:=eE b e fz (a.eval y).cells.toList (i'*sz+off) w cur g2 (by simp[MV];omega);have O9:row'.length=sz:=by rw[l2];simp;omega
  have Nr:=kb l1 l2 rows i' hu MJ;have SJ:=aR sz rows hu;have UE:(i'+1)*sz<=rows.length*sz:=l9 _ Ny;have ZE:rows.length*sz<=cap*sz:=l9 _ g4;have Xk:cur.toList.length=cap*sz:=by simpa using g6
  let Fq:Nat->Nat->Prop:=fun p c=>if p<i'*sz+off then Fp p c else if p<i'*sz+off+ds.length then Fn (p-(i'*sz+off)) c else Fp p c
  have hqo:Own ρ q b:= .inl aah
  have Fq_cases:∀p c,Fq p c->(Fp p c/\¬(i'*sz+off<=p/\p<i'*sz+off+ds.length))\/(Fn (p-(i'*sz+off)) c/\i'*sz+off<=p/\p<i'*sz+off+ds.length):=by
   intro p c M1;simp only[Fq]at M1;split at M1
   ·exact .inl ⟨M1,o_⟩
   ·split at M1
    ·exact .inr ⟨M1,o_,o_⟩
    ·exact .inl ⟨M1,o_⟩
  have apart:∀p p' c,Fp p c->¬Fn p' c:=by intro p p' c h1 h2;obtain⟨⟨o,x1,k1,k2,k3⟩,_⟩:=f3 p' c h2;exact hc.sep o q x1 _ c k2 MH (fun e=>Vc (e▸k1)) k3 (.inr (g7 p c h1).1)
  obtain⟨ρ',this⟩:=hc.upd MH (x':= .dar sz (rows.set i' row') none) (b:=b) aah ids Vc (fun c=>∃p,Fn p c) (fun c NZ=>by obtain⟨p,hp⟩:=NZ;exact(f3 p c hp).1) (eD b _ (i'*sz+off) w) aaL (fun ρ' ok' hρ NQ hk O5 Xu Yi=>by
   refine⟨fun r hr=>?_,.inr ⟨b,cap,MY,e,fz,Fq,by rw[hρ,g1,q7],c1,by rw[c2];exact g3,by rw[q7];exact g4,g5,by rw[c2];exact g6,fun p c M1=>?_,fun p p' c MF h1 h2=>?_,?_,fun p v d hv hd=>?_⟩⟩
   ·rcases u6 hr with h'|h'
    ·exact hu r h'
    ·rw[h'];exact O9
   ·rcases Fq_cases p c M1 with⟨h1,_⟩|⟨h1,_⟩
    ·exact⟨NQ c (.inl (g7 p c h1).1),(g7 p c h1).2⟩
    ·exact⟨NQ c (.inr ⟨_,h1⟩),(Xu c ⟨_,h1⟩).2⟩
   ·rcases Fq_cases p c h1 with⟨h1,m1⟩|⟨h1,m1⟩<;>rcases Fq_cases p' c h2 with⟨h2,m2⟩|⟨h2,m2⟩
    ·exact g8 p p' c MF h1 h2
    ·exact apart _ _ _ h1 h2
    ·exact apart _ _ _ h2 h1
    ·exact f4 _ _ c o_ h1 h2
   ·rw[q7,Nr,c3];simp only[c8,l6,t9];rw[<-f1];omega
   ·simp only[cp];rw[Nr,vt o_]at hd;rw[q7,n3,c3,vt o_,f1]at hv;split at hv
    rotate_left
    ·cases hv
    rename_i hp;by_cases q1:p<i'*sz+off
    ·rw[c7 q1]at hv hd;have:=g9.2 p v d (by rw[n3,c7 hp];exact hv) hd;rw[hh p (.inl q1)]at this;refine this.keep hk fun c MB=>⟨Yi c (g7 p c MB).1 (g7 p c MB).2,?_⟩;simp only[Fq,c7 q1];exact MB
    ·rw[b8 q1]at hv hd;by_cases q2:p<i'*sz+off+ds.length
     ·rw[c7 q2]at hv hd;refine(f2 _ v d hv hd).keep hk fun c MB=>⟨(Xu c ⟨_,MB⟩).1,?_⟩;simp only[Fq,b8 q1,c7 q2];exact MB
     ·rw[b8 q2]at hv hd;have:=g9.2 p v d (by rw[n3,c7 hp];exact hv) hd;rw[hh p (.inr o_)]at this;refine this.keep hk fun c MB=>⟨Yi c (g7 p c MB).1 (g7 p c MB).2,?_⟩
      simp only[Fq,b8 q1,b8 q2];exact MB) hd undef (q::ids)
  have Nb:(execOp a.eval o).run P w= .ok .skip (w.setCells b (i'*sz+off) (a.eval y).cells.toList):=by simp only[execOp,ho,e3,m8,ME,i9,o9]
  unfold Oper.wp;rw[Nb];exact hK _ _ ρ' this
theorem Ca {T:TypeId}{x y:Operand}{ti:LK}(hΓ:Γ.chk P=true)(hT:Γ.get T=some ti)(ho:o.op= .store T x y)(h:uH ti (ev x) (ev y) H K):∃e,K e/\Good P o ev H e:=by
 obtain⟨i,d,fit⟩:=Env.fit hΓ hT;have MG:x∈o.op.operands.toList:=by simp[ho,Op.operands]
 have PK:y∈o.op.operands.toList:=by simp[ho,Op.operands]
 unfold uH at h;split at h
 ·rename_i ar hy;split at h
  ·rename_i Mw;have Mw:ar.cells.length=ti.size:=(by simpa using Mw);split at h
   ·rename_i q off hx;split at h
    ·rename_i cells hq;split at h
     ·rename_i O0 OI;refine⟨_,h,?_⟩;intro N B M w0 ρ s a w Q K hc Mx hR MQ hd hK;have MH:s.H q=some (.box cells):=(by rw[hR q s_];exact hq);obtain⟨b,us,t,fz,g1,g2,g3,g4,g5⟩:=hc.box MH;have OK:=(hc.eval x).1;rw[Mx x MG,hx]at OK;obtain⟨b',e1,e2⟩:=OK;rw[g1]at e1;injection e1 with e1;injection e1 with e1;injection e1 with e1;subst e1;have QV:=hc.eval y;rw[Mx y PK,hy]at QV;have OZ:=RR.cells QV.1;have MV:(a.eval y).cells.size=ti.size:=(by rw[<-Mw,<-OZ.length];simp);obtain⟨l1,l2⟩:=iC OI;have Ug:us.size=cells.length:=(by have:=g4.length;simpa using this);have ME:=mn (w:=w) fit b off (a.eval y) MV g2 g3 o_ OZ.one;obtain⟨MY,c1,c2,c3⟩:=eE b t fz (a.eval y).cells.toList off w us g2 (by simp[MV];omega)
      obtain⟨ρ',this⟩:=hc.upd MH (x':= .box O0) (b:=b) aah [] s_ (fun _=>False) (fun _ h=>h.elim) (eD b _ off w) (JD OI (fun id MD=>QV.2 id (Kj id MD)) (hc.usedH q _ MH).2) (fun ρ' ok' hρ _ hk _ _ _=>by
       refine⟨b,MY,t,fz,by rw[hρ];exact g1,c1,by rw[c2];exact g3,?_⟩;rw[c3,l2];have VT:(a.eval y).cells.toList.length=ar.cells.length:=OZ.length;rw[VT]
       exact(((g4.take off).append OZ).append (g4.drop _)).keep hk fun o _=>hρ o) hd undef [q]
      have Nb:(execOp a.eval o).run P w= .ok .skip (w.setCells b off (a.eval y).cells.toList):=by simp only[execOp,ho,e2,m8,ME,i9,o9]
      unfold Oper.wp;rw[Nb];exact hK _ _ ρ' this
     ·exact h.elim
    ·exact h.elim
   ·rename_i q MS i' off hx;split at h
    ·rename_i fr sz rows hq;split at h
     rotate_left
     ·exact h.elim
     rename_i ts fr' ids Pf;obtain⟨rfl,Vc,row,MJ,h⟩:=h;split at h
     ·rename_i row' OI;refine⟨_,h,?_⟩;intro N B M w0 ρ s a w Q K hc Mx hR MQ hd hK;have MH:s.H q=some (.arr fr sz rows):=(by rw[hR q s_];exact hq);obtain⟨hu,g⟩:=hc.arr MH;have OK:=(hc.eval x).1;rw[Mx x MG,hx]at OK;obtain⟨b',n,c,e1,e2,e3⟩:=OK;have QV:=hc.eval y;rw[Mx y PK,hy]at QV;have OZ:=RR.cells QV.1
      have Pl:∀ok':Nat->Prop,(∀c,okB ρ s.H w c->ok' c)->(∀o x c,o∈ids->s.H o=some x->Own ρ o c->ok' c)->RTs w (okF B ok' fr') (a.eval y).cells.toList ts:=
       fun ok' MC hb=>lC hc MC Pf (fun o ho=>hR o aag) OZ hb
      have Wi:ts.length=ti.size:=(by rw[<-(Pl (fun _=>True) (fun _ _=>trivial) (fun _ _ _ _ _ _=>trivial)).length,OZ.length,Mw]);have MV:(a.eval y).cells.size=ti.size:=(by rw[<-Mw,<-OZ.length];simp);obtain⟨l1,l2⟩:=iC OI;have Nn:row.length=sz:=hu row (c9 MJ)
      have Ny:i'<rows.length:=by
       rcases m7 i' rows.length with h'|h'
       ·exact h'
       ·rw[e9 h']at MJ;cases MJ
      rcases g with⟨g1,g2⟩|⟨b,cap,cur,e,fz,g1,g2,g3,g4,g5,g6,g7,g8,g9⟩
      ·subst g2;simp at Ny
      ·rw[g1]at e1;injection e1 with e1 Vk e1'';injection e1 with e1;injection e1 with e1;subst e1;have Sb:(i'+1)*sz<=cap*sz:=l9 _ o_;have UC:(i'+1)*sz=i'*sz+sz:=(by rw[p8];omega);have ME:=mn (w:=w) fit b (i'*sz+off) (a.eval y) MV g2 g3 o_ OZ.one;obtain⟨MY,c1,c2,c3⟩:=eE b e fz (a.eval y).cells.toList (i'*sz+off) w cur g2 (by simp[MV];omega);have O9:row'.length=sz:=(by rw[l2];simp;omega);have SZ:(a.eval y).cells.toList.length=ts.length:=(Pl (fun _=>True) (fun _ _=>trivial) (fun _ _ _ _ _ _=>trivial)).length
       have Nr:(rows.set i' row').flatten=rows.flatten.take (i'*sz+off)++ts++rows.flatten.drop (i'*sz+off+ts.length):=by exact kb l1 l2 rows i' hu MJ
       have SJ:=aR sz rows hu;have UE:(i'+1)*sz<=rows.length*sz:=l9 _ Ny
       obtain⟨ρ',this⟩:=hc.upd MH (x':= .arr (fr&&fr') sz (rows.set i' row')) (b:=b) aah ids Vc (fun _=>False) (fun _ h=>h.elim) (eD b _ (i'*sz+off) w) aaL (fun ρ' ok' hρ _ hk VO _ _=>by
        have O5:=fun o x c h1 h2 h3=>VO o x c h1 h2 h3 (fun h=>h);refine⟨fun r hr=>?_,.inr ⟨b,cap,MY,e,fz,by rw[hρ,g1,q7],c1,by rw[c2];exact g3,by rw[q7];exact g4,g5,by rw[c2];exact g6,?_,fun e=>g9 (by simp at e;exact e.1)⟩⟩
        ·rcases u6 hr with h'|h'
         ·exact hu r h'
         ·rw[h'];exact O9
        ·rw[q7,Nr,c3,SZ]
         have e1:(cur.toList.take (i'*sz+off)++(a.eval y).cells.toList++cur.toList.drop (i'*sz+off+ts.length)).take (rows.length*sz)=
           (cur.toList.take (rows.length*sz)).take (i'*sz+off)++(a.eval y).cells.toList++(cur.toList.take (rows.length*sz)).drop (i'*sz+off+ts.length):=by
          rw[H0,y6 o_]
          have PP:(cur.toList.take (i'*sz+off)++(a.eval y).cells.toList).length=i'*sz+off+ts.length:=by rw[c8,SZ,l6];simp;omega
          rw[I2,gt (by rw[PP];omega),PP];congr 1;rw[G8]
         rw[e1]
         have Qe:∀c,okB ρ s.H w c\/(∃o x,o∈ids/\s.H o=some x/\Own ρ o c)->(w.setCells b (i'*sz+off) (a.eval y).cells.toList).heap[c]?=w.heap[c]?/\ok' c:=by
          rintro c (MB|⟨o,x,k1,k2,k3⟩)
          ·exact hk c MB
          ·exact O5 o x c k1 k2 k3
         have ZX:=(Pl (fun c=>okB ρ s.H w c\/(∃o x,o∈ids/\s.H o=some x/\Own ρ o c)) (fun c h=> .inl h) (fun o x c k1 k2 k3=> .inr ⟨o,x,k1,k2,k3⟩)).keep (iw (B:=B) Qe);have ZH:=ZX.keep (go (B:=B) (ok:=ok') (w:=w.setCells b (i'*sz+off) (a.eval y).cells.toList) (fr':=fr&&fr') fun e=>by simp at e;exact e.2);have XL:=(g7.keep (iw (B:=B) hk)).keep (go (B:=B) (ok:=ok') (w:=w.setCells b (i'*sz+off) (a.eval y).cells.toList) (fr':=fr&&fr') fun e=>by simp at e;exact e.1)
         exact((XL.take _).append ZH).append (XL.drop _)) hd undef (q::ids)
       have Nb:(execOp a.eval o).run P w= .ok .skip (w.setCells b (i'*sz+off) (a.eval y).cells.toList):=by simp only[execOp,ho,e3,m8,ME,i9,o9]
       unfold Oper.wp;rw[Nb];exact hK _ _ ρ' this
     ·exact h.elim
    ·rename_i sz rows hq;obtain⟨rfl,row,MJ,h⟩:=h;exact xh fit ho MG PK hy hx hq Mw MJ (fun _ _=>rfl) h
    ·rename_i sz rows i2 off2 n2 hq;obtain⟨rfl,rfl,rfl,h1,row,MJ,h⟩:=h;refine xh fit ho MG PK hy hx hq Mw MJ (fun p hp=>?_) h;simp only[cp];rw[b8 o_]
    ·exact h.elim
   ·exact h.elim
  ·exact h.elim
 ·exact h.elim
end
section
variable {P:Program} {N B:Nat} {M:Nat->Prop} {w0:Start} {ρ:Rho} {s:F_} {a:Act} {w:World} {o:Oper} {ev:Operand->AV} {H:Id->Option AO} {K:Eff->Prop}
theorem nj:∀(us SD:List (Id×Option AO)) (H:Id->Option AO),bP H (us++SD)=bP (bP H us) SD
 | [],_,_=>rfl
 | p::us,SD,H=>by rw[u3,bP,nj us SD];rfl
theorem Conc.ghost (h:Conc N B M w0 ρ s a w)(keys:List Id){ρ':Rho}{H':Id->Option AO}(hρ:∀o,ρ' o=ρ o)(NQ:∀o x,o∉keys->s.H o=some x->ρ'.fp o=ρ.fp o)(M5:ρ'.al=ρ.al)(hH:∀o,o∉keys->H' o=s.H o)
  (MQ:∀o x b,o∈keys->H' o=some x->Own ρ' o b->∃o' x',s.H o'=some x'/\o'∈keys/\Own ρ o' b)
  (P1:∀o o' x x' b,o∈keys->o'∈keys->H' o=some x->H' o'=some x'->o≠o'->Own ρ' o b->¬Own ρ' o' b)
  (M3:∀(_:∀b,okB ρ s.H w b->okB ρ' H' w b),∀o x,o∈keys->H' o=some x->RO B ρ' w (okB ρ' H' w) o x/\s.U o.1/\∀o'∈x.ids,s.U o'.1):Conc N B M w0 ρ' ⟨s.L,H',s.U⟩ a w:=by
 have:=h.step (fun _=>False) keys (w':=w) (ρ':=ρ') (H':=H') (U':=s.U) (a':=a) (L':=s.L) (Turn.refl _ _) h.size h.defers (fun o _=>hρ o) NQ M5 hH (fun _ h=>h) (fun _ _ h=>h) (fun _ _ _ _ _ _ h=>h) (fun _ _ _ h=>h)
  (fun o x b h1 h2 h3=>by
   obtain⟨o',x',g1,g2,g3⟩:=MQ o x b h1 h2 h3;have:=h.rng o' x' b g1 g3
   exact⟨this.1,this.2,.inr ⟨o',x',g1,g2,g3⟩⟩) P1 (fun hk=>M3 fun b hb=>(hk b hb).2) (fun _ t=> .inl ⟨rfl,rfl⟩)
 exact this
theorem Conc.close (h:Conc N B M w0 ρ s a w){q n:Id}(Pi:n≠q){sz:Nat}{rows:List (List DC)}{i off:Nat}(hq:s.H q=some (.dar sz rows (some (i,off,n)))){y:AO}(hy:s.H n=some y){t:Nat}{rs:List (List Tr)}
  (SL:DT w (Own ρ n) (ρ n) (.lst t rs)) {row:List DC} (hr:rows[i]?=some row) (ho:off<sz):
  ∃ρ',Conc N B M w0 ρ' ⟨s.L,bP s.H [(n,none),(q,some (.dar sz (rows.set i (row.set off (.d (.lst t rs)))) none))],s.U⟩ a w:=by
 obtain⟨hu,g⟩:=h.dar hq
 have hi:i<rows.length:=by exact V107
 rcases g with⟨_,g,_⟩|⟨b,cap,cur,e,fz,Fp,g1,g2,g3,g4,g5,g6,g7,g8,g9,g10⟩
 ·subst g;simp at hr
 let ρ':Rho:=⟨ρ.val,fun o c=>ρ.fp o c\/(o=q/\Own ρ n c),ρ.al⟩
 have MP:∀o c,Own ρ' o c↔(Own ρ o c\/(o=q/\Own ρ n c)):=fun o c=>by
  show(blk (ρ o)=some c\/(ρ.fp o c\/(o=q/\Own ρ n c)))↔(Own ρ o c\/(o=q/\Own ρ n c));rw[<-or_assoc];rfl
 have O2:∀o,bP s.H [(n,none),(q,some (.dar sz (rows.set i (row.set off (.d (.lst t rs)))) none))] o=if o=q then some (.dar sz (rows.set i (row.set off (.d (.lst t rs)))) none)else if o=n then none else s.H o:=by intro o;simp only[bP]
 refine⟨ρ',?_⟩;refine h.ghost [q,n] (ρ':=ρ') (fun _=>rfl) (fun o x h1 _=>?_) rfl (fun o h1=>?_) (fun o x c h1 h2 h3=>?_) (fun o o' x x' c h1 h2 h3 h4 MF=>?_) (fun hk o x h1 h2=>?_)
 ·simp only[d6,l4,or_false,not_or]at h1;funext c;exact propext ⟨fun hc=>hc.elim id fun hc=>absurd hc.1 h1.1,.inl⟩
 ·simp only[d6,l4,or_false,not_or]at h1;rw[O2,b8 h1.1,b8 h1.2]
 ·simp only[d6,l4,or_false]at h1;rw[O2]at h2;rcases h1 with rfl|rfl
  ·rw[MP]at h3;rcases h3 with h3|⟨_,h3⟩
   ·exact⟨o,_,hq,s_,h3⟩
   ·exact⟨n,_,hy,s_,h3⟩
  ·rw[b8 Pi,c7 rfl]at h2;cases h2
 ·exfalso;rw[O2]at h3 h4;simp only[d6,l4,or_false]at h1 h2;rcases h1 with rfl|rfl
  ·rcases h2 with rfl|rfl
   ·exact MF rfl
   ·rw[b8 Pi,c7 rfl]at h4;cases h4
  ·rw[b8 Pi,c7 rfl]at h3;cases h3
 ·rw[O2]at h2;simp only[d6,l4,or_false]at h1;rcases h1 with rfl|rfl
  ·rw[c7 rfl]at h2;injection h2 with h2;subst h2;have MJ:=hu row (c9 hr);have MN:=sO sz rows i off row (.d (.lst t rs)) hu hr ho;refine⟨⟨fun r PC=>?_,.inr ⟨b,cap,cur,e,fz,fun p c=>(p≠i*sz+off/\Fp p c)\/(p=i*sz+off/\Own ρ n c),by rw[q7];exact g1,g2,g3,by rw[q7];exact g4,g5,g6,fun p c hc=>?_,fun p p' c MF h1 h2=>?_,?_,fun p v d hv hd=>?_⟩⟩,(h.usedH o _ hq).1,by simp[AO.ids]⟩
   ·rcases u6 PC with h'|h'
    ·exact hu r h'
    ·rw[h',q7];exact MJ
   ·rcases hc with⟨_,hc⟩|⟨_,hc⟩
    ·exact⟨.inl (g7 p c hc).1,(g7 p c hc).2⟩
    ·refine⟨.inr ⟨rfl,hc⟩,fun e=>?_⟩;subst e;exact h.sep n o y _ c hy hq Pi hc (.inl aah)
   ·rcases h1 with⟨m1,h1⟩|⟨m1,h1⟩<;>rcases h2 with⟨m2,h2⟩|⟨m2,h2⟩
    ·exact g8 p p' c MF h1 h2
    ·exact h.sep n o y _ c hy hq Pi h2 (.inr (g7 p c h1).1)
    ·exact h.sep n o y _ c hy hq Pi h1 (.inr (g7 p' c h2).1)
    ·omega
   ·rw[q7,MN,q7];exact g9.1
   ·simp only[cp];rw[MN]at hd;rw[q7]at hv;by_cases hp:p=i*sz+off
    ·subst hp
     rw[x6 (by
      rw[<-g9.1];have:=x9.1 hv
      exact this.1)]at hd
     injection hd with hd;subst hd
     have Mz:i*sz+off<rows.flatten.length:=by rw[<-g9.1];exact(x9.1 hv).1
     have:=g9.2 _ v _ hv (i7 Mz);simp only[cp,if_true]at this;rw[this.1];exact SL.keep fun c hc=>⟨rfl,.inr ⟨rfl,hc⟩⟩
    ·rw[C6 (fun e=>hp e.symm)]at hd;have:=g9.2 p v d hv hd;simp only[cp,b8 hp]at this;exact RD.keep this (fun b' ML=>⟨rfl,hk b' ML⟩) fun c hc=>⟨rfl,.inl ⟨hp,hc⟩⟩
  ·rw[b8 Pi,c7 rfl]at h2;cases h2
theorem oH {x:AV}{K:(Id->Option AO)->List (Id×Option AO)->List Id->Prop}(hx:pI H x K):∃H' us R,K H' us R/\∀{N B:Nat} {M:Nat->Prop} {w0:Start} {ρ:Rho} {s:F_} {a:Act} {w:World},Conc N B M w0 ρ s a w->
  (∀id∈R,s.H id=H id)->(∃ρ',Conc N B M w0 ρ' ⟨s.L,bP s.H us,s.U⟩ a w)/\∀id,s.H id=H id->bP s.H us id=H' id:=by
 have same:∀{K:(Id->Option AO)->List (Id×Option AO)->List Id->Prop},K H [] []->∃H' us R,K H' us R/\∀{N B:Nat} {M:Nat->Prop} {w0:Start} {ρ:Rho} {s:F_} {a:Act} {w:World},Conc N B M w0 ρ s a w->
   (∀id∈R,s.H id=H id)->(∃ρ',Conc N B M w0 ρ' ⟨s.L,bP s.H us,s.U⟩ a w)/\∀id,s.H id=H id->bP s.H us id=H' id:=
  fun h=>⟨H,[],[],h,fun hc _=>⟨⟨_,hc⟩,fun id MD=>MD⟩⟩
 have agree:∀{s:F_} {q n:Id} {d:AO} (id:Id),s.H id=H id->bP s.H [(n,none),(q,some d)] id=Dy (Dy H n none) q (some d) id:=by
  intro s q n d id MD
  have he:∀x y:Id,(bif fj x y then true else false)=decide (x=y):=fun x y=>by
   cases hb:fj x y with
   | true=>rw[idEq_iff]at hb;simp[hb]
   | false=>symm;simp only[cond_false,p9];intro e;rw[idEq_iff.2 e]at hb;cases hb
  have hb:∀(x y:Id) (A B:Option AO),(bif fj x y then A else B)=if x=y then A else B:=fun x y A B=>by
   have:=he x y
   cases hb:fj x y with
   | true=>
        rw[hb]at this;have h2:x=y:=by simpa using this
        simp[h2]
   | false=>
         rw[hb]at this;have h2:¬x=y:=by simpa using this
         simp[h2]
  simp only[bP,Dy,hb];by_cases e1:id=q
  ·simp[e1]
  ·have Vk:¬q=id:=fun e=>e1 e.symm;by_cases e2:id=n
   ·subst e2;simp[e1,Vk]
   ·have Zl:¬n=id:=fun e=>e2 e.symm;simp[e1,Vk,e2,Zl,MD]
 unfold pI at hx;split at hx
 ·rename_i q MS i' QZ;split at hx
  ·rename_i sz rows i off n hq;split at hx
   ·rename_i fr t rs hn hy;obtain⟨MN,row,hr,ho,hK⟩:=hx;have Pi:n≠q:=fun e=>by rw[idEq_iff.2 e]at hn;cases hn
    refine⟨_,_,_,hK,fun hc hR=>⟨?_,agree⟩⟩;have MH:=(hR q s_).trans hq;have OO:=(hR n s_).trans hy;exact hc.close Pi MH OO (CT hc OO MN) hr ho
   ·rename_i t rs hn hy;obtain⟨Vj,rfl,row,hr,ho,hK⟩:=hx;have Pi:n≠q:=fun e=>by rw[idEq_iff.2 e]at hn;cases hn
    refine⟨_,_,_,hK,fun hc hR=>⟨?_,agree⟩⟩;have MH:=(hR q s_).trans hq;have OO:=(hR n s_).trans hy;exact hc.close Pi MH OO (Ho hc OO) hr ho
   ·exact same hx
   ·exact hx.elim
  ·exact same hx
 ·exact same hx
theorem uw {H':Id->Option AO}{us:List (Id×Option AO)}{R:List Id}{e:Eff}(MV:∀{N B:Nat} {M:Nat->Prop} {w0:Start} {ρ:Rho} {s:F_} {a:Act} {w:World},Conc N B M w0 ρ s a w->
  (∀id∈R,s.H id=H id)->(∃ρ',Conc N B M w0 ρ' ⟨s.L,bP s.H us,s.U⟩ a w)/\∀id,s.H id=H id->bP s.H us id=H' id) (hg:Good P o ev H' e):Good P o ev H ⟨e.v,us++e.us,e.new,R++e.R⟩:=by
 intro N B M w0 ρ s a w Q K hc Mx hR hn hd hK;obtain⟨⟨ρ1,h1⟩,h2⟩:=MV hc fun id MD=>hR id (by simp[MD]);refine hg N B M w0 ρ1 ⟨s.L,bP s.H us,s.U⟩ a w Q K h1 Mx (fun id MD=>h2 id (hR id (by simp[MD]))) hn hd fun v w' ρ' h'=>hK v w' ρ' ?_;refine h'.congr (fun _=>rfl) (fun o=>?_) fun _=>Iff.rfl;simp only[F_.app,nj]
end
section
variable {P:Program} {N B:Nat} {M:Nat->Prop} {w0:Start} {ρ ρ':Rho} {s:F_} {a:Act} {w w':World} {o:Oper} {ev:Operand->AV} {H:Id->Option AO} {K:Eff->Prop}
theorem BF {α β:Type}(f:α->β)(l:List (List α)):(l.map (·.map f)).flatten=l.flatten.map f:=(I0 ..).symm
theorem HO (hc:Conc N B M w0 ρ s a w){ok':Nat->Prop}(hk:∀b,okB ρ s.H w b->ok' b){q:Id}(MH:∀x b,s.H q=some x->Own ρ q b->ok' b){fr:Bool}{sz:Nat}{rows:List (List Tr)}(hq:s.H q=some (.arr fr sz rows)):RT w ok' (ρ q) (.lst sz rows):=by
 obtain⟨hu,g⟩:=hc.arr hq;rcases g with⟨g1,g2⟩|⟨b,cap,cur,e,fz,g1,g2,g3,g4,g5,g6,g7,g8,g9⟩
 ·subst g2;rw[g1];exact .emp _ _ _ (w6 _)
 ·have hb:=MH _ b hq (.inl aah);rw[g1];exact .lst _ _ _ _ _ _ rfl g4 g5 hu hb (by rw[g7.length]) g8 fun p v u hv M9=>(g7.get p v u hv M9).keep fun c MB=>⟨rfl,hk c MB.1⟩
theorem Im (hc:Conc N B M w0 ρ s a w){ok':Nat->Prop}(hk:∀b,okB ρ s.H w b->ok' b){q:Id}(MH:∀x b,s.H q=some x->Own ρ q b->ok' b){sz:Nat}{rows:List (List DC)}(hq:s.H q=some (.dar sz rows none)):RT w ok' (ρ q) (.lst sz (rows.map (·.map DC.tr))):=by
 obtain⟨hu,g⟩:=hc.dar hq;rcases g with⟨g1,g2,_⟩|⟨b,cap,cur,e,fz,Fp,g1,g2,g3,g4,g5,g6,g7,g8,g9,g10⟩
 ·subst g2;rw[g1];exact .emp _ _ _ (w6 _)
 ·have hb:=MH _ b hq (.inl aah);rw[g1];refine .lst _ _ _ _ _ _ s_ g4 g5 (fun r hr=>?_) hb (by rw[g9.1,BF,e7]) g10 fun p v u hv M9=>?_
  ·obtain⟨r',h1,rfl⟩:=n7.1 hr;rw[e7];exact hu r' h1
  ·rw[BF,p6]at M9
   cases hd:rows.flatten[p]? with
   | none=>rw[hd]at M9;cases M9
   | some d=>
    rw[hd]at M9;injection M9 with M9;subst M9;have:=g9.2 p v d hv hd;simp only[cp]at this
    cases d with
    | t x=>exact RT.keep this fun c MB=>⟨rfl,hk c MB⟩
    | d x=>exact DT.toRT this fun c MB=>MH _ c hq (.inr (g7 p c MB).1)
theorem jA (hc:Conc N B M w0 ρ s a w){ok':Nat->Prop}(hk:∀b,okB ρ s.H w b->ok' b){v:Value}{c:AC}{t:Tr}(MH:∀q∈c.ids,∀x b,s.H q=some x->Own ρ q b->ok' b)(hv:RC B ρ w (okB ρ s.H w) v c)(h:cu s.H c t):RT w ok' v t:=by
 cases c with
 | t x=>cases h;exact RT.keep hv fun b hb=>⟨rfl,hk b hb⟩
 | f x=>cases h;exact RT.keep hv fun b hb=>⟨rfl,hk b hb.1⟩
 | nils n=>
  obtain⟨sz,rfl⟩:=h;have:v= .slice none 0 0:=hv;rw[this]
  exact .emp _ _ _ (w6 _)
 | nilp=>exact h.elim
 | opq=>exact h.elim
 | mpv=>exact h.elim
 | own q=>
  have Sl:=MH q aam;simp only[cu]at h;obtain⟨_,e⟩:=hv;rw[e];split at h
  ·rename_i fr sz rows hq;subst h;exact HO hc hk Sl hq
  ·rename_i sz rows hq;subst h;exact Im hc hk Sl hq
  ·exact h.elim
 | sub q k=>
  have Sl:=MH q aam;simp only[cu]at h;obtain⟨A,n,c,e0,e1,e2⟩:=hv;rw[e1]
  have fin:∀(sz:Nat) (rows:List (List Tr)),RT w ok' (.slice A n c) (.lst sz rows)->n=rows.length->RT w ok' (.slice A k c) (.lst sz (rows.take k)):=by
   intro sz rows hf hn;have:=hf.cut 0 k (w6 _) o_;simp only[Nat.zero_mul,Option.map_id',fS,y0,B8]at this;by_cases h0:c=0
   ·rw[c7 h0]at this;exact this
   ·rw[b8 h0]at this;exact this
  split at h
  ·rename_i fr sz rows hq;subst h;have:=HO hc hk Sl hq;rw[e0]at this;obtain⟨_,_,hs,_⟩:=this.slice_inv;injection hs with _ hs _;exact fin _ _ this hs
  ·rename_i sz rows hq;subst h;have:=Im hc hk Sl hq;rw[e0]at this;obtain⟨_,_,hs,_⟩:=this.slice_inv;injection hs with _ hs _;rw[y8];exact fin _ _ this hs
  ·exact h.elim
 | ptr q off=>exact h.elim
theorem xx (hc:Conc N B M w0 ρ s a w){v:Value}{c:AC}{t:Tr}(hv:RC B ρ w (okB ρ s.H w) v c)(h:cu s.H c t):RT w (fun b=>b<w.heap.size) v t:=
 jA hc (fun b hb=>hb.1.1) (fun q _ x b hq hb=>(hc.rng q x b hq hb).1) hv h
theorem vE (hc:Conc N B M w0 ρ s a w):∀{vs:List Value} {cs:List AC} {ts:List Tr},RCs B ρ w (okB ρ s.H w) vs cs->qw s.H cs ts->RTs w (fun b=>b<w.heap.size) vs ts
 | [],[],[],_,_=>trivial
 | _::_,_::_,_::_,h,h'=>⟨xx hc h.1 h'.1,vE hc h.2 h'.2⟩
 | [],_::_,_,h,_=>h.elim
 | _::_,[],_,h,_=>h.elim
 | [],[],_::_,_,h=>h.elim
 | _::_,_::_,[],_,h=>h.elim
theorem Dh (hc:Conc N B M w0 ρ s a w){v:Value}{x:AV}{t:TV}(hv:RV B ρ w (okB ρ s.H w) v x)(h:uc s.H x t):RTV w (fun b=>b<w.heap.size) v t:=by
 cases x with
 | r ar=>
  cases ar with
  | c c=>cases t with|c t=>exact xx hc hv h|agg=>exact h.elim
  | agg cs=>cases t with|c t=>exact h.elim|agg ts=>obtain⟨us,rfl,hr⟩:=hv;exact⟨us,rfl,vE hc hr h⟩
 | tup=>exact h.elim
 | el=>exact h.elim
 | ro=>exact h.elim
 | unk=>exact h.elim
theorem lH {H H':Id->Option AO}{c:AC}{t:Tr}(hH:∀o∈c.ids,H' o=H o)(h:cu H c t):cu H' c t:=by cases c<;>simp only[cu]at h⊢<;> first|exact h|(rw[hH _ aam];exact h)
theorem ow {H H':Id->Option AO}:∀{cs:List AC} {ts:List Tr},(∀o∈cs.flatMap AC.ids,H' o=H o)->qw H cs ts->qw H' cs ts
 | [],[],_,_=>trivial
 | c::cs,t::ts,hH,h=>⟨lH (fun o ho=>hH o aag) h.1,ow (fun o ho=>hH o aaz) h.2⟩
 | [],_::_,_,h=>h.elim
 | _::_,[],_,h=>h.elim
theorem wP {H H':Id->Option AO}{x:AV}{t:TV}(hH:∀o∈x.ids,H' o=H o)(h:uc H x t):uc H' x t:=by
 cases x with
 | r ar=>
  cases ar with
  | c c=>cases t with
   | c t=>exact lH hH h
   | agg=>exact h.elim
  | agg cs=>cases t with
   | c t=>exact h.elim
   | agg ts=>exact ow hH h
 | tup=>exact h.elim
 | el=>exact h.elim
 | ro=>exact h.elim
 | unk=>exact h.elim
theorem yZ (hc:Conc N B M w0 ρ s a w):∀(xs:List Operand) (ts:List TV),(∀x∈xs,evL s.L x=ev x)->(∀o∈(xs.map ev).flatMap AV.ids,s.H o=H o)->ey H (xs.map ev) ts->RTVs w (fun b=>b<w.heap.size) (xs.map a.eval) ts
 | [],[],_,_,_=>trivial
 | x::xs,t::ts,hx,hH,h=>by
  refine⟨Dh hc (x:=ev x) ?_ (wP (fun o ho=>hH o aag) h.1),yZ hc xs ts (fun y hy=>hx y aaJ) (fun o ho=>hH o (by simp only[p7,u7,d9];exact .inr ho)) h.2⟩;have:=(hc.eval x).1
  rwa [hx x s_]at this
 | [],_::_,_,_,h=>h.elim
 | _::_,[],_,_,h=>h.elim
theorem IR {d i j:Nat}{cs:List RC'}{o:Id}{x:AO}(h:(o,x)∈RC'.oss d i j cs):o.1=d/\((0,o.2),x)∈RC'.oss 0 i j cs:=by
 induction cs generalizing j with
 | nil=>simp[RC'.oss]at h
 | cons c cs ih=>
  simp only[RC'.oss,d9]at h⊢;rcases h with h|h
  ·cases c with|t x=>simp[RC'.os]at h|arr sz rows=>simp only[RC'.os,t7,Prod.mk.injEq]at h;obtain⟨rfl,rfl⟩:=h;exact⟨rfl,.inl (by simp[RC'.os])⟩
  ·exact⟨(ih h).1,.inr (ih h).2⟩
theorem yD {d i:Nat}{x:RR'}{o:Id}{y:AO}(h:(o,y)∈x.os d i):o.1=d/\((0,o.2),y)∈x.os 0 i:=by
 cases x with
 | c c=>cases c with
  | t x=>simp[RR'.os,RC'.os]at h
  | arr sz rows=>simp only[RR'.os,RC'.os,t7,Prod.mk.injEq]at h;obtain⟨rfl,rfl⟩:=h;exact⟨rfl,by simp[RR'.os,RC'.os]⟩
 | agg cs=>exact IR h
theorem GO {d i:Nat}{xs:List RR'}{o:Id}{y:AO}(h:(o,y)∈RR'.oss d i xs):o.1=d/\((0,o.2),y)∈RR'.oss 0 i xs:=by
 induction xs generalizing i with
 | nil=>simp[RR'.oss]at h
 | cons x xs ih=>
  simp only[RR'.oss,d9]at h⊢;rcases h with h|h
  ·exact⟨(yD h).1,.inl (yD h).2⟩
  ·exact⟨(ih h).1,.inr (ih h).2⟩
theorem qE {d:Nat}{r:Res}{o:Id}{y:AO}(h:(o,y)∈r.os d):o.1=d/\((0,o.2),y)∈r.os 0:=by cases r with|r x=>exact yD h|tup xs=>exact GO h
theorem Ez {B' d i j:Nat}{c:RC'}{v:Value}{ok ok':Nat->Prop}(hρ:∀q:Nat×Nat,ρ' (d,q)=ρ (0,q))(hk:∀b,ok b->ok' b)(h:RC B' ρ w ok v (c.ac 0 i j)):RC B ρ' w ok' v (c.ac d i j):=by
 cases c with
 | t x=>exact RT.keep h fun b hb=>⟨rfl,hk b hb⟩
 | arr sz rows=>obtain⟨⟨A,n,c,e⟩,e1⟩:=h;exact⟨⟨A,n,c,(hρ (i,j)).trans e⟩,e1.trans (hρ (i,j)).symm⟩
theorem AK {B' d i:Nat}{ok ok':Nat->Prop}(hρ:∀q:Nat×Nat,ρ' (d,q)=ρ (0,q))(hk:∀b,ok b->ok' b):∀{cs:List RC'} {j:Nat} {vs:List Value},RCs B' ρ w ok vs (RC'.acs 0 i j cs)->RCs B ρ' w ok' vs (RC'.acs d i j cs)
 | [],_,[],_=>trivial
 | _::_,_,_::_,h=>⟨Ez hρ hk h.1,AK hρ hk h.2⟩
 | [],_,_::_,h=>h.elim
 | _::_,_,[],h=>h.elim
theorem Ea {B' d i:Nat}{x:RR'}{v:Value}{ok ok':Nat->Prop}(hρ:∀q:Nat×Nat,ρ' (d,q)=ρ (0,q))(hk:∀b,ok b->ok' b)(h:RR B' ρ w ok v (x.ar 0 i)):RR B ρ' w ok' v (x.ar d i):=by cases x with|c c=>exact Ez hρ hk h|agg cs=>obtain⟨us,e,h⟩:=h;exact⟨us,e,AK hρ hk h⟩
theorem AB {B' d:Nat}{ok ok':Nat->Prop}(hρ:∀q:Nat×Nat,ρ' (d,q)=ρ (0,q))(hk:∀b,ok b->ok' b):∀{xs:List RR'} {i:Nat} {vs:List Value},RRs B' ρ w ok vs (RR'.ars 0 i xs)->RRs B ρ' w ok' vs (RR'.ars d i xs)
 | [],_,[],_=>trivial
 | _::_,_,_::_,h=>⟨Ea hρ hk h.1,AB hρ hk h.2⟩
 | [],_,_::_,h=>h.elim
 | _::_,_,[],h=>h.elim
theorem IZ {B' d:Nat}{r:Res}{v:Value}{ok ok':Nat->Prop}(hρ:∀q:Nat×Nat,ρ' (d,q)=ρ (0,q))(hk:∀b,ok b->ok' b)(h:RV B' ρ w ok v (r.av 0)):RV B ρ' w ok' v (r.av d):=by cases r with|r x=>exact Ea hρ hk h|tup xs=>obtain⟨us,e,h⟩:=h;exact⟨us,e,AB hρ hk h⟩
theorem GZ (d i j:Nat)(c:RC'):∀id∈(c.ac d i j).ids,id.1=d:=by cases c with|t x=>simp[RC'.ac,AC.ids]|arr sz rows=>intro id MD;simp[RC'.ac,AC.ids]at MD;rw[MD]
theorem Ef (d i:Nat):∀(cs:List RC') (j:Nat),∀id∈(RC'.acs d i j cs).flatMap AC.ids,id.1=d
 | [],_,id,MD=>by simp[RC'.acs]at MD
 | c::cs,j,id,MD=>by
  simp only[RC'.acs,u7,d9]at MD;rcases MD with MD|MD
  ·exact GZ d i j c id MD
  ·exact Ef d i cs (j+1) id MD
theorem ET (d i:Nat)(x:RR'):∀id∈(x.ar d i).ids,id.1=d:=by cases x with|c c=>exact GZ d i 0 c|agg cs=>exact Ef d i cs 0
theorem Eo (d:Nat):∀(xs:List RR') (i:Nat),∀id∈(RR'.ars d i xs).flatMap AR.ids,id.1=d
 | [],_,id,MD=>by simp[RR'.ars]at MD
 | c::cs,i,id,MD=>by
  simp only[RR'.ars,u7,d9]at MD;rcases MD with MD|MD
  ·exact ET d i c id MD
  ·exact Eo d cs (i+1) id MD
theorem av_ids (d:Nat)(r:Res):∀id∈(r.av d).ids,id.1=d:=by cases r with|r x=>exact ET d 0 x|tup xs=>exact Eo d xs 0
theorem JK {d i:Nat}{cs:List RC'}{j:Nat}{o:Id}{x:AO}(h:(o,x)∈RC'.oss d i j cs):∃sz rows,x= .arr true sz rows:=by
 induction cs generalizing j with
 | nil=>simp[RC'.oss]at h
 | cons c cs ih=>
  simp only[RC'.oss,d9]at h;rcases h with h|h
  ·cases c with|t x=>simp[RC'.os]at h|arr sz rows=>simp only[RC'.os,t7,Prod.mk.injEq]at h;exact⟨sz,rows,h.2⟩
  ·exact ih h
theorem DN {d i:Nat}{y:RR'}{o:Id}{x:AO}(h:(o,x)∈y.os d i):∃sz rows,x= .arr true sz rows:=by
 cases y with
 | c c=>cases c with
  | t x=>simp[RR'.os,RC'.os]at h
  | arr sz rows=>simp only[RR'.os,RC'.os,t7,Prod.mk.injEq]at h;exact⟨sz,rows,h.2⟩
 | agg cs=>exact JK h
theorem HN {d i:Nat}{xs:List RR'}{o:Id}{x:AO}(h:(o,x)∈RR'.oss d i xs):∃sz rows,x= .arr true sz rows:=by
 induction xs generalizing i with
 | nil=>simp[RR'.oss]at h
 | cons y xs ih=>
  simp only[RR'.oss,d9]at h;rcases h with h|h
  ·exact DN h
  ·exact ih h
theorem yY {d:Nat}{r:Res}{o:Id}{x:AO}(h:(o,x)∈r.os d):∃sz rows,x= .arr true sz rows:=by cases r with|r x=>exact DN h|tup xs=>exact HN h
theorem ri:∀(us:List (Id×AO)) (H:Id->Option AO) (o:Id) (x:AO),bP H (us.map fun p=>(p.1,some p.2)) o=some x->(o,x)∈us\/(o∉us.map (·.1)/\H o=some x)
 | [],H,o,x,h=> .inr ⟨s_,h⟩
 | p::us,H,o,x,h=>by
  simp only[p7,bP]at h;rcases ri us _ o x h with h'|⟨h1,h2⟩
  ·exact .inl (by simp[h'])
  ·by_cases e:o=p.1
   ·rw[c7 e]at h2;injection h2 with h2;left;rw[e,<-h2];simp
   ·rw[b8 e]at h2;exact .inr ⟨by simp only[p7,d6,e,false_or];exact h1,h2⟩
theorem Conc.result (h:Conc N B M w0 ρ s a w){d:Nat}(hd:d<N)(hU:¬s.U d){r:Res}{v:Value}(hb:Below w.heap.size w w')(hr:vh w.heap.size w' v r)(R:List Id):
  ∃ρ',Conc N B M w0 ρ' (s.app (some d) ⟨r.av d,r.us d,some d,R⟩) (a.put (some d) v) w':=by
 obtain⟨ρr,okp,SN,VM,M3,P1⟩:=hr
 let ρ':Rho:=⟨fun o=>if o.1=d then ρr (0,o.2)else ρ o,fun o c=>o.1≠d/\ρ.fp o c,ρ.al⟩
 have hρ:∀o:Id,s.U o.1->ρ' o=ρ o:=fun o ho=>b8 (fun e:o.1=d=>hU aaM);have MQ:∀q:Nat×Nat,ρ' (d,q)=ρr (0,q):=fun q=>c7 rfl
 have Pp:∀o b,o.1=d->Own ρ' o b->blk (ρr (0,o.2))=some b:=fun o b e h1=>by
  rcases h1 with h1|h1
  ·have:ρ' o=ρr (0,o.2):=c7 e;rwa [this]at h1
  ·exact absurd e h1.1
 have TN:∀o b,s.U o.1->Own ρ' o b->Own ρ o b:=fun o b e h1=>by
  rcases h1 with h1|h1
  ·rw[hρ o e]at h1;exact .inl h1
  ·exact .inr h1.2
 have hT:Turn (fun _=>False) w w':=⟨hb.os,hb.tape,hb.output,hb.size,fun k hk _=>hb.block k hk⟩;have hH:∀o x,bP s.H (r.us d) o=some x->(o,x)∈r.os d\/(o∉(r.os d).map (·.1)/\s.H o=some x):=fun o x ho=>ri (r.os d) s.H o x ho
 have MC:∀b,okp b->okB ρ' (bP s.H (r.us d)) w' b:=by
  intro b ML;refine⟨⟨(SN b ML).1,h.alw b (.inl (v5 h.base (SN b ML).2))⟩,fun o x ho he=>?_⟩;rcases hH o x ho with h1|⟨_,h1⟩
  ·obtain⟨g1,g2⟩:=qE h1;exact((M3 _ _ g2).2 b (Pp o b g1 he)).2.2 ML
  ·have:=(h.rng o x b h1 (TN o b (h.usedH o x h1).1 he)).1;have:=(SN b ML).2;omega
 refine⟨ρ',?_⟩
 have:=h.step (fun _=>False) ((r.os d).map (·.1)) (w':=w') (ρ':=ρ') (H':=bP s.H (r.us d)) (U':=fun n=>s.U n\/n=d) (a':=a.put (some d) v) (L':=nh s.L (some d) (r.av d)) hT aaD aaA hρ
  (fun o x _ ho=>by
   funext c;have:o.1≠d:=fun e=>hU (by rw[<-e];exact(h.usedH o x ho).1)
   exact propext ⟨fun h=>h.2,fun h=>⟨this,h⟩⟩) rfl
  (fun o ho=>cz _ _ o (by simpa [Res.us]using ho)) (fun n hn=> .inl hn) (fun _ _ h=>h) (fun _ _ _ _ _ _ h=>h) (fun _ _ _ h=>h)
  (fun o x b h1 h2 h3=>by
   rcases hH o x h2 with g|⟨g,_⟩
   ·obtain⟨g1,g2⟩:=qE g;have:=(M3 _ _ g2).2 b (Pp o b g1 h3);exact⟨this.2.1,.inl (v5 h.base this.1),.inl this.1⟩
   ·exact absurd h1 g)
  (fun o o' x x' b h1 h2 h3 h4 MF h5 h6=>by
   rcases hH o x h3 with g|⟨g,_⟩
   ·rcases hH o' x' h4 with g'|⟨g',_⟩
    ·obtain⟨e1,e2⟩:=qE g;obtain⟨e3,e4⟩:=qE g';refine P1 _ _ _ _ e2 e4 (fun he=>MF ?_) b (Pp o b e1 h5) (Pp o' b e3 h6);have:o.2=o'.2:=congrArg (·.2) he;exact Prod.ext (e1.trans e3.symm) this
    ·exact absurd h2 g'
   ·exact absurd h1 g)
  (fun hk o x h1 h2=>by
   rcases hH o x h2 with g|⟨g,_⟩
   ·obtain⟨g1,g2⟩:=qE g;have e:ρ' o=ρr (0,o.2):=c7 g1;have hx:=(M3 _ _ g2).1;refine⟨?_,.inr g1,?_⟩
    ·obtain⟨sz,rows,rfl⟩:=yY g2;obtain⟨hu,hx⟩:=hx;refine⟨hu,?_⟩;rcases hx with⟨k1,k2⟩|⟨b,cap,cur,e',fz,k1,k2,k3,k4,k5,k6,k7,k8⟩
     ·exact .inl ⟨by rw[e];exact k1,k2⟩
     ·exact .inr ⟨b,cap,cur,e',fz,by rw[e];exact k1,k2,k3,k4,k5,k6,k7.keep (fun c MB=>⟨rfl,MC c MB.1,fun e=>v5 h.base (MB.2 e)⟩),fun e=>v5 h.base (k8 e)⟩
    ·obtain⟨sz,rows,rfl⟩:=yY g2;simp[AO.ids]
   ·exact absurd h1 g)
  (fun hk t=>h.slots (dst:=some d) (fun d' e=>by injection e with e;omega) (U':=fun n=>s.U n\/n=d) (IZ MQ MC VM) (fun id MD=> .inr (av_ids d r id MD)) t)
 exact this.congr (fun _=>rfl) (fun _=>rfl) (fun n=>by simp[F_.app,eq_comm])
theorem V97{p:Prop}(h:p:=by
 have he:a.eval (.func f)= .func (.func f) #[] #[]:=rfl
 simp[execOp,ho,resolve,he,Deferred.ofValue,invoke,hs.1 _ _]):p:=h
theorem Cl {f:FuncId}{args:Array Operand}{argTypes:Array TypeId}{d:Nat}(MU:o.dst=some d)(ho:o.op= .call {callee:= .value (.func f),args,argTypes}){ts:List TV}{r:Res}(ha:ey H (args.toList.map ev) ts)(hs:Spec P f ts r):
  Good P o ev H ⟨r.av d,r.us d,some d,(args.toList.map ev).flatMap AV.ids⟩:=by
 intro N B M w0 ρ s a w Q K hc Mx hR hn hd hK;rw[MU]at hd hK;have Oj:=yZ hc args.toList ts (fun x hx=>Mx x aak) hR ha;have NE:=hs.2 w (args.map a.eval) (by simpa using Oj)
 have ME:(execOp a.eval o).run P w= .ok (.enter f (args.map a.eval)) w:=by exact V97
 unfold Oper.wp;rw[ME];show Calls P f (args.map a.eval) w _;refine NE.mono fun e w' ⟨v,he,hb,hr⟩=>?_;subst he;obtain⟨ρ',h'⟩:=hc.result (hd d rfl) (hn d rfl) hb hr ((args.toList.map ev).flatMap AV.ids);show K (a.put o.dst v) w';rw[MU];exact hK _ _ ρ' h'
theorem tL {f:FuncId}{args:Array Operand}{argTypes:Array TypeId}(MU:o.dst=none)(ho:o.op= .call {callee:= .value (.func f),args,argTypes}){ts:List TV}{r:Res}(ha:ey H (args.toList.map ev) ts)(hs:Spec P f ts r):
  Good P o ev H ⟨.unk,[],none,(args.toList.map ev).flatMap AV.ids⟩:=by
 intro N B M w0 ρ s a w Q K hc Mx hR hn hd hK;rw[MU]at hd hK;have Oj:=yZ hc args.toList ts (fun x hx=>Mx x aak) hR ha;have NE:=hs.2 w (args.map a.eval) (by simpa using Oj)
 have ME:(execOp a.eval o).run P w= .ok (.enter f (args.map a.eval)) w:=by exact V97
 unfold Oper.wp;rw[ME];show Calls P f (args.map a.eval) w _;refine NE.mono fun e w' ⟨v,he,hb,hr⟩=>?_;subst he;show K (a.put o.dst v) w';rw[MU];refine hK v w' ρ ?_;have hT:Turn (fun _=>False) w w':=⟨hb.os,hb.tape,hb.output,hb.size,fun k hk _=>hb.block k hk⟩
 have:=hc.step (fun _=>False) [] (w':=w') (ρ':=ρ) (H':=s.H) (U':=s.U) (a':=a) (L':=s.L) hT hc.size hc.defers
  (fun _ _=>rfl) (fun _ _ _ _=>rfl) rfl (fun _ _=>rfl) (fun _ h=>h) (fun _ _ h=>h) (fun _ _ _ _ _ _ h=>h) (fun _ _ _ h=>h) s_ s_ s_ (fun _ t=> .inl ⟨rfl,rfl⟩)
 exact this.congr (fun _=>rfl) (fun _=>rfl) (fun n=>by simp[F_.app])
end
end Go.Sim
