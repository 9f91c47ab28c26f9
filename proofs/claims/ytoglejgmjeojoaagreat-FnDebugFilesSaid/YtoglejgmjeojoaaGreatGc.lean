import Derived.Test.YtoglejgmjeojoaaGreatGb
namespace Go.Sim
open Go.RowKit
section
variable {P:Program} {Γ:Env} {N B:Nat} {M:Nat->Prop} {w0:Start} {ρ:Rho} {s:F_} {a:Act} {w:World} {o:Oper} {ev:Operand->AV} {H:Id->Option AO} {K:Eff->Prop} {KV:AV->Prop}
theorem oB:∀(us Uo:List (Id×Option AO)) (H:Id->Option AO),bP H (us++Uo)=bP (bP H us) Uo
 | [],_,_=>rfl
 | p::us,Uo,H=>by rw[p0,bP,oB us Uo];rfl
theorem Conc.ghost (h:Conc N B M w0 ρ s a w)(keys:List Id){ρ':Rho}{H':Id->Option AO}(hρ:∀o,ρ' o=ρ o)(Sh:∀o x,o∉keys->s.H o=some x->ρ'.fp o=ρ.fp o)(OC:ρ'.al=ρ.al)(hH:∀o,o∉keys->H' o=s.H o)
  (OQ:∀o x b,o∈keys->H' o=some x->Own ρ' o b->∃o' x',s.H o'=some x'/\o'∈keys/\Own ρ o' b)
  (Sr:∀o o' x x' b,o∈keys->o'∈keys->H' o=some x->H' o'=some x'->o≠o'->Own ρ' o b->¬Own ρ' o' b)
  (OT:∀(_:∀b,okB ρ s.H w b->okB ρ' H' w b),∀o x,o∈keys->H' o=some x->RO B ρ' w (okB ρ' H' w) o x/\s.U o.1/\∀o'∈x.ids,s.U o'.1):Conc N B M w0 ρ' ⟨s.L,H',s.U⟩ a w:=by
 have:=h.step (fun _=>False) keys (w':=w) (ρ':=ρ') (H':=H') (U':=s.U) (a':=a) (L':=s.L) (Turn.refl _ _) h.size h.defers (fun o _=>hρ o) Sh OC hH (fun _ h=>h) (fun _ _ h=>h) (fun _ _ _ _ _ _ h=>h) (fun _ _ _ h=>h)
  (fun o x b h1 h2 h3=>by
   obtain⟨o',x',g1,g2,g3⟩:=OQ o x b h1 h2 h3;have:=h.rng o' x' b g1 g3
   exact⟨this.1,this.2,.inr ⟨o',x',g1,g2,g3⟩⟩) Sr (fun hk=>OT fun b hb=>(hk b hb).2) (fun _ t=> .inl ⟨rfl,rfl⟩)
 exact this
theorem Conc.close (h:Conc N B M w0 ρ s a w){q n:Id}(Qt:n≠q){sz:Nat}{rows:List (List DC)}{i off:Nat}(hq:s.H q=some (.dar sz rows (some (i,off,n)))){y:AO}(hy:s.H n=some y){t:Nat}{rs:List (List Tr)}
  (Rc:DT w (Own ρ n) (ρ n) (.lst t rs)) {row:List DC} (hr:rows[i]?=some row) (ho:off<sz):
  ∃ρ',Conc N B M w0 ρ' ⟨s.L,bP s.H [(n,none),(q,some (.dar sz (rows.set i (row.set off (.d (.lst t rs)))) none))],s.U⟩ a w:=by
 obtain⟨hu,g⟩:=h.dar hq
 have hi:i<rows.length:=by exact V138
 rcases g with⟨_,g,_⟩|⟨b,cap,cur,e,fz,Fp,g1,g2,g3,g4,g5,g6,g7,g8,g9,g10⟩
 ·subst g;simp at hr
 let ρ':Rho:=⟨ρ.val,fun o c=>ρ.fp o c\/(o=q/\Own ρ n c),ρ.al⟩
 have OG:∀o c,Own ρ' o c↔(Own ρ o c\/(o=q/\Own ρ n c)):=fun o c=>by
  show(blk (ρ o)=some c\/(ρ.fp o c\/(o=q/\Own ρ n c)))↔(Own ρ o c\/(o=q/\Own ρ n c));rw[<-or_assoc];rfl
 have PS:∀o,bP s.H [(n,none),(q,some (.dar sz (rows.set i (row.set off (.d (.lst t rs)))) none))] o=if o=q then some (.dar sz (rows.set i (row.set off (.d (.lst t rs)))) none)else if o=n then none else s.H o:=by intro o;simp only[bP]
 refine⟨ρ',?_⟩;refine h.ghost [q,n] (ρ':=ρ') (fun _=>rfl) (fun o x h1 _=>?_) rfl (fun o h1=>?_) (fun o x c h1 h2 h3=>?_) (fun o o' x x' c h1 h2 h3 h4 Ow=>?_) (fun hk o x h1 h2=>?_)
 ·simp only[d6,j6,or_false,not_or]at h1;funext c;exact propext ⟨fun hc=>hc.elim id fun hc=>absurd hc.1 h1.1,.inl⟩
 ·simp only[d6,j6,or_false,not_or]at h1;rw[PS,c8 h1.1,c8 h1.2]
 ·simp only[d6,j6,or_false]at h1;rw[PS]at h2;rcases h1 with rfl|rfl
  ·rw[OG]at h3;rcases h3 with h3|⟨_,h3⟩
   ·exact⟨o,_,hq,s_,h3⟩
   ·exact⟨n,_,hy,s_,h3⟩
  ·rw[c8 Qt,d5 rfl]at h2;cases h2
 ·exfalso;rw[PS]at h3 h4;simp only[d6,j6,or_false]at h1 h2;rcases h1 with rfl|rfl
  ·rcases h2 with rfl|rfl
   ·exact Ow rfl
   ·rw[c8 Qt,d5 rfl]at h4;cases h4
  ·rw[c8 Qt,d5 rfl]at h3;cases h3
 ·rw[PS]at h2;simp only[d6,j6,or_false]at h1;rcases h1 with rfl|rfl
  ·rw[d5 rfl]at h2;injection h2 with h2;subst h2;have OB:=hu row (b9 hr);have OA:=vf sz rows i off row (.d (.lst t rs)) hu hr ho;refine⟨⟨fun r TX=>?_,.inr ⟨b,cap,cur,e,fz,fun p c=>(p≠i*sz+off/\Fp p c)\/(p=i*sz+off/\Own ρ n c),by rw[s7];exact g1,g2,g3,by rw[s7];exact g4,g5,g6,fun p c hc=>?_,fun p p' c Ow h1 h2=>?_,?_,fun p v d hv hd=>?_⟩⟩,(h.usedH o _ hq).1,by simp[AO.ids]⟩
   ·rcases v5 TX with h'|h'
    ·exact hu r h'
    ·rw[h',s7];exact OB
   ·rcases hc with⟨_,hc⟩|⟨_,hc⟩
    ·exact⟨.inl (g7 p c hc).1,(g7 p c hc).2⟩
    ·refine⟨.inr ⟨rfl,hc⟩,fun e=>?_⟩;subst e;exact h.sep n o y _ c hy hq Qt hc (.inl aai)
   ·rcases h1 with⟨m1,h1⟩|⟨m1,h1⟩<;>rcases h2 with⟨m2,h2⟩|⟨m2,h2⟩
    ·exact g8 p p' c Ow h1 h2
    ·exact h.sep n o y _ c hy hq Qt h2 (.inr (g7 p c h1).1)
    ·exact h.sep n o y _ c hy hq Qt h1 (.inr (g7 p' c h2).1)
    ·omega
   ·rw[s7,OA,s7];exact g9.1
   ·simp only[cb];rw[OA]at hd;rw[s7]at hv;by_cases hp:p=i*sz+off
    ·subst hp
     rw[u4 (by
      rw[<-g9.1];have:=y0.1 hv
      exact this.1)]at hd
     injection hd with hd;subst hd
     have N2:i*sz+off<rows.flatten.length:=by rw[<-g9.1];exact(y0.1 hv).1
     have:=g9.2 _ v _ hv (f9 N2);simp only[cb,if_true]at this;rw[this.1];exact Rc.keep fun c hc=>⟨rfl,.inr ⟨rfl,hc⟩⟩
    ·rw[A0 (fun e=>hp e.symm)]at hd;have:=g9.2 p v d hv hd;simp only[cb,c8 hp]at this;exact RD.keep this (fun b' OO=>⟨rfl,hk b' OO⟩) fun c hc=>⟨rfl,.inl ⟨hp,hc⟩⟩
  ·rw[c8 Qt,d5 rfl]at h2;cases h2
theorem qI {x:AV}{K:(Id->Option AO)->List (Id×Option AO)->List Id->Prop}(hx:sj H x K):∃H' us R,K H' us R/\∀{N B:Nat} {M:Nat->Prop} {w0:Start} {ρ:Rho} {s:F_} {a:Act} {w:World},Conc N B M w0 ρ s a w->
  (∀id∈R,s.H id=H id)->(∃ρ',Conc N B M w0 ρ' ⟨s.L,bP s.H us,s.U⟩ a w)/\∀id,s.H id=H id->bP s.H us id=H' id:=by
 have same:∀{K:(Id->Option AO)->List (Id×Option AO)->List Id->Prop},K H [] []->∃H' us R,K H' us R/\∀{N B:Nat} {M:Nat->Prop} {w0:Start} {ρ:Rho} {s:F_} {a:Act} {w:World},Conc N B M w0 ρ s a w->
   (∀id∈R,s.H id=H id)->(∃ρ',Conc N B M w0 ρ' ⟨s.L,bP s.H us,s.U⟩ a w)/\∀id,s.H id=H id->bP s.H us id=H' id:=
  fun h=>⟨H,[],[],h,fun hc _=>⟨⟨_,hc⟩,fun id N8=>N8⟩⟩
 have agree:∀{s:F_} {q n:Id} {d:AO} (id:Id),s.H id=H id->bP s.H [(n,none),(q,some d)] id=GA (GA H n none) q (some d) id:=by
  intro s q n d id N8
  have he:∀x y:Id,(bif fQ x y then true else false)=decide (x=y):=fun x y=>by
   cases hb:fQ x y with
   | true=>rw[idEq_iff]at hb;simp[hb]
   | false=>symm;simp only[cond_false,n7];intro e;rw[idEq_iff.2 e]at hb;cases hb
  have hb:∀(x y:Id) (A B:Option AO),(bif fQ x y then A else B)=if x=y then A else B:=fun x y A B=>by
   have:=he x y
   cases hb:fQ x y with
   | true=>
        rw[hb]at this;have h2:x=y:=by simpa using this
        simp[h2]
   | false=>
         rw[hb]at this;have h2:¬x=y:=by simpa using this
         simp[h2]
  simp only[bP,GA,hb];by_cases e1:id=q
  ·simp[e1]
  ·have XQ:¬q=id:=fun e=>e1 e.symm;by_cases e2:id=n
   ·subst e2;simp[e1,XQ]
   ·have e2':¬n=id:=fun e=>e2 e.symm;simp[e1,XQ,e2,e2',N8]
 unfold sj at hx;split at hx
 ·rename_i q OD i' Rf;split at hx
  ·rename_i sz rows i off n hq;split at hx
   ·rename_i fr t rs hn hy;obtain⟨OA,row,hr,ho,hK⟩:=hx;have Qt:n≠q:=fun e=>by rw[idEq_iff.2 e]at hn;cases hn
    refine⟨_,_,_,hK,fun hc hR=>⟨?_,agree⟩⟩;have Oy:=(hR q s_).trans hq;have Rg:=(hR n s_).trans hy;exact hc.close Qt Oy Rg (FX hc Rg OA) hr ho
   ·rename_i t rs hn hy;obtain⟨XK,rfl,row,hr,ho,hK⟩:=hx;have Qt:n≠q:=fun e=>by rw[idEq_iff.2 e]at hn;cases hn
    refine⟨_,_,_,hK,fun hc hR=>⟨?_,agree⟩⟩;have Oy:=(hR q s_).trans hq;have Rg:=(hR n s_).trans hy;exact hc.close Qt Oy Rg (Lj hc Rg) hr ho
   ·exact same hx
   ·exact hx.elim
  ·exact same hx
 ·exact same hx
theorem yN {H':Id->Option AO}{us:List (Id×Option AO)}{R:List Id}{e:Eff}(OJ:∀{N B:Nat} {M:Nat->Prop} {w0:Start} {ρ:Rho} {s:F_} {a:Act} {w:World},Conc N B M w0 ρ s a w->
  (∀id∈R,s.H id=H id)->(∃ρ',Conc N B M w0 ρ' ⟨s.L,bP s.H us,s.U⟩ a w)/\∀id,s.H id=H id->bP s.H us id=H' id) (hg:Good P o ev H' e):Good P o ev H ⟨e.v,us++e.us,e.new,R++e.R⟩:=by
 intro N B M w0 ρ s a w Q K hc N4 hR hn hd hK;obtain⟨⟨ρ1,h1⟩,h2⟩:=OJ hc fun id N8=>hR id (by simp[N8]);refine hg N B M w0 ρ1 ⟨s.L,bP s.H us,s.U⟩ a w Q K h1 N4 (fun id N8=>h2 id (hR id (by simp[N8]))) hn hd fun v w' ρ' h'=>hK v w' ρ' ?_;refine h'.congr (fun _=>rfl) (fun o=>?_) fun _=>Iff.rfl;simp only[F_.app,oB]
end
section
variable {P:Program} {Γ:Env} {N B:Nat} {M:Nat->Prop} {w0:Start} {ρ ρ':Rho} {s:F_} {a:Act} {w w':World} {o:Oper} {ev:Operand->AV} {H:Id->Option AO} {K:Eff->Prop} {KV:AV->Prop}
theorem CL {α β:Type}(f:α->β)(l:List (List α)):(l.map (·.map f)).flatten=l.flatten.map f:=(H8 ..).symm
theorem Jp (hc:Conc N B M w0 ρ s a w){ok':Nat->Prop}(hk:∀b,okB ρ s.H w b->ok' b){q:Id}(Oy:∀x b,s.H q=some x->Own ρ q b->ok' b){fr:Bool}{sz:Nat}{rows:List (List Tr)}(hq:s.H q=some (.arr fr sz rows)):RT w ok' (ρ q) (.lst sz rows):=by
 obtain⟨hu,g⟩:=hc.arr hq;rcases g with⟨g1,g2⟩|⟨b,cap,cur,e,fz,g1,g2,g3,g4,g5,g6,g7,g8,g9⟩
 ·subst g2;rw[g1];exact .emp _ _ _ (v4 _)
 ·have hb:=Oy _ b hq (.inl aai);rw[g1];exact .lst _ _ _ _ _ _ rfl g4 g5 hu hb (by rw[g7.length]) g8 fun p v u hv O1=>(g7.get p v u hv O1).keep fun c N6=>⟨rfl,hk c N6.1⟩
theorem Ln (hc:Conc N B M w0 ρ s a w){ok':Nat->Prop}(hk:∀b,okB ρ s.H w b->ok' b){q:Id}(Oy:∀x b,s.H q=some x->Own ρ q b->ok' b){sz:Nat}{rows:List (List DC)}(hq:s.H q=some (.dar sz rows none)):RT w ok' (ρ q) (.lst sz (rows.map (·.map DC.tr))):=by
 obtain⟨hu,g⟩:=hc.dar hq;rcases g with⟨g1,g2,_⟩|⟨b,cap,cur,e,fz,Fp,g1,g2,g3,g4,g5,g6,g7,g8,g9,g10⟩
 ·subst g2;rw[g1];exact .emp _ _ _ (v4 _)
 ·have hb:=Oy _ b hq (.inl aai);rw[g1];refine .lst _ _ _ _ _ _ s_ g4 g5 (fun r hr=>?_) hb (by rw[g9.1,CL,d9]) g10 fun p v u hv O1=>?_
  ·obtain⟨r',h1,rfl⟩:=p6.1 hr;rw[d9];exact hu r' h1
  ·rw[CL,l6]at O1
   cases hd:rows.flatten[p]? with
   | none=>rw[hd]at O1;cases O1
   | some d=>
    rw[hd]at O1;injection O1 with O1;subst O1;have:=g9.2 p v d hv hd;simp only[cb]at this
    cases d with
    | t x=>exact RT.keep this fun c N6=>⟨rfl,hk c N6⟩
    | d x=>exact DT.toRT this fun c N6=>Oy _ c hq (.inr (g7 p c N6).1)
theorem kA (hc:Conc N B M w0 ρ s a w){ok':Nat->Prop}(hk:∀b,okB ρ s.H w b->ok' b){v:Value}{c:AC}{t:Tr}(Oy:∀q∈c.ids,∀x b,s.H q=some x->Own ρ q b->ok' b)(hv:RC B ρ w (okB ρ s.H w) v c)(h:fc s.H c t):RT w ok' v t:=by
 cases c with
 | t x=>cases h;exact RT.keep hv fun b hb=>⟨rfl,hk b hb⟩
 | f x=>cases h;exact RT.keep hv fun b hb=>⟨rfl,hk b hb.1⟩
 | nils n=>
  obtain⟨sz,rfl⟩:=h;have:v= .slice none 0 0:=hv;rw[this]
  exact .emp _ _ _ (v4 _)
 | nilp=>exact h.elim
 | opq=>exact h.elim
 | mpv=>exact h.elim
 | own q=>
  have U0:=Oy q aam;simp only[fc]at h;obtain⟨_,e⟩:=hv;rw[e];split at h
  ·rename_i fr sz rows hq;subst h;exact Jp hc hk U0 hq
  ·rename_i sz rows hq;subst h;exact Ln hc hk U0 hq
  ·exact h.elim
 | sub q k=>
  have U0:=Oy q aam;simp only[fc]at h;obtain⟨A,n,c,e0,e1,e2⟩:=hv;rw[e1]
  have fin:∀(sz:Nat) (rows:List (List Tr)),RT w ok' (.slice A n c) (.lst sz rows)->n=rows.length->RT w ok' (.slice A k c) (.lst sz (rows.take k)):=by
   intro sz rows hf hn;have:=hf.cut 0 k (v4 _) o_;simp only[Nat.zero_mul,Option.map_id',fJ,v3,v6]at this;by_cases h0:c=0
   ·rw[d5 h0]at this;exact this
   ·rw[c8 h0]at this;exact this
  split at h
  ·rename_i fr sz rows hq;subst h;have:=Jp hc hk U0 hq;rw[e0]at this;obtain⟨_,_,hs,_⟩:=this.slice_inv;injection hs with _ hs _;exact fin _ _ this hs
  ·rename_i sz rows hq;subst h;have:=Ln hc hk U0 hq;rw[e0]at this;obtain⟨_,_,hs,_⟩:=this.slice_inv;injection hs with _ hs _;rw[v9];exact fin _ _ this hs
  ·exact h.elim
 | ptr q off=>exact h.elim
theorem zV (hc:Conc N B M w0 ρ s a w){v:Value}{c:AC}{t:Tr}(hv:RC B ρ w (okB ρ s.H w) v c)(h:fc s.H c t):RT w (fun b=>b<w.heap.size) v t:=
 kA hc (fun b hb=>hb.1.1) (fun q _ x b hq hb=>(hc.rng q x b hq hb).1) hv h
theorem yL (hc:Conc N B M w0 ρ s a w):∀{vs:List Value} {cs:List AC} {ts:List Tr},RCs B ρ w (okB ρ s.H w) vs cs->rX s.H cs ts->RTs w (fun b=>b<w.heap.size) vs ts
 | [],[],[],_,_=>trivial
 | _::_,_::_,_::_,h,h'=>⟨zV hc h.1 h'.1,yL hc h.2 h'.2⟩
 | [],_::_,_,h,_=>h.elim
 | _::_,[],_,h,_=>h.elim
 | [],[],_::_,_,h=>h.elim
 | _::_,_::_,[],_,h=>h.elim
theorem Fd (hc:Conc N B M w0 ρ s a w){v:Value}{x:AV}{t:TV}(hv:RV B ρ w (okB ρ s.H w) v x)(h:wu s.H x t):RTV w (fun b=>b<w.heap.size) v t:=by
 cases x with
 | r ar=>
  cases ar with
  | c c=>cases t with|c t=>exact zV hc hv h|agg=>exact h.elim
  | agg cs=>cases t with|c t=>exact h.elim|agg ts=>obtain⟨us,rfl,hr⟩:=hv;exact⟨us,rfl,yL hc hr h⟩
 | tup=>exact h.elim
 | el=>exact h.elim
 | ro=>exact h.elim
 | unk=>exact h.elim
theorem mL {H H':Id->Option AO}{c:AC}{t:Tr}(hH:∀o∈c.ids,H' o=H o)(h:fc H c t):fc H' c t:=by cases c<;>simp only[fc]at h⊢<;> first|exact h|(rw[hH _ aam];exact h)
theorem qC {H H':Id->Option AO}:∀{cs:List AC} {ts:List Tr},(∀o∈cs.flatMap AC.ids,H' o=H o)->rX H cs ts->rX H' cs ts
 | [],[],_,_=>trivial
 | c::cs,t::ts,hH,h=>⟨mL (fun o ho=>hH o aae) h.1,qC (fun o ho=>hH o aaD) h.2⟩
 | [],_::_,_,h=>h.elim
 | _::_,[],_,h=>h.elim
theorem zw {H H':Id->Option AO}{x:AV}{t:TV}(hH:∀o∈x.ids,H' o=H o)(h:wu H x t):wu H' x t:=by
 cases x with
 | r ar=>
  cases ar with
  | c c=>cases t with
   | c t=>exact mL hH h
   | agg=>exact h.elim
  | agg cs=>cases t with
   | c t=>exact h.elim
   | agg ts=>exact qC hH h
 | tup=>exact h.elim
 | el=>exact h.elim
 | ro=>exact h.elim
 | unk=>exact h.elim
theorem Cs (hc:Conc N B M w0 ρ s a w):∀(xs:List Operand) (ts:List TV),(∀x∈xs,evL s.L x=ev x)->(∀o∈(xs.map ev).flatMap AV.ids,s.H o=H o)->eS H (xs.map ev) ts->RTVs w (fun b=>b<w.heap.size) (xs.map a.eval) ts
 | [],[],_,_,_=>trivial
 | x::xs,t::ts,hx,hH,h=>by
  refine⟨Fd hc (x:=ev x) ?_ (zw (fun o ho=>hH o aae) h.1),Cs hc xs ts (fun y hy=>hx y aao) (fun o ho=>hH o (by simp only[n9,s8,f0];exact .inr ho)) h.2⟩;have:=(hc.eval x).1
  rwa [hx x s_]at this
 | [],_::_,_,_,h=>h.elim
 | _::_,[],_,_,h=>h.elim
theorem LF {d i j:Nat}{cs:List RC'}{o:Id}{x:AO}(h:(o,x)∈RC'.oss d i j cs):o.1=d/\((0,o.2),x)∈RC'.oss 0 i j cs:=by
 induction cs generalizing j with
 | nil=>simp[RC'.oss]at h
 | cons c cs ih=>
  simp only[RC'.oss,f0]at h⊢;rcases h with h|h
  ·cases c with|t x=>simp[RC'.os]at h|arr sz rows=>simp only[RC'.os,o9,Prod.mk.injEq]at h;obtain⟨rfl,rfl⟩:=h;exact⟨rfl,.inl (by simp[RC'.os])⟩
  ·exact⟨(ih h).1,.inr (ih h).2⟩
theorem BK {d i:Nat}{x:RR'}{o:Id}{y:AO}(h:(o,y)∈x.os d i):o.1=d/\((0,o.2),y)∈x.os 0 i:=by
 cases x with
 | c c=>cases c with
  | t x=>simp[RR'.os,RC'.os]at h
  | arr sz rows=>simp only[RR'.os,RC'.os,o9,Prod.mk.injEq]at h;obtain⟨rfl,rfl⟩:=h;exact⟨rfl,by simp[RR'.os,RC'.os]⟩
 | agg cs=>exact LF h
theorem Kz {d i:Nat}{xs:List RR'}{o:Id}{y:AO}(h:(o,y)∈RR'.oss d i xs):o.1=d/\((0,o.2),y)∈RR'.oss 0 i xs:=by
 induction xs generalizing i with
 | nil=>simp[RR'.oss]at h
 | cons x xs ih=>
  simp only[RR'.oss,f0]at h⊢;rcases h with h|h
  ·exact⟨(BK h).1,.inl (BK h).2⟩
  ·exact⟨(ih h).1,.inr (ih h).2⟩
theorem sa {d:Nat}{r:Res}{o:Id}{y:AO}(h:(o,y)∈r.os d):o.1=d/\((0,o.2),y)∈r.os 0:=by cases r with|r x=>exact BK h|tup xs=>exact Kz h
theorem GL {B' d i j:Nat}{c:RC'}{v:Value}{ok ok':Nat->Prop}(hρ:∀q:Nat×Nat,ρ' (d,q)=ρ (0,q))(hk:∀b,ok b->ok' b)(h:RC B' ρ w ok v (c.ac 0 i j)):RC B ρ' w ok' v (c.ac d i j):=by
 cases c with
 | t x=>exact RT.keep h fun b hb=>⟨rfl,hk b hb⟩
 | arr sz rows=>obtain⟨⟨A,n,c,e⟩,e1⟩:=h;exact⟨⟨A,n,c,(hρ (i,j)).trans e⟩,e1.trans (hρ (i,j)).symm⟩
theorem Et {B' d i:Nat}{ok ok':Nat->Prop}(hρ:∀q:Nat×Nat,ρ' (d,q)=ρ (0,q))(hk:∀b,ok b->ok' b):∀{cs:List RC'} {j:Nat} {vs:List Value},RCs B' ρ w ok vs (RC'.acs 0 i j cs)->RCs B ρ' w ok' vs (RC'.acs d i j cs)
 | [],_,[],_=>trivial
 | _::_,_,_::_,h=>⟨GL hρ hk h.1,Et hρ hk h.2⟩
 | [],_,_::_,h=>h.elim
 | _::_,_,[],h=>h.elim
theorem GX {B' d i:Nat}{x:RR'}{v:Value}{ok ok':Nat->Prop}(hρ:∀q:Nat×Nat,ρ' (d,q)=ρ (0,q))(hk:∀b,ok b->ok' b)(h:RR B' ρ w ok v (x.ar 0 i)):RR B ρ' w ok' v (x.ar d i):=by cases x with|c c=>exact GL hρ hk h|agg cs=>obtain⟨us,e,h⟩:=h;exact⟨us,e,Et hρ hk h⟩
theorem Dr {B' d:Nat}{ok ok':Nat->Prop}(hρ:∀q:Nat×Nat,ρ' (d,q)=ρ (0,q))(hk:∀b,ok b->ok' b):∀{xs:List RR'} {i:Nat} {vs:List Value},RRs B' ρ w ok vs (RR'.ars 0 i xs)->RRs B ρ' w ok' vs (RR'.ars d i xs)
 | [],_,[],_=>trivial
 | _::_,_,_::_,h=>⟨GX hρ hk h.1,Dr hρ hk h.2⟩
 | [],_,_::_,h=>h.elim
 | _::_,_,[],h=>h.elim
theorem Lz {B' d:Nat}{r:Res}{v:Value}{ok ok':Nat->Prop}(hρ:∀q:Nat×Nat,ρ' (d,q)=ρ (0,q))(hk:∀b,ok b->ok' b)(h:RV B' ρ w ok v (r.av 0)):RV B ρ' w ok' v (r.av d):=by cases r with|r x=>exact GX hρ hk h|tup xs=>obtain⟨us,e,h⟩:=h;exact⟨us,e,Dr hρ hk h⟩
theorem Lg (d i j:Nat)(c:RC'):∀id∈(c.ac d i j).ids,id.1=d:=by cases c with|t x=>simp[RC'.ac,AC.ids]|arr sz rows=>intro id N8;simp[RC'.ac,AC.ids]at N8;rw[N8]
theorem HI (d i:Nat):∀(cs:List RC') (j:Nat),∀id∈(RC'.acs d i j cs).flatMap AC.ids,id.1=d
 | [],_,id,N8=>by simp[RC'.acs]at N8
 | c::cs,j,id,N8=>by
  simp only[RC'.acs,s8,f0]at N8;rcases N8 with N8|N8
  ·exact Lg d i j c id N8
  ·exact HI d i cs (j+1) id N8
theorem Hv (d i:Nat)(x:RR'):∀id∈(x.ar d i).ids,id.1=d:=by cases x with|c c=>exact Lg d i 0 c|agg cs=>exact HI d i cs 0
theorem HD (d:Nat):∀(xs:List RR') (i:Nat),∀id∈(RR'.ars d i xs).flatMap AR.ids,id.1=d
 | [],_,id,N8=>by simp[RR'.ars]at N8
 | c::cs,i,id,N8=>by
  simp only[RR'.ars,s8,f0]at N8;rcases N8 with N8|N8
  ·exact Hv d i c id N8
  ·exact HD d cs (i+1) id N8
theorem av_ids (d:Nat)(r:Res):∀id∈(r.av d).ids,id.1=d:=by cases r with|r x=>exact Hv d 0 x|tup xs=>exact HD d xs 0
theorem Lw {d i:Nat}{cs:List RC'}{j:Nat}{o:Id}{x:AO}(h:(o,x)∈RC'.oss d i j cs):∃sz rows,x= .arr true sz rows:=by
 induction cs generalizing j with
 | nil=>simp[RC'.oss]at h
 | cons c cs ih=>
  simp only[RC'.oss,f0]at h;rcases h with h|h
  ·cases c with|t x=>simp[RC'.os]at h|arr sz rows=>simp only[RC'.os,o9,Prod.mk.injEq]at h;exact⟨sz,rows,h.2⟩
  ·exact ih h
theorem GR {d i:Nat}{y:RR'}{o:Id}{x:AO}(h:(o,x)∈y.os d i):∃sz rows,x= .arr true sz rows:=by
 cases y with
 | c c=>cases c with
  | t x=>simp[RR'.os,RC'.os]at h
  | arr sz rows=>simp only[RR'.os,RC'.os,o9,Prod.mk.injEq]at h;exact⟨sz,rows,h.2⟩
 | agg cs=>exact Lw h
theorem Jq {d i:Nat}{xs:List RR'}{o:Id}{x:AO}(h:(o,x)∈RR'.oss d i xs):∃sz rows,x= .arr true sz rows:=by
 induction xs generalizing i with
 | nil=>simp[RR'.oss]at h
 | cons y xs ih=>
  simp only[RR'.oss,f0]at h;rcases h with h|h
  ·exact GR h
  ·exact ih h
theorem BZ {d:Nat}{r:Res}{o:Id}{x:AO}(h:(o,x)∈r.os d):∃sz rows,x= .arr true sz rows:=by cases r with|r x=>exact GR h|tup xs=>exact Jq h
theorem uk:∀(us:List (Id×AO)) (H:Id->Option AO) (o:Id) (x:AO),bP H (us.map fun p=>(p.1,some p.2)) o=some x->(o,x)∈us\/(o∉us.map (·.1)/\H o=some x)
 | [],H,o,x,h=> .inr ⟨s_,h⟩
 | p::us,H,o,x,h=>by
  simp only[n9,bP]at h;rcases uk us _ o x h with h'|⟨h1,h2⟩
  ·exact .inl (by simp[h'])
  ·by_cases e:o=p.1
   ·rw[d5 e]at h2;injection h2 with h2;left;rw[e,<-h2];simp
   ·rw[c8 e]at h2;exact .inr ⟨by simp only[n9,d6,e,false_or];exact h1,h2⟩
theorem Conc.result (h:Conc N B M w0 ρ s a w){d:Nat}(hd:d<N)(hU:¬s.U d){r:Res}{v:Value}(hb:Below w.heap.size w w')(hr:yr w.heap.size w' v r)(R:List Id):
  ∃ρ',Conc N B M w0 ρ' (s.app (some d) ⟨r.av d,r.us d,some d,R⟩) (a.put (some d) v) w':=by
 obtain⟨ρr,okp,U4,WA,OT,Sr⟩:=hr
 let ρ':Rho:=⟨fun o=>if o.1=d then ρr (0,o.2)else ρ o,fun o c=>o.1≠d/\ρ.fp o c,ρ.al⟩
 have hρ:∀o:Id,s.U o.1->ρ' o=ρ o:=fun o ho=>c8 (fun e:o.1=d=>hU aaQ);have OQ:∀q:Nat×Nat,ρ' (d,q)=ρr (0,q):=fun q=>d5 rfl
 have Rt:∀o b,o.1=d->Own ρ' o b->blk (ρr (0,o.2))=some b:=fun o b e h1=>by
  rcases h1 with h1|h1
  ·have:ρ' o=ρr (0,o.2):=d5 e;rwa [this]at h1
  ·exact absurd e h1.1
 have Wv:∀o b,s.U o.1->Own ρ' o b->Own ρ o b:=fun o b e h1=>by
  rcases h1 with h1|h1
  ·rw[hρ o e]at h1;exact .inl h1
  ·exact .inr h1.2
 have hT:Turn (fun _=>False) w w':=⟨hb.os,hb.tape,hb.output,hb.size,fun k hk _=>hb.block k hk⟩;have hH:∀o x,bP s.H (r.us d) o=some x->(o,x)∈r.os d\/(o∉(r.os d).map (·.1)/\s.H o=some x):=fun o x ho=>uk (r.os d) s.H o x ho
 have N7:∀b,okp b->okB ρ' (bP s.H (r.us d)) w' b:=by
  intro b OO;refine⟨⟨(U4 b OO).1,h.alw b (.inl (t7 h.base (U4 b OO).2))⟩,fun o x ho he=>?_⟩;rcases hH o x ho with h1|⟨_,h1⟩
  ·obtain⟨g1,g2⟩:=sa h1;exact((OT _ _ g2).2 b (Rt o b g1 he)).2.2 OO
  ·have:=(h.rng o x b h1 (Wv o b (h.usedH o x h1).1 he)).1;have:=(U4 b OO).2;omega
 refine⟨ρ',?_⟩
 have:=h.step (fun _=>False) ((r.os d).map (·.1)) (w':=w') (ρ':=ρ') (H':=bP s.H (r.us d)) (U':=fun n=>s.U n\/n=d) (a':=a.put (some d) v) (L':=nC s.L (some d) (r.av d)) hT aaH aaE hρ
  (fun o x _ ho=>by
   funext c;have:o.1≠d:=fun e=>hU (by rw[<-e];exact(h.usedH o x ho).1)
   exact propext ⟨fun h=>h.2,fun h=>⟨this,h⟩⟩) rfl
  (fun o ho=>cY _ _ o (by simpa [Res.us]using ho)) (fun n hn=> .inl hn) (fun _ _ h=>h) (fun _ _ _ _ _ _ h=>h) (fun _ _ _ h=>h)
  (fun o x b h1 h2 h3=>by
   rcases hH o x h2 with g|⟨g,_⟩
   ·obtain⟨g1,g2⟩:=sa g;have:=(OT _ _ g2).2 b (Rt o b g1 h3);exact⟨this.2.1,.inl (t7 h.base this.1),.inl this.1⟩
   ·exact absurd h1 g)
  (fun o o' x x' b h1 h2 h3 h4 Ow h5 h6=>by
   rcases hH o x h3 with g|⟨g,_⟩
   ·rcases hH o' x' h4 with g'|⟨g',_⟩
    ·obtain⟨e1,e2⟩:=sa g;obtain⟨e3,e4⟩:=sa g';refine Sr _ _ _ _ e2 e4 (fun he=>Ow ?_) b (Rt o b e1 h5) (Rt o' b e3 h6);have:o.2=o'.2:=congrArg (·.2) he;exact Prod.ext (e1.trans e3.symm) this
    ·exact absurd h2 g'
   ·exact absurd h1 g)
  (fun hk o x h1 h2=>by
   rcases hH o x h2 with g|⟨g,_⟩
   ·obtain⟨g1,g2⟩:=sa g;have e:ρ' o=ρr (0,o.2):=d5 g1;have hx:=(OT _ _ g2).1;refine⟨?_,.inr g1,?_⟩
    ·obtain⟨sz,rows,rfl⟩:=BZ g2;obtain⟨hu,hx⟩:=hx;refine⟨hu,?_⟩;rcases hx with⟨k1,k2⟩|⟨b,cap,cur,e',fz,k1,k2,k3,k4,k5,k6,k7,k8⟩
     ·exact .inl ⟨by rw[e];exact k1,k2⟩
     ·exact .inr ⟨b,cap,cur,e',fz,by rw[e];exact k1,k2,k3,k4,k5,k6,k7.keep (fun c N6=>⟨rfl,N7 c N6.1,fun e=>t7 h.base (N6.2 e)⟩),fun e=>t7 h.base (k8 e)⟩
    ·obtain⟨sz,rows,rfl⟩:=BZ g2;simp[AO.ids]
   ·exact absurd h1 g)
  (fun hk t=>h.slots (dst:=some d) (fun d' e=>by injection e with e;omega) (U':=fun n=>s.U n\/n=d) (Lz OQ N7 WA) (fun id N8=> .inr (av_ids d r id N8)) t)
 exact this.congr (fun _=>rfl) (fun _=>rfl) (fun n=>by simp[F_.app,eq_comm])
theorem V130{p:Prop}(h:p:=by
 have he:a.eval (.func f)= .func (.func f) #[] #[]:=rfl
 simp[execOp,ho,resolve,he,Deferred.ofValue,invoke,hs.1 _ _]):p:=h
theorem Gm {f:FuncId}{args:Array Operand}{argTypes:Array TypeId}{d:Nat}(OP:o.dst=some d)(ho:o.op= .call {callee:= .value (.func f),args,argTypes}){ts:List TV}{r:Res}(ha:eS H (args.toList.map ev) ts)(hs:Spec P f ts r):
  Good P o ev H ⟨r.av d,r.us d,some d,(args.toList.map ev).flatMap AV.ids⟩:=by
 intro N B M w0 ρ s a w Q K hc N4 hR hn hd hK;rw[OP]at hd hK;have Sv:=Cs hc args.toList ts (fun x hx=>N4 x aak) hR ha;have Pa:=hs.2 w (args.map a.eval) (by simpa using Sv)
 have N9:(execOp a.eval o).run P w= .ok (.enter f (args.map a.eval)) w:=by exact V130
 unfold Oper.wp;rw[N9];show Calls P f (args.map a.eval) w _;refine Pa.mono fun e w' ⟨v,he,hb,hr⟩=>?_;subst he;obtain⟨ρ',h'⟩:=hc.result (hd d rfl) (hn d rfl) hb hr ((args.toList.map ev).flatMap AV.ids);show K (a.put o.dst v) w';rw[OP];exact hK _ _ ρ' h'
theorem vE {f:FuncId}{args:Array Operand}{argTypes:Array TypeId}(OP:o.dst=none)(ho:o.op= .call {callee:= .value (.func f),args,argTypes}){ts:List TV}{r:Res}(ha:eS H (args.toList.map ev) ts)(hs:Spec P f ts r):
  Good P o ev H ⟨.unk,[],none,(args.toList.map ev).flatMap AV.ids⟩:=by
 intro N B M w0 ρ s a w Q K hc N4 hR hn hd hK;rw[OP]at hd hK;have Sv:=Cs hc args.toList ts (fun x hx=>N4 x aak) hR ha;have Pa:=hs.2 w (args.map a.eval) (by simpa using Sv)
 have N9:(execOp a.eval o).run P w= .ok (.enter f (args.map a.eval)) w:=by exact V130
 unfold Oper.wp;rw[N9];show Calls P f (args.map a.eval) w _;refine Pa.mono fun e w' ⟨v,he,hb,hr⟩=>?_;subst he;show K (a.put o.dst v) w';rw[OP];refine hK v w' ρ ?_;have hT:Turn (fun _=>False) w w':=⟨hb.os,hb.tape,hb.output,hb.size,fun k hk _=>hb.block k hk⟩
 have:=hc.step (fun _=>False) [] (w':=w') (ρ':=ρ) (H':=s.H) (U':=s.U) (a':=a) (L':=s.L) hT hc.size hc.defers
  (fun _ _=>rfl) (fun _ _ _ _=>rfl) rfl (fun _ _=>rfl) (fun _ h=>h) (fun _ _ h=>h) (fun _ _ _ _ _ _ h=>h) (fun _ _ _ h=>h) s_ s_ s_ (fun _ t=> .inl ⟨rfl,rfl⟩)
 exact this.congr (fun _=>rfl) (fun _=>rfl) (fun n=>by simp[F_.app])
end
section
variable {P:Program} {Γ:Env} {N B:Nat} {M:Nat->Prop} {w0:Start} {ρ:Rho} {s:F_} {a:Act} {w:World} {o:Oper} {ev:Operand->AV} {H:Id->Option AO} {K:Eff->Prop} {KV:AV->Prop}
theorem Lc (x y:List UInt8):((⟨x.toArray⟩:ByteArray)==⟨y.toArray⟩)=(x==y):=by
 cases h:(x==y)with
 | true=>
  have e:x=y:=by simpa using h
  subst e
  exact(Go.MapKept.bytes_beq _ _).2 rfl
 | false=>
  cases h2:((⟨x.toArray⟩:ByteArray)==⟨y.toArray⟩)with
  | false=>rfl
  | true=>have e:=(Go.MapKept.bytes_beq _ _).1 h2;injection e with e;have:x=y:=(by simpa using e);subst this;simp at h
theorem lw {d:TypeDesc}{kk:Option IntKind}(hd:(∃k,d= .int k/\kk=some k)\/(d= .string/\kk=none)){x y:Tr}(hx:dU kk x)(hy:dU kk y):
  Instr.sameNow d (la x) (la y)=some (cN x y)/\Go.MapKept.IsKey d (la x):=by
 rcases hd with⟨k,rfl,rfl⟩|⟨rfl,rfl⟩
 ·cases x<;>simp only[dU]at hx
  cases y<;>simp only[dU]at hy
  subst hx;subst hy;simp[la,Instr.sameNow,cN,Go.MapKept.IsKey]
 ·cases x<;>simp only[dU]at hx
  cases y<;>simp only[dU]at hy
  refine⟨?_,trivial⟩;show some _=some _;rw[Lc];rfl
theorem AY {kk:Option IntKind}{x y:Tr}(hx:dU kk x)(hy:dU kk y)(h:cN x y=true):la x=la y:=by
 cases kk with
 | some k=>
  cases x<;>simp only[dU]at hx
  cases y<;>simp only[dU]at hy
  subst hx;subst hy;simp only[cN,x7]at h
  rw[h]
 | none=>
  cases x<;>simp only[dU]at hx
  cases y<;>simp only[dU]at hy
  simp only[cN,x7]at h;rw[h]
theorem tn {d:TypeDesc}{kk:Option IntKind}(hd:(∃k,d= .int k/\kk=some k)\/(d= .string/\kk=none)){key:Tr}(hk:dU kk key):∀(l:List MapEntry) (es:List (Tr×Int)) (i:Nat),l.map (fun e=>(e.key,e.val))=es.map Ev->(∀p∈es,dU kk p.1)->
  (Instr.findNow d (la key) l i=some none/\bQ es key=none/\(∀v,cU es key v=es++[(key,v)])/\iE es key=es)\/
  ∃j e q n,Instr.findNow d (la key) l i=some (some (i+j,.int .i64 n))/\l[j]?=some e/\e.key=la key/\bQ es key=some n/\es[j]?=some (q,n)/\la q=la key/\(∀v,cU es key v=es.set j (q,v))/\iE es key=es.eraseIdx j
 | [],[],i,_,_=> .inl ⟨rfl,rfl,fun _=>rfl,rfl⟩
 | [],_::_,_,h,_=>by simp at h
 | _::_,[],_,h,_=>by simp at h
 | e::l,(q,n)::es,i,h,hf=>by
  simp only[n9,List.cons.injEq,Ev,Prod.mk.injEq]at h;obtain⟨⟨h1,h2⟩,h3⟩:=h;obtain⟨hs,_⟩:=lw hd hk (hf (q,n) s_);have hq:=hf (q,n) s_
  cases hb:cN key q with
  | true=>
   rw[hb]at hs;refine .inr ⟨0,e,q,n,?_,rfl,?_,?_,rfl,(AY hk hq hb).symm,fun v=>?_,?_⟩
   ·simp only[Instr.findNow,h1,hs,h2,w9]
   ·rw[h1];exact(AY hk hq hb).symm
   ·simp[bQ,eP,hb]
   ·simp[cU,lI,hb]
   ·simp[iE,qr,hb]
  | false=>
   rw[hb]at hs;rcases tn hd hk l es (i+1) h3 (fun p hp=>hf p (by simp[hp]))with⟨g1,g2,g3,g4⟩|⟨j,e',q',n',g1,g2,g3,g4,g5,g6,g7,g8⟩
   ·refine .inl ⟨?_,?_,fun v=>?_,?_⟩
    ·simp only[Instr.findNow,h1,hs,g1]
    ·have Tg:=g2;unfold bQ at Tg;simp[bQ,eP,hb,Tg]
    ·have Tx:=g3 v;unfold cU at Tx;simp[cU,lI,hb,Tx]
    ·have U8:=g4;unfold iE at U8;simp[iE,qr,hb,U8]
   ·refine .inr ⟨j+1,e',q',n',?_,by simpa using g2,g3,?_,by simpa using g5,g6,fun v=>?_,?_⟩
    ·simp only[Instr.findNow,h1,hs,g1];congr 3;omega
    ·have U8:=g4;unfold bQ at U8;simp[bQ,eP,hb,U8]
    ·have g7':=g7 v;unfold cU at g7';simp[cU,lI,hb,g7']
    ·have g8':=g8;unfold iE at g8';simp[iE,qr,hb,g8']
theorem lY {α β:Type}(f:α->β):∀(l:List α) (j:Nat),(l.eraseIdx j).map f=(l.map f).eraseIdx j
 | [],_=>rfl
 | _::_,0=>rfl
 | x::l,j+1=>by simp[lY f l j]
theorem oC (hΓ:Γ.chk P=true){T:TypeId}{kk:Option IntKind}(h:pJ Γ T=some kk):∃kt et d i,P.underlying T=some (.map kt et)/\P.underlying kt=some d/\((∃k,d= .int k/\kk=some k)\/(d= .string/\kk=none))/\P.info? et=some i/\i.zero=some (.int .i64 0):=by
 unfold pJ at h
 cases hT:Γ.get T with
 | none=>rw[hT]at h;cases h
 | some ti=>
  rw[hT]at h;dsimp only at h;obtain⟨ii,d,fit⟩:=Env.fit hΓ hT;have hm:=fit.map;rw[h]at hm
  cases d<;>simp only[Jm]at hm<;>try(cases hm;done)
  rename_i kt et;split at hm
  ·rename_i i hi;split at hm
   ·rename_i n hz;split at hm
    ·rename_i k h1 h2;injection hm with hm;have:n=0:=m6 h1;subst this;exact⟨kt,et,_,i,fit.und,h2,.inl ⟨k,rfl,hm.symm⟩,hi,hz⟩
    ·rename_i h1 h2;injection hm with hm;have:n=0:=m6 h1;subst this;exact⟨kt,et,_,i,fit.und,h2,.inr ⟨rfl,hm.symm⟩,hi,hz⟩
    ·cases hm
   ·cases hm
  ·cases hm
theorem Conc.mp (hc:Conc N B M w0 ρ s a w){q:Id}{kk:Option IntKind}{es:List (Tr×Int)}(h:s.H q=some (.mp kk es)):∃b ents clock,ρ q= .map (some b)/\w.heap[b]?=some (.map ents clock)/\ents.toList.map (fun e=>(e.key,e.val))=es.map Ev/\∀p∈es,dU kk p.1:=hc.obj q _ h
theorem Turn.setBlock (w:World)(b:Nat){ents:Array MapEntry}{clock:Nat}(hb:w.heap[b]?=some (.map ents clock))(x:Obj):Turn (fun k=>k=b) w (Go.ChangeMaps.setBlock w b x):=
 ⟨rfl,rfl,rfl,by simp[Go.ChangeMaps.setBlock],fun k _ hk=>Go.ChangeMaps.heap_setBlock_other hb x hk⟩
theorem Bj {ok:Nat->Prop}{v:Value}{x:Tr}{kk:Option IntKind}(hk:dU kk x)(h:RT w ok v x):v=la x:=by
 cases x with
 | lst=>cases kk<;>exact hk.elim
 | bool=>cases kk<;>exact hk.elim
 | int k n=>cases h;rfl
 | str b=>cases h;rfl
theorem zz {T:TypeId}{d:Nat}{kk:Option IntKind}(OP:o.dst=some d)(ho:o.op= .makeMap T none):
  Good P o ev H ⟨.r (.c (.mpv (d,0,0))),[((d,0,0),some (.mp kk []))],some d,[]⟩:=by
 intro N B M w0 ρ s a w Q K hc N4 hR hn hd hK;rw[OP]at hd hK
 obtain⟨ρ',h'⟩:=hc.make (hd d rfl) (hn d rfl) (D:=fun _=>False) [] (Turn.alloc _ _ (.map #[] 0)) (v:= .map (some w.heap.size)) (vv:= .map (some w.heap.size)) (x:= .mp kk []) (av:= .r (.c (.mpv (d,0,0)))) (R:=[]) (fun _=>False) (fun _ h=>h.elim) (fun b hb=>by
   injection hb with hb;subst hb;exact⟨s_,.inl (d7 _)⟩) (fun _ h=>h.elim) aaP (fun id N8=>by
   simp[AV.ids,AR.ids,AC.ids]at N8;left;rw[N8]) (fun ρ' ok' hk _ hρ hq _=>⟨⟨w.heap.size,#[],0,hq,mE w _,rfl,s_⟩,⟨_,hq⟩,hq.symm⟩)
 have N9:(execOp a.eval o).run P w= .ok (.value (.map (some w.heap.size))) (w.alloc (.map #[] 0)):=by simp[execOp,ho,Instr.makeMap]
 exact V145
theorem CB {T:TypeId}{x k:Operand}{c:Bool}(hΓ:Γ.chk P=true)(ho:o.op= .lookup T x k c)(h:um Γ T (ev x) (ev k) c H K):∃e,K e/\Good P o ev H e:=by
 have Oz:x∈o.op.operands.toList:=by simp[ho,Op.operands]
 have SB:k∈o.op.operands.toList:=by simp[ho,Op.operands]
 unfold um at h;split at h
 ·rename_i q key hx Va;split at h
  ·rename_i kk es hq;obtain⟨hm,hf,h⟩:=h;obtain⟨kt,et,d,i,u1,u2,hd,hi,hz⟩:=oC hΓ hm
   have base:∀(N B:Nat) (M:Nat->Prop) (w0:Start) (ρ:Rho) (s:F_) (a:Act) (w:World),Conc N B M w0 ρ s a w->(∀x∈o.op.operands.toList,evL s.L x=ev x)->s.H q=H q->
     (Instr.lookup T (a.eval x) (a.eval k) c).run P w= .ok (if c then .tuple #[.int .i64 (mi (bQ es key)),.bool (bQ es key).isSome]else .int .i64 (mi (bQ es key))) w:=by
    intro N B M w0 ρ s a w hc N4 hR;obtain⟨b,ents,clock,g1,g2,g3,g4⟩:=hc.mp (hR.trans hq);have QV:=(hc.eval x).1;rw[N4 x Oz,hx]at QV;have ZM:=(hc.eval k).1;rw[N4 k SB,Va]at ZM;have ex:a.eval x= .map (some b):=(by rw[<-g1];exact QV.2);have ek:a.eval k=la key:=Bj hf ZM;have QL:=(lw hd hf hf).2;rw[ex,ek];have WE:=fT (w:=w) hi hz;rcases tn hd hf ents.toList es 0 g3 g4 with⟨f1,f2,_,_⟩|⟨j,e,q',n,f1,_,_,f4,_⟩
    ·rw[f2]
     cases c<;>simp[Instr.lookup,run_underlying u1,Go.MapKept.run_getObj_map g2,Go.MapKept.run_checkKey u2 QL,Go.MapKept.run_findKey u2 f1,WE,Result.andThen,mi]
    ·rw[f4]
     cases c<;>simp[Instr.lookup,run_underlying u1,Go.MapKept.run_getObj_map g2,Go.MapKept.run_checkKey u2 QL,Go.MapKept.run_findKey u2 f1,Result.andThen,mi]
   cases c with
   | true=>
    refine⟨_,h,aF fun N B M w0 ρ s a w hc N4 hR=>?_⟩;have:=base N B M w0 ρ s a w hc N4 (hR q s_)
    exact⟨_,by simp only[execOp,ho,m8,this,i7,p7];rfl,⟨#[.int .i64 (mi (bQ es key)),.bool (bQ es key).isSome],rfl,(show RRs _ _ _ _ [_,_] [_,_] from⟨RT.int _ _,RT.bool _,trivial⟩)⟩,by simp[AV.ids,AR.ids,AC.ids]⟩
   | false=>refine⟨_,h,aF fun N B M w0 ρ s a w hc N4 hR=>?_⟩;have:=base N B M w0 ρ s a w hc N4 (hR q s_);exact⟨_,by simp only[execOp,ho,m8,this,i7,p7];rfl,RT.int _ _,by simp[AV.ids,AR.ids,AC.ids]⟩
  ·exact h.elim
 ·exact h.elim
theorem Br {T:TypeId}{x k v:Operand}(hΓ:Γ.chk P=true)(ho:o.op= .mapUpdate T x k v\/o.op= .insert T x k v)(h:tY Γ T (ev x) (ev k) (ev v) H K):∃e,K e/\Good P o ev H e:=by
 have Oz:x∈o.op.operands.toList:=by rcases ho with ho|ho<;>simp[ho,Op.operands]
 have SB:k∈o.op.operands.toList:=by rcases ho with ho|ho<;>simp[ho,Op.operands]
 have Zy:v∈o.op.operands.toList:=by rcases ho with ho|ho<;>simp[ho,Op.operands]
 unfold tY at h;split at h
 ·rename_i q key n hx Va QV;split at h
  ·rename_i kk es hq;obtain⟨hm,hf,h⟩:=h;obtain⟨kt,et,d,i,u1,u2,hd,hi,hz⟩:=oC hΓ hm;refine⟨_,h,?_⟩;intro N B M w0 ρ s a w Q K hc N4 hR OQ To hK;have Oy:s.H q=some (.mp kk es):=(by rw[hR q s_];exact hq);obtain⟨b,ents,clock,g1,g2,g3,g4⟩:=hc.mp Oy;have e1:=(hc.eval x).1;rw[N4 x Oz,hx]at e1;have e2:=(hc.eval k).1;rw[N4 k SB,Va]at e2;have e3:=(hc.eval v).1;rw[N4 v Zy,QV]at e3;have ex:a.eval x= .map (some b):=(by rw[<-g1];exact e1.2);have ek:a.eval k=la key:=Bj hf e2;have evv:a.eval v= .int .i64 n:=cS e3;have QL:=(lw hd hf hf).2
   have fin:∀(Pd:Array MapEntry) (P4:Nat) (Pu:List (Tr×Int)),(Instr.mapUpdate T (.map (some b)) (la key) (.int .i64 n)).run P w= .ok () (Go.ChangeMaps.setBlock w b (.map Pd P4))->Pd.toList.map (fun e=>(e.key,e.val))=Pu.map Ev->(∀p∈Pu,dU kk p.1)->Pu=cU es key n->o.wp P a w K Q:=by
    intro Pd P4 Pu N9 k1 k2 k3;subst k3;obtain⟨ρ',this⟩:=hc.upd Oy (x':= .mp kk (cU es key n)) (b:=b) aai [] s_ (fun _=>False) (fun _ h=>h.elim) (Turn.setBlock w b g2 (.map Pd P4)) aaP (fun ρ' ok' hρ _ hk _ _ _=>⟨b,Pd,P4,by rw[hρ];exact g1,Go.ChangeMaps.heap_setBlock_same g2 _,k1,k2⟩) To undef [q]
    have O8:(execOp a.eval o).run P w= .ok .skip (Go.ChangeMaps.setBlock w b (.map Pd P4)):=by rcases ho with ho|ho<;>simp only[execOp,ho,ex,ek,evv,m8,N9,i7,p7]
    unfold Oper.wp;rw[O8];exact hK _ _ ρ' this
   rcases tn hd hf ents.toList es 0 g3 g4 with⟨f1,f2,f3,_⟩|⟨j,e,q',n',f1,f2,f3,f4,f5,f6,f7,_⟩
   ·refine fin (ents.push {key:=la key,val:= .int .i64 n,born:=clock}) (clock+1) (es++[(key,n)]) ?_ ?_ ?_ (f3 n).symm
    ·simp[Instr.mapUpdate,run_underlying u1,Go.MapKept.run_getObj_map g2,Go.MapKept.run_checkKey u2 QL,Go.MapKept.run_findKey u2 f1,Go.MapKept.run_setObj_map _ g2,Result.andThen,Go.ChangeMaps.setBlock]
    ·simp[g3,Ev]
    ·intro p hp;rcases f0.1 hp with hp|hp
     ·exact g4 p hp
     ·rw[o9.1 hp];exact hf
   ·have Vb:ents[j]?=some e:=(by simpa using f2);refine fin (ents.modify j fun e=>{e with key:=la key,val:= .int .i64 n}) clock (es.set j (q',n)) ?_ ?_ ?_ (f7 n).symm
    ·have SQ:(((ents[j]?).map (·.key)).getD (la key))=la key:=(by rw[Vb];simpa using f3);simp[Instr.mapUpdate,run_underlying u1,Go.MapKept.run_getObj_map g2,Go.MapKept.run_checkKey u2 QL,Go.MapKept.run_findKey u2 f1,SQ,Go.MapKept.run_keyThatStays QL,Go.MapKept.run_setObj_map _ g2,Result.andThen,Go.ChangeMaps.setBlock]
    ·apply C2;intro m;have gm:=congrArg (·[m]?) g3;simp only[l6,Array.getElem?_toList,Array.getElem?_modify,F3]at gm⊢;by_cases UU:j=m
     ·subst UU;have N2:j<es.length:=(by rcases l9 j es.length with h|h;exact h;rw[e9 h]at f5;cases f5);simp[Vb,N2,Ev,f6]
     ·simp[UU]at gm⊢;exact gm
    ·intro p hp;rcases v5 hp with hp|rfl
     ·exact g4 p hp
     ·exact g4 (q',n') (b9 f5)
  ·exact h.elim
 ·exact h.elim
theorem V69{p:Prop}(h:p:=by
 simp[Builtin.delete_,run_underlying u1,Go.MapKept.run_getObj_map g2,Go.MapKept.run_checkKey u2 QL,Go.MapKept.run_findKey u2 f1,Go.MapKept.run_setObj_map _ g2,Result.andThen,Go.ChangeMaps.setBlock]):p:=h
theorem BV {T T2:TypeId}{x k:Operand}(hΓ:Γ.chk P=true)(ho:o.op= .call {callee:= .builtin .delete,args:=⟨[x,k]⟩,argTypes:=⟨[T,T2]⟩})(h:ul Γ T (ev x) (ev k) H K):∃e,K e/\Good P o ev H e:=by
 have Oz:x∈o.op.operands.toList:=by simp[ho,Op.operands,Call.operands]
 have SB:k∈o.op.operands.toList:=by simp[ho,Op.operands,Call.operands]
 unfold ul at h;split at h
 ·rename_i q key hx Va;split at h
  ·rename_i kk es hq;obtain⟨hm,hf,h⟩:=h;obtain⟨kt,et,d,i,u1,u2,hd,hi,hz⟩:=oC hΓ hm;refine⟨_,h,?_⟩;intro N B M w0 ρ s a w Q K hc N4 hR OQ To hK;have Oy:s.H q=some (.mp kk es):=(by rw[hR q s_];exact hq);obtain⟨b,ents,clock,g1,g2,g3,g4⟩:=hc.mp Oy;have e1:=(hc.eval x).1;rw[N4 x Oz,hx]at e1;have e2:=(hc.eval k).1;rw[N4 k SB,Va]at e2;have ex:a.eval x= .map (some b):=(by rw[<-g1];exact e1.2);have ek:a.eval k=la key:=Bj hf e2;have QL:=(lw hd hf hf).2
   have fin:∀(Pd:Array MapEntry) (Pu:List (Tr×Int)),(Builtin.delete_ #[T,T2] o.type #[.map (some b),la key]).run P w= .ok (.tuple #[]) (Go.ChangeMaps.setBlock w b (.map Pd clock))->Pd.toList.map (fun e=>(e.key,e.val))=Pu.map Ev->(∀p∈Pu,dU kk p.1)->Pu=iE es key->o.wp P a w K Q:=by
    intro Pd Pu N9 k1 k2 k3;subst k3;obtain⟨ρ',this⟩:=hc.upd Oy (x':= .mp kk (iE es key)) (b:=b) aai [] s_ (fun _=>False) (fun _ h=>h.elim) (Turn.setBlock w b g2 (.map Pd clock)) aaP (fun ρ' ok' hρ _ hk _ _ _=>⟨b,Pd,clock,by rw[hρ];exact g1,Go.ChangeMaps.heap_setBlock_same g2 _,k1,k2⟩) To (.tuple #[]) [q]
    have O8:(execOp a.eval o).run P w= .ok (.value (.tuple #[])) (Go.ChangeMaps.setBlock w b (.map Pd clock)):=by simp only[execOp,ho,resolve,invoke,builtin,List.map_toArray,n9,A4,ex,ek,m8,p7,N9,i7]
    unfold Oper.wp;rw[O8];exact hK _ _ ρ' this
   rcases tn hd hf ents.toList es 0 g3 g4 with⟨f1,f2,f3,f4⟩|⟨j,e,q',n',f1,f2,f3,_,f5,f6,_,f8⟩
   ·refine fin ents es ?_ g3 g4 f4.symm;exact V69
   ·refine fin (ents.eraseIdxIfInBounds j) (es.eraseIdx j) ?_ ?_ ?_ f8.symm
    ·exact V69
    ·have N2:j<ents.size:=by
      rcases l9 j ents.size with h|h
      ·exact h
      ·have:ents.toList[j]?=none:=(by rw[e9];simpa using h);rw[this]at f2;cases f2
     rw[Array.eraseIdxIfInBounds,dif_pos N2,Array.toList_eraseIdx,lY,g3,<-lY]
    ·exact fun p hp=>g4 p (List.mem_of_mem_eraseIdx hp)
  ·exact h.elim
 ·exact h.elim
end
section
variable {P:Program} {Γ:Env} {N B:Nat} {M:Nat->Prop} {w0:Start} {ρ ρ':Rho} {s:F_} {a:Act} {w w':World} {o:Oper} {ev:Operand->AV} {H:Id->Option AO} {K:Eff->Prop} {KV:AV->Prop}
def ext (θ θ':List (Id×Id)):Prop:=∀q o,lkI θ q=some o->lkI θ' q=some o
theorem ext.refl (θ:List (Id×Id)):ext θ θ:=fun _ _ h=>h
theorem ext.trans {θ θ' θ'':List (Id×Id)}(h:ext θ θ')(h':ext θ' θ''):ext θ θ'':=fun q o hq=>h' q o (h q o hq)
theorem Cv {α:Type}(x y:Id)(A C:α):(bif fQ x y then A else C)=if x=y then A else C:=by
 cases hb:fQ x y with
 | true=>rw[idEq_iff]at hb;simp[hb]
 | false=>
  have:¬x=y:=fun e=>by rw[idEq_iff.2 e]at hb;cases hb
  simp[this]
theorem wK (i x:Id)(θ:List (Id×Id))(o:Id):lkI ((i,x)::θ) o=if o=i then some x else lkI θ o:=by rw[lkI,Cv]
theorem qM {θ:List (Id×Id)}{q o:Id}{K:List (Id×Id)->Prop}(h:Ek θ q o K):∃θ',K θ'/\ext θ θ'/\lkI θ' q=some o:=by
 unfold Ek at h;split at h
 ·rename_i o' hq;obtain⟨h1,h2⟩:=h;rw[idEq_iff]at h1;exact⟨θ,h2,ext.refl _,by rw[h1];exact hq⟩
 ·rename_i hq;refine⟨_,h,fun q' o' h'=>?_,by rw[wK,d5 rfl]⟩;rw[wK];split
  ·rename_i e;subst e;rw[hq]at h';cases h'
  ·exact h'
def relC (H:Id->Option AO)(θ:List (Id×Id))(bw:List Id)(x y:AC):Prop:=
 (∃o q,x= .own o/\y= .own q/\lkI θ q=some o)\/(∃o q n,x= .ptr o n/\y= .ptr q n/\lkI θ q=some o)\/(x= .nilp/\y= .nilp)\/(∃n m,x= .nils n/\y= .nils m)\/(∃o q,x= .mpv o/\y= .mpv q/\lkI θ q=some o)\/
  y= .opq\/∃t,y= .t t/\fc H x t/\∀o∈x.ids,o∈bw
theorem relC.mono {θ θ':List (Id×Id)}{bw Pj:List Id}{x y:AC}(h:relC H θ bw x y)(h1:ext θ θ')(h2:∀o∈bw,o∈Pj):relC H θ' Pj x y:=by
 rcases h with⟨o,q,rfl,rfl,h⟩|⟨o,q,n,rfl,rfl,h⟩|⟨rfl,rfl⟩|⟨n,m,rfl,rfl⟩|⟨o,q,rfl,rfl,h⟩|rfl|⟨t,rfl,h3,h4⟩
 ·exact .inl ⟨o,q,rfl,rfl,h1 _ _ h⟩
 ·exact .inr (.inl ⟨o,q,n,rfl,rfl,h1 _ _ h⟩)
 ·exact .inr (.inr (.inl ⟨rfl,rfl⟩))
 ·exact .inr (.inr (.inr (.inl ⟨n,m,rfl,rfl⟩)))
 ·exact .inr (.inr (.inr (.inr (.inl ⟨o,q,rfl,rfl,h1 _ _ h⟩))))
 ·exact .inr (.inr (.inr (.inr (.inr (.inl rfl)))))
 ·exact .inr (.inr (.inr (.inr (.inr (.inr ⟨t,rfl,h3,fun o ho=>h2 o (h4 o ho)⟩)))))
theorem V98{p:Prop}(h:p:=by
 exact⟨θ,_,h.2,ext.refl _,fun o ho=>s5 _ ho,.inr (.inr (.inr (.inr (.inr (.inr ⟨_,rfl,h.1,fun o ho=>by simp[AC.ids]at ho;simp[ho]⟩)))))⟩):p:=h
theorem Dt {θ:List (Id×Id)}{bw:List Id}{x y:AC}{K:List (Id×Id)->List Id->Prop}(h:maC H θ bw x y K):∃θ' Pj,K θ' Pj/\ext θ θ'/\(∀o∈bw,o∈Pj)/\relC H θ' Pj x y:=by
 unfold maC at h;split at h
 ·obtain⟨θ',h1,h2,h3⟩:=qM h;exact⟨θ',bw,h1,h2,fun _ h=>h,.inl ⟨_,_,rfl,rfl,h3⟩⟩
 ·obtain⟨rfl,h⟩:=h;obtain⟨θ',h1,h2,h3⟩:=qM h;exact⟨θ',bw,h1,h2,fun _ h=>h,.inr (.inl ⟨_,_,_,rfl,rfl,h3⟩)⟩
 ·exact⟨θ,bw,h,ext.refl _,fun _ h=>h,.inr (.inr (.inl ⟨rfl,rfl⟩))⟩
 ·obtain⟨θ',h1,h2,h3⟩:=qM h;exact⟨θ',bw,h1,h2,fun _ h=>h,.inr (.inr (.inr (.inr (.inl ⟨_,_,rfl,rfl,h3⟩))))⟩
 ·exact⟨θ,bw,h,ext.refl _,fun _ h=>h,.inr (.inr (.inr (.inl ⟨_,_,rfl,rfl⟩)))⟩
 ·exact V98
 ·exact V98
 ·rename_i h1 h2;refine⟨θ,_,h.2,ext.refl _,fun _ h=>h,.inr (.inr (.inr (.inr (.inr (.inr ⟨_,rfl,h.1,fun o ho=>?_⟩)))))⟩;have ht:=h.1
  cases x with|own o=>exact absurd rfl (h1 o)|sub o k=>exact absurd rfl (h2 o k)|ptr o k=>exact ht.elim|t x=>simp[AC.ids]at ho|f x=>simp[AC.ids]at ho|nils n=>simp[AC.ids]at ho|nilp=>simp[AC.ids]at ho|opq=>simp[AC.ids]at ho|mpv o=>exact ht.elim
 ·exact⟨θ,bw,h,ext.refl _,fun _ h=>h,.inr (.inr (.inr (.inr (.inr (.inl rfl)))))⟩
 ·exact h.elim
def relCs (H:Id->Option AO)(θ:List (Id×Id))(bw:List Id):List AC->List AC->Prop
 | [],[]=>True
 | x::xs,y::ys=>relC H θ bw x y/\relCs H θ bw xs ys
 | _,_=>False
theorem relCs.mono {θ θ':List (Id×Id)}{bw Pj:List Id}:∀{xs ys:List AC},relCs H θ bw xs ys->ext θ θ'->(∀o∈bw,o∈Pj)->relCs H θ' Pj xs ys
 | [],[],_,_,_=>trivial
 | _::_,_::_,h,h1,h2=>⟨h.1.mono h1 h2,relCs.mono h.2 h1 h2⟩
 | [],_::_,h,_,_=>h.elim
 | _::_,[],h,_,_=>h.elim
theorem tH:∀{xs ys:List AC} {θ:List (Id×Id)} {bw:List Id} {K:List (Id×Id)->List Id->Prop},LO H θ bw xs ys K->∃θ' Pj,K θ' Pj/\ext θ θ'/\(∀o∈bw,o∈Pj)/\relCs H θ' Pj xs ys
 | [],[],_,_,_,h=>⟨_,_,h,ext.refl _,fun _ h=>h,trivial⟩
 | x::xs,y::ys,_,_,_,h=>by
  obtain⟨θ1,bw1,h1,h2,h3,h4⟩:=Dt h;obtain⟨θ2,bw2,h5,h6,h7,h8⟩:=tH h1
  exact⟨θ2,bw2,h5,h2.trans h6,fun o ho=>h7 o (h3 o ho),h4.mono h6 h7,h8⟩
 | [],_::_,_,_,_,h=>h.elim
 | _::_,[],_,_,_,h=>h.elim
def relV (H:Id->Option AO)(θ:List (Id×Id))(bw:List Id):AV->AV->Prop
 | .r (.c x),.r (.c y)=>relC H θ bw x y
 | .r (.agg xs),.r (.agg ys)=>relCs H θ bw xs ys
 | _,_=>False
theorem relV.mono {θ θ':List (Id×Id)}{bw Pj:List Id}{x y:AV}(h:relV H θ bw x y)(h1:ext θ θ')(h2:∀o∈bw,o∈Pj):relV H θ' Pj x y:=by
 unfold relV at h⊢;split at h
 ·exact relC.mono h h1 h2
 ·exact relCs.mono h h1 h2
 ·exact h.elim
theorem Kn {θ:List (Id×Id)}{bw:List Id}{x y:AV}{K:List (Id×Id)->List Id->Prop}(h:maV H θ bw x y K):∃θ' Pj,K θ' Pj/\ext θ θ'/\(∀o∈bw,o∈Pj)/\relV H θ' Pj x y:=by
 unfold maV at h;split at h
 ·exact Dt h
 ·exact tH h
 ·exact h.elim
def relVs (H:Id->Option AO)(θ:List (Id×Id))(bw:List Id):List AV->List AV->Prop
 | [],[]=>True
 | x::xs,y::ys=>relV H θ bw x y/\relVs H θ bw xs ys
 | _,_=>False
theorem relVs.mono {θ θ':List (Id×Id)}{bw Pj:List Id}:∀{xs ys:List AV},relVs H θ bw xs ys->ext θ θ'->(∀o∈bw,o∈Pj)->relVs H θ' Pj xs ys
 | [],[],_,_,_=>trivial
 | _::_,_::_,h,h1,h2=>⟨h.1.mono h1 h2,relVs.mono h.2 h1 h2⟩
 | [],_::_,h,_,_=>h.elim
 | _::_,[],h,_,_=>h.elim
theorem AL:∀{xs ys:List AV} {θ:List (Id×Id)} {bw:List Id} {K:List (Id×Id)->List Id->Prop},KJ H θ bw xs ys K->∃θ' Pj,K θ' Pj/\ext θ θ'/\(∀o∈bw,o∈Pj)/\relVs H θ' Pj xs ys
 | [],[],_,_,_,h=>⟨_,_,h,ext.refl _,fun _ h=>h,trivial⟩
 | x::xs,y::ys,_,_,_,h=>by
  obtain⟨θ1,bw1,h1,h2,h3,h4⟩:=Kn h;obtain⟨θ2,bw2,h5,h6,h7,h8⟩:=AL h1
  exact⟨θ2,bw2,h5,h2.trans h6,fun o ho=>h7 o (h3 o ho),h4.mono h6 h7,h8⟩
 | [],_::_,_,_,_,h=>h.elim
 | _::_,[],_,_,_,h=>h.elim
def relO (H:Id->Option AO)(θ:List (Id×Id))(bw:List Id)(x y:AO):Prop:=
 (∃cs ds,x= .box cs/\y= .box ds/\relCs H θ bw cs ds)\/(∃fr sz rows,x= .arr fr sz rows/\y= .arr false sz rows)\/(∃sz rows,x= .dar sz rows none/\y= .dar sz rows none)\/∃kk es,x= .mp kk es/\y= .mp kk es
theorem relO.mono {θ θ':List (Id×Id)}{bw Pj:List Id}{x y:AO}(h:relO H θ bw x y)(h1:ext θ θ')(h2:∀o∈bw,o∈Pj):relO H θ' Pj x y:=by
 rcases h with⟨cs,ds,rfl,rfl,h⟩|h|h
 ·exact .inl ⟨cs,ds,rfl,rfl,h.mono h1 h2⟩
 ·exact .inr (.inl h)
 ·exact .inr (.inr h)
theorem CK:∀{l:List (Id×AO)} {θ:List (Id×Id)} {bw:List Id} {K:List (Id×Id)->List Id->Prop},maO H θ bw l K->∃θ' Pj,K θ' Pj/\ext θ θ'/\(∀o∈bw,o∈Pj)/\∀p∈l,∃o x,lkI θ' p.1=some o/\H o=some x/\relO H θ' Pj x p.2
 | [],_,_,_,h=>⟨_,_,h,ext.refl _,fun _ h=>h,s_⟩
 |(q,y)::l,θ,bw,K,h=>by
  simp only[maO]at h;split at h
  ·rename_i o hq
   have one:∀{θ1:List (Id×Id)} {bw1:List Id} {x:AO},maO H θ1 bw1 l K->ext θ θ1->(∀o∈bw,o∈bw1)->H o=some x->relO H θ1 bw1 x y->
     ∃θ' Pj,K θ' Pj/\ext θ θ'/\(∀o∈bw,o∈Pj)/\∀p∈(q,y)::l,∃o x,lkI θ' p.1=some o/\H o=some x/\relO H θ' Pj x p.2:=by
    intro θ1 bw1 x h1 h2 h3 h4 h5;obtain⟨θ2,bw2,k1,k2,k3,k4⟩:=CK h1;refine⟨θ2,bw2,k1,h2.trans k2,fun o ho=>k3 o (h3 o ho),fun p hp=>?_⟩;rcases d6.1 hp with rfl|hp
    ·exact⟨o,x,k2 _ _ (h2 _ _ hq),h4,h5.mono k2 k3⟩
    ·exact k4 p hp
   split at h
   ·rename_i cs hx;split at h
    ·rename_i ds;obtain⟨θ1,bw1,h1,h2,h3,h4⟩:=tH h;exact one h1 h2 h3 hx (.inl ⟨cs,ds,rfl,rfl,h4⟩)
    ·exact h.elim
   ·rename_i fr sz rows hx;split at h
    ·rename_i fr' OD rows';obtain⟨rfl,rfl,rfl,h⟩:=h;exact one h (ext.refl _) (fun _ h=>h) hx (.inr (.inl ⟨fr,_,_,rfl,rfl⟩))
    ·exact h.elim
   ·rename_i sz rows hx;split at h
    ·obtain⟨rfl,rfl,h⟩:=h;exact one h (ext.refl _) (fun _ h=>h) hx (.inr (.inr (.inl ⟨_,_,rfl,rfl⟩)))
    ·exact h.elim
   ·rename_i kk es hx;split at h
    ·obtain⟨rfl,rfl,h⟩:=h;exact one h (ext.refl _) (fun _ h=>h) hx (.inr (.inr (.inr ⟨_,_,rfl,rfl⟩)))
    ·exact h.elim
   ·exact h.elim
  ·exact h.elim
theorem iZ {l:List (Id×AO)}{q:Id}{y:AO}(h:lkH l q=some y):(q,y)∈l:=by
 induction l with
 | nil=>cases h
 | cons p l ih=>
  obtain⟨i,x⟩:=p;rw[lkH,Cv]at h;split at h
  ·rename_i e;injection h with h;subst e;subst h;simp
  ·exact s5 _ (ih h)
theorem xu {l:List (Id×AO)}(hn:(l.map (·.1)).Nodup){q:Id}{y:AO}(h:(q,y)∈l):lkH l q=some y:=by
 induction l with
 | nil=>cases h
 | cons p l ih=>
  obtain⟨i,x⟩:=p;rw[lkH,Cv];simp only[n9,E6]at hn;rcases d6.1 h with h|h
  ·injection h with h1 h2;subst h1;subst h2;simp
  ·have:q≠i:=fun e=>hn.1 (by rw[<-e];exact p6.2 ⟨_,h,rfl⟩);rw[c8 this];exact ih hn.2 h
theorem Fv {l:List (Id×AO)}{q:Id}(h:q∈l.map (·.1)):(lkH l q).isSome=true:=by
 induction l with
 | nil=>cases h
 | cons p l ih=>
  obtain⟨i,x⟩:=p;rw[lkH,Cv];split
  ·rfl
  ·rename_i Ow;simp only[n9,d6]at h;exact ih (h.resolve_left Ow)
theorem iX {θ:List (Id×Id)}{q o:Id}(h:lkI θ q=some o):(q,o)∈θ:=by
 induction θ with
 | nil=>cases h
 | cons p l ih=>
  obtain⟨i,x⟩:=p;rw[wK]at h;split at h
  ·rename_i e;injection h with h;subst e;subst h;simp
  ·exact s5 _ (ih h)
theorem Jc {θ:List (Id×Id)}(hn:(θ.map (·.2)).Nodup){q q' o:Id}(h:(q,o)∈θ)(h':(q',o)∈θ):q=q':=by
 induction θ with
 | nil=>cases h
 | cons p l ih=>
  simp only[n9,E6]at hn;rcases d6.1 h with e|h1
  ·rcases d6.1 h' with e'|Wr
   ·rw[<-e]at e';injection e' with e';exact e'.symm
   ·exact absurd (p6.2 ⟨_,Wr,by rw[<-e]⟩) hn.1
  ·rcases d6.1 h' with e'|Wr
   ·exact absurd (p6.2 ⟨_,h1,by rw[<-e']⟩) hn.1
   ·exact ih hn.2 h1 Wr
theorem relC.congr {H':Id->Option AO}{θ:List (Id×Id)}{bw:List Id}{x y:AC}(hH:∀o∈bw,H' o=H o)(h:relC H θ bw x y):relC H' θ bw x y:=by
 rcases h with h|h|h|h|h|rfl|⟨t,rfl,h3,h4⟩
 ·exact .inl h
 ·exact .inr (.inl h)
 ·exact .inr (.inr (.inl h))
 ·exact .inr (.inr (.inr (.inl h)))
 ·exact .inr (.inr (.inr (.inr (.inl h))))
 ·exact .inr (.inr (.inr (.inr (.inr (.inl rfl)))))
 ·exact .inr (.inr (.inr (.inr (.inr (.inr ⟨t,rfl,mL (fun o ho=>hH o (h4 o ho)) h3,h4⟩)))))
theorem relCs.congr {H':Id->Option AO}{θ:List (Id×Id)}{bw:List Id}(hH:∀o∈bw,H' o=H o):∀{xs ys:List AC},relCs H θ bw xs ys->relCs H' θ bw xs ys
 | [],[],_=>trivial
 | _::_,_::_,h=>⟨h.1.congr hH,relCs.congr hH h.2⟩
 | [],_::_,h=>h.elim
 | _::_,[],h=>h.elim
theorem relV.congr {H':Id->Option AO}{θ:List (Id×Id)}{bw:List Id}(hH:∀o∈bw,H' o=H o){x y:AV}(h:relV H θ bw x y):relV H' θ bw x y:=by
 unfold relV at h⊢;split at h
 ·exact relC.congr hH h
 ·exact relCs.congr hH h
 ·exact h.elim
theorem relVs.congr {H':Id->Option AO}{θ:List (Id×Id)}{bw:List Id}(hH:∀o∈bw,H' o=H o):∀{xs ys:List AV},relVs H θ bw xs ys->relVs H' θ bw xs ys
 | [],[],_=>trivial
 | _::_,_::_,h=>⟨h.1.congr hH,relVs.congr hH h.2⟩
 | [],_::_,h=>h.elim
 | _::_,[],h=>h.elim
theorem relO.congr {H':Id->Option AO}{θ:List (Id×Id)}{bw:List Id}(hH:∀o∈bw,H' o=H o){x y:AO}(h:relO H θ bw x y):relO H' θ bw x y:=by
 rcases h with⟨cs,ds,rfl,rfl,h⟩|h
 ·exact .inl ⟨cs,ds,rfl,rfl,h.congr hH⟩
 ·exact .inr h
def LS (ρ:Rho)(θ:List (Id×Id))(al:Nat->Prop):Rho:=⟨fun q=>match lkI θ q with|some o=>ρ o|none=> .tuple #[],fun q c=>match lkI θ q with|some o=>ρ.fp o c|none=>False,al⟩
theorem fw {θ:List (Id×Id)}{al:Nat->Prop}{q o:Id}(h:lkI θ q=some o):LS ρ θ al q=ρ o:=by show(match lkI θ q with|some o=>ρ o|none=> .tuple #[])=ρ o;rw[h]
theorem GC {θ:List (Id×Id)}{al:Nat->Prop}{q o:Id}(h:lkI θ q=some o)(c:Nat):(LS ρ θ al).fp q c↔ρ.fp o c:=by show(match lkI θ q with|some o=>ρ.fp o c|none=>False)↔_;rw[h]
theorem mG {θ:List (Id×Id)}{al:Nat->Prop}{q o:Id}(h:lkI θ q=some o)(b:Nat):Own (LS ρ θ al) q b↔Own ρ o b:=by unfold Own;rw[fw h,GC h]
structure Bound (s:F_) (θ:List (Id×Id)) (bw:List Id) (h0:List (Id×AO)):Prop where
 vals:(θ.map (·.2)).Nodup
 keys:∀p∈θ,p.1∈h0.map (·.1)/\p.2∉bw
 obj:∀p∈h0,∃o x,lkI θ p.1=some o/\s.H o=some x/\relO s.H θ bw x p.2
theorem Bound.get {θ:List (Id×Id)}{bw:List Id}{h0:List (Id×AO)}(hb:Bound s θ bw h0){q o:Id}(h:lkI θ q=some o):∃x,s.H o=some x:=by obtain⟨h1,_⟩:=hb.keys _ (iX h);obtain⟨p,hp,e⟩:=p6.1 h1;obtain⟨o',x,g1,g2,_⟩:=hb.obj p hp;simp only at e;rw[e,h]at g1;injection g1 with g1;exact⟨x,by rw[g1];exact g2⟩
theorem Bound.inj {θ:List (Id×Id)}{bw:List Id}{h0:List (Id×AO)}(hb:Bound s θ bw h0){q q' o:Id}(h:lkI θ q=some o)(h':lkI θ q'=some o):q=q':=Jc hb.vals (iX h) (iX h')
def alC (ρ:Rho)(s:F_)(w:World)(θ:List (Id×Id))(bw:List Id)(b:Nat):Prop:=
 okB ρ s.H w b\/(∃o x,o∈bw/\s.H o=some x/\Own ρ o b)\/(∃q o x,lkI θ q=some o/\s.H o=some x/\Own ρ o b)\/w.heap.size<=b
abbrev nF (ρ:Rho)(s:F_)(w:World)(θ:List (Id×Id))(bw:List Id):Rho:=LS ρ θ (alC ρ s w θ bw)
theorem Bx {θ:List (Id×Id)}{bw:List Id}{h0:List (Id×AO)}(hb:Bound s θ bw h0){b:Nat}(h:okB ρ s.H w b):okB (nF ρ s w θ bw) (lkH h0) w b:=by refine⟨⟨h.1.1,.inl h⟩,fun q y hq ho=>?_⟩;obtain⟨o,x,g1,g2,_⟩:=hb.obj _ (iZ hq);rw[mG g1]at ho;exact h.2 o x g2 ho
theorem Kq (hc:Conc N B M w0 ρ s a w){θ:List (Id×Id)}{bw:List Id}{h0:List (Id×AO)}(hb:Bound s θ bw h0){b:Nat}{o:Id}{x:AO}(h1:o∈bw)(h2:s.H o=some x)(h3:Own ρ o b):okB (nF ρ s w θ bw) (lkH h0) w b:=by refine⟨⟨(hc.rng o x b h2 h3).1,.inr (.inl ⟨o,x,h1,h2,h3⟩)⟩,fun q y hq ho=>?_⟩;obtain⟨o',x',g1,g2,_⟩:=hb.obj _ (iZ hq);rw[mG g1]at ho;have:=(hb.keys _ (iX g1)).2;exact hc.sep o o' x x' b h2 g2 (fun e=>this (e▸h1)) h3 ho
theorem Hn (hc:Conc N B M w0 ρ s a w){θ:List (Id×Id)}{bw:List Id}{h0:List (Id×AO)}(hb:Bound s θ bw h0){B':Nat}{v:Value}{x y:AC}(h:relC s.H θ bw x y)(hv:RC B ρ w (okB ρ s.H w) v x):RC B' (nF ρ s w θ bw) w (okB (nF ρ s w θ bw) (lkH h0) w) v y:=by
 rcases h with⟨o,q,rfl,rfl,h⟩|⟨o,q,n,rfl,rfl,h⟩|⟨rfl,rfl⟩|⟨n,m,rfl,rfl⟩|⟨o,q,rfl,rfl,h⟩|rfl|⟨t,rfl,h3,h4⟩
 ·rw[RC,fw h];exact hv
 ·rw[RC,fw h];exact hv
 ·exact hv
 ·exact hv
 ·rw[RC,fw h];exact hv
 ·exact⟨RC.one hv,RC.cells1 hv⟩
 ·exact kA hc (fun b OO=>Bx hb OO) (fun q hq x b hx ho=>Kq hc hb (h4 q hq) hx ho) hv h3
theorem xO (hc:Conc N B M w0 ρ s a w){θ:List (Id×Id)}{bw:List Id}{h0:List (Id×AO)}(hb:Bound s θ bw h0){B':Nat}:∀{vs:List Value} {xs ys:List AC},relCs s.H θ bw xs ys->RCs B ρ w (okB ρ s.H w) vs xs->RCs B' (nF ρ s w θ bw) w (okB (nF ρ s w θ bw) (lkH h0) w) vs ys
 | [],[],[],_,_=>trivial
 | _::_,_::_,_::_,h,hv=>⟨Hn hc hb h.1 hv.1,xO hc hb h.2 hv.2⟩
 | [],_::_,_,_,hv=>hv.elim
 | _::_,[],_,_,hv=>hv.elim
 | [],[],_::_,h,_=>h.elim
 | _::_,_::_,[],h,_=>h.elim
theorem LL (hc:Conc N B M w0 ρ s a w){θ:List (Id×Id)}{bw:List Id}{h0:List (Id×AO)}(hb:Bound s θ bw h0){B':Nat}{v:Value}{x y:AV}(h:relV s.H θ bw x y)(hv:RV B ρ w (okB ρ s.H w) v x):RV B' (nF ρ s w θ bw) w (okB (nF ρ s w θ bw) (lkH h0) w) v y:=by
 unfold relV at h;split at h
 ·exact Hn hc hb h hv
 ·obtain⟨us,e,hv⟩:=hv;exact⟨us,e,xO hc hb h hv⟩
 ·exact h.elim
theorem DV (hc:Conc N B M w0 ρ s a w){θ:List (Id×Id)}{bw:List Id}{h0:List (Id×AO)}(hb:Bound s θ bw h0){B':Nat}:∀{xs:List Operand} {ys:List AV},relVs s.H θ bw (xs.map ev) ys->(∀x∈xs,evL s.L x=ev x)->RVs B' (nF ρ s w θ bw) w (okB (nF ρ s w θ bw) (lkH h0) w) (xs.map a.eval) ys
 | [],[],_,_=>trivial
 | x::xs,y::ys,h,hx=>by
  refine⟨LL hc hb h.1 ?_,DV hc hb h.2 fun z hz=>hx z (by simp[hz])⟩;have:=(hc.eval x).1
  rwa [hx x s_]at this
 | [],_::_,h,_=>h.elim
 | _::_,[],h,_=>h.elim
theorem Mb (hc:Conc N B M w0 ρ s a w){θ:List (Id×Id)}{bw:List Id}{h0:List (Id×AO)}(hb:Bound s θ bw h0){B':Nat}{q o:Id}{x y:AO}(hq:lkI θ q=some o)(h:relO s.H θ bw x y)(hv:RO B ρ w (okB ρ s.H w) o x):RO B' (nF ρ s w θ bw) w (okB (nF ρ s w θ bw) (lkH h0) w) q y:=by
 rcases h with⟨cs,ds,rfl,rfl,h⟩|⟨fr,sz,rows,rfl,rfl⟩|⟨sz,rows,rfl,rfl⟩|⟨kk,es,rfl,rfl⟩
 ·obtain⟨b,cur,t,fz,h1,h2,h3,h4⟩:=hv;exact⟨b,cur,t,fz,by rw[fw hq];exact h1,h2,h3,xO hc hb h h4⟩
 ·obtain⟨hu,hv⟩:=hv;refine⟨hu,?_⟩;rcases hv with hv|⟨b,cap,cur,e,fz,h1,h2,h3,h4,h5,h6,h7,h8⟩
  ·exact .inl (by rw[fw hq];exact hv)
  ·exact .inr ⟨b,cap,cur,e,fz,by rw[fw hq];exact h1,h2,h3,h4,h5,h6,h7.keep (fun c N6=>⟨rfl,Bx hb N6.1,fun e=>by cases e⟩),fun e=>by cases e⟩
 ·obtain⟨hu,hv⟩:=hv;refine⟨hu,?_⟩;rcases hv with⟨hv,h2⟩|⟨b,cap,cur,e,fz,Fp,h1,h2,h3,h4,h5,h6,h7,h8,h9⟩
  ·exact .inl ⟨by rw[fw hq];exact hv,h2⟩
  ·exact .inr ⟨b,cap,cur,e,fz,Fp,by rw[fw hq];exact h1,h2,h3,h4,h5,h6,fun p c N6=>⟨(GC hq c).2 (h7 p c N6).1,(h7 p c N6).2⟩,h8,h9.keep (fun c N6=>⟨rfl,Bx hb N6⟩) (fun p c N6=>⟨rfl,N6⟩) fun _ _ _ e=>by cases e⟩
 ·obtain⟨b,ents,clock,h1,h2,h3⟩:=hv;exact⟨b,ents,clock,by rw[fw hq];exact h1,h2,h3⟩
theorem Il (hc:Conc N B M w0 ρ s a w){θ:List (Id×Id)}{bw:List Id}{h0:List (Id×AO)}(hb:Bound s θ bw h0):Lies w.heap.size (nF ρ s w θ bw) w h0:=by
 refine⟨fun q y hq=>?_,fun q q' y y' b hq Oy Ow ho OR=>?_,fun q y b hq ho=>?_⟩
 ·obtain⟨o,x,g1,g2,g3⟩:=hb.obj _ (iZ hq);exact Mb hc hb g1 g3 (hc.obj o x g2)
 ·obtain⟨o,x,g1,g2,_⟩:=hb.obj _ (iZ hq);obtain⟨o',x',SV,Tg,_⟩:=hb.obj _ (iZ Oy);rw[mG g1]at ho;rw[mG SV]at OR;exact hc.sep o o' x x' b g2 Tg (fun e=>Ow (hb.inj g1 (by rw[e];exact SV))) ho OR
 ·obtain⟨o,x,g1,g2,_⟩:=hb.obj _ (iZ hq);rw[mG g1]at ho;exact(hc.rng o x b g2 ho).1
theorem pF {θ:List (Id×Id)}{bw:List Id}{h0:List (Id×AO)}(hb:Bound s θ bw h0){b:Nat}(h:Ms (nF ρ s w θ bw) h0 b):∃q o x,lkI θ q=some o/\s.H o=some x/\Own ρ o b:=by obtain⟨q,y,hq,ho⟩:=h;obtain⟨o,x,g1,g2,_⟩:=hb.obj _ (iZ hq);rw[mG g1]at ho;exact⟨q,o,x,g1,g2,ho⟩
def ml (ρ ρ2:Rho)(θ:List (Id×Id))(nm:Nat):Rho:=
 ⟨fun o=>if o.1=nm then ρ2 (1,o.2)else ρ o,fun o c=>(o.1=nm/\ρ2.fp (1,o.2) c)\/(o.1≠nm/\((∃q,lkI θ q=some o/\ρ2.fp q c)\/((¬∃q,lkI θ q=some o)/\ρ.fp o c))),ρ.al⟩
structure Back (B:Nat) (ρ ρ2:Rho) (s:F_) (w w':World) (θ:List (Id×Id)) (bw:List Id) (nm:Nat) (h0 h1:List (Id×AO)):Prop where
 bound:Bound s θ bw h0
 h0n:∀p∈h0,p.1.1=0
 h1n:(h1.map (·.1)).Nodup
 h1k:∀p∈h1,okN h0 p.1=true/\qW p.2=true/\∀id∈p.2.ids,okN h0 id=true
 new:¬s.U nm
 used:∀o x,s.H o=some x->s.U o.1
 keep:∀o,(lkH h0 o).isSome=true->ρ2 o=nF ρ s w θ bw o
 al:ρ2.al=(nF ρ s w θ bw).al
 lies:Lies w.heap.size ρ2 w' h1
 own:∀o x b,lkH h1 o=some x->Own ρ2 o b->w.heap.size<=b\/Ms (nF ρ s w θ bw) h0 b
 size:w.heap.size<=w'.heap.size
 base:B<=w.heap.size
section
variable {ρ2:Rho} {θ:List (Id×Id)} {bw:List Id} {nm:Nat} {h0 h1:List (Id×AO)}
theorem Back.name (hk:Back B ρ ρ2 s w w' θ bw nm h0 h1){q:Id}(hq:okN h0 q=true):(∃o x,lkI θ q=some o/\s.H o=some x/\o.1≠nm/\reI θ nm q=o)\/(lkI θ q=none/\q.1=1/\reI θ nm q=(nm,q.2)):=by
 cases h:lkI θ q with
 | some o=>
  obtain⟨x,hx⟩:=hk.bound.get h
  exact .inl ⟨o,x,rfl,hx,fun e=>hk.new (by rw[<-e];exact hk.used o x hx),by unfold reI;rw[h]⟩
 | none=>
  right;refine⟨rfl,?_,by unfold reI;rw[h]⟩;unfold okN at hq;rw[w7,memI_iff]at hq;rcases hq with hq|hq
  ·obtain⟨p,hp,e⟩:=p6.1 hq;obtain⟨o,x,g,_⟩:=hk.bound.obj p hp;rw[e,h]at g;cases g
  ·simpa using hq
theorem Back.val (hk:Back B ρ ρ2 s w w' θ bw nm h0 h1){q:Id}(hq:okN h0 q=true):ml ρ ρ2 θ nm (reI θ nm q)=ρ2 q:=by
 rcases hk.name hq with⟨o,x,g1,g2,g3,g4⟩|⟨g1,g2,g3⟩
 ·rw[g4];show(if o.1=nm then _ else ρ o)=_;rw[c8 g3,hk.keep q (Fv (hk.bound.keys _ (iX g1)).1),fw g1]
 ·rw[g3];show(if nm=nm then ρ2 (1,q.2)else _)=_;rw[d5 rfl,<-g2]
theorem Back.fp (hk:Back B ρ ρ2 s w w' θ bw nm h0 h1){q:Id}(hq:okN h0 q=true)(c:Nat):(ml ρ ρ2 θ nm).fp (reI θ nm q) c↔ρ2.fp q c:=by
 rcases hk.name hq with⟨o,x,g1,g2,g3,g4⟩|⟨g1,g2,g3⟩
 ·rw[g4];constructor
  ·rintro(⟨e,_⟩|⟨_,⟨q',e1,e2⟩|⟨e1,_⟩⟩)
   ·exact absurd e g3
   ·rw[hk.bound.inj g1 e1];exact e2
   ·exact absurd ⟨q,g1⟩ e1
  ·exact fun h=> .inr ⟨g3,.inl ⟨q,g1,h⟩⟩
 ·rw[g3];constructor
  ·rintro(⟨_,h⟩|⟨e,_⟩)
   ·rw[<-g2]at h;exact h
   ·exact absurd rfl e
  ·intro h;left;refine⟨rfl,?_⟩;rw[<-g2];exact h
theorem Back.owned (hk:Back B ρ ρ2 s w w' θ bw nm h0 h1){q:Id}(hq:okN h0 q=true)(c:Nat):Own (ml ρ ρ2 θ nm) (reI θ nm q) c↔Own ρ2 q c:=by unfold Own;rw[hk.val hq,hk.fp hq]
theorem Back.inj (hk:Back B ρ ρ2 s w w' θ bw nm h0 h1){q q':Id}(hq:okN h0 q=true)(Oy:okN h0 q'=true)(e:reI θ nm q=reI θ nm q'):q=q':=by
 rcases hk.name hq with⟨o,x,g1,g2,g3,g4⟩|⟨g1,g2,g3⟩<;>rcases hk.name Oy with⟨o',x',k1,k2,k3,k4⟩|⟨k1,k2,k3⟩
 ·rw[g4,k4]at e;subst e;exact hk.bound.inj g1 k1
 ·rw[g4,k3]at e;subst e;exact absurd rfl g3
 ·rw[g3,k4]at e;subst e;exact absurd rfl k3
 ·rw[g3,k3]at e;have:q.2=q'.2:=congrArg (·.2) e;exact Prod.ext (g2.trans k2.symm) this
theorem Back.oldv (hk:Back B ρ ρ2 s w w' θ bw nm h0 h1){o:Id}(ho:s.U o.1):ml ρ ρ2 θ nm o=ρ o:=c8 fun e:o.1=nm=>hk.new aaQ
theorem Back.oldf (hk:Back B ρ ρ2 s w w' θ bw nm h0 h1){o:Id}(ho:s.U o.1)(hn:o∉θ.map (·.2))(c:Nat):(ml ρ ρ2 θ nm).fp o c↔ρ.fp o c:=by
 have h1:o.1≠nm:=fun e=>hk.new aaQ;have h2:¬∃q,lkI θ q=some o:=fun⟨q,h⟩=>hn (p6.2 ⟨_,iX h,rfl⟩);constructor
 ·rintro(⟨e,_⟩|⟨_,h|⟨_,h⟩⟩)
  ·exact absurd e h1
  ·exact absurd (h.elim fun q h=>⟨q,h.1⟩) h2
  ·exact h
 ·exact fun h=> .inr ⟨h1,.inr ⟨h2,h⟩⟩
theorem HF (H:Id->Option AO){o:Id}{x:AO}(h:bP H (usG θ nm h1) o=some x):(∃q y,(q,y)∈h1/\o=reI θ nm q/\x=y.re θ nm)\/(o∉(θ.map (·.2))++h1.map (fun p=>reI θ nm p.1)/\H o=some x):=by
 rw[usG,oB]at h;have h':bP (bP H (θ.map fun p=>(p.2,none))) ((h1.map fun p=>(reI θ nm p.1,p.2.re θ nm)).map fun p=>(p.1,some p.2)) o=some x:=by rw[E3];exact h
 rcases uk _ _ o x h' with h2|⟨h2,h3⟩
 ·obtain⟨p,hp,e⟩:=p6.1 h2;injection e with e1 e2;exact .inl ⟨p.1,p.2,hp,e1.symm,e2.symm⟩
 ·have YU:o∉h1.map fun p=>reI θ nm p.1:=by simpa [E3]using h2
  have nonek:∀(l:List Id) (H:Id->Option AO),bP H (l.map fun r=>(r,none)) o=some x->o∉l/\H o=some x:=by
   intro l
   induction l with
   | nil=>intro H h;exact⟨s_,h⟩
   | cons r l ih=>
    intro H h;simp only[n9,bP]at h;obtain⟨g1,g2⟩:=ih _ h;by_cases e:o=r
    ·rw[d5 e]at g2;cases g2
    ·rw[c8 e]at g2;exact⟨by simp[e,g1],g2⟩
  have Tj:bP H ((θ.map (·.2)).map fun r=>(r,none)) o=some x:=by rw[E3];exact h3
  obtain⟨g1,g2⟩:=nonek _ _ Tj;refine .inr ⟨fun hm=>?_,g2⟩;rcases f0.1 hm with hm|hm
  ·exact g1 hm
  ·exact YU hm
theorem Back.ok (hk:Back B ρ ρ2 s w w' θ bw nm h0 h1)(hc:Conc N B M w0 ρ s a w){b:Nat}(hb:okB ρ2 (lkH h1) w' b)(hf:bw=[]\/w.heap.size<=b):okB (ml ρ ρ2 θ nm) (bP s.H (usG θ nm h1)) w' b:=by
 have OC:alC ρ s w θ bw b:=by have:=hb.1.2;rw[hk.al]at this;exact this
 have Sn:w.heap.size<=b->ρ.al b:=fun h=>hc.alw b (.inl (t7 hk.base h))
 have Ue:(∃o x,o∈bw/\s.H o=some x/\Own ρ o b)->w.heap.size<=b:=fun⟨o,x,h1,h2,h3⟩=>by
  rcases hf with hf|hf
  ·rw[hf]at h1;cases h1
  ·exact hf
 refine⟨⟨hb.1.1,?_⟩,fun o x ho he=>?_⟩
 ·show ρ.al b;rcases OC with h|h|⟨q,o,x,_,h2,h3⟩|h
  ·exact h.1.2
  ·exact Sn (Ue h)
  ·exact hc.alw b (hc.rng o x b h2 h3).2
  ·exact Sn h
 ·rcases HF s.H ho with⟨q,y,g1,rfl,_⟩|⟨g1,g2⟩
  ·rw[hk.owned (hk.h1k _ g1).1]at he;exact hb.2 q y (xu hk.h1n g1) he
  ·have hU:=hk.used o x g2
   have Qd:Own ρ o b:=by unfold Own at he⊢;rw[hk.oldv hU,hk.oldf hU (fun h=>g1 aaI)]at he;exact he
   have N2:=(hc.rng o x b g2 Qd).1;rcases OC with h|h|⟨q,o',x',h1,h2,h3⟩|h
   ·exact h.2 o x g2 Qd
   ·have:=Ue h;omega
   ·exact hc.sep o' o x' x b h2 g2 (fun e=>g1 (by rw[<-e];exact f0.2 (.inl (p6.2 ⟨_,iX h1,rfl⟩)))) h3 Qd
   ·omega
theorem Back.cell (hk:Back B ρ ρ2 s w w' θ bw nm h0 h1)(hc:Conc N B M w0 ρ s a w){v:Value}{c:AC}(hv:RC w.heap.size ρ2 w' (okB ρ2 (lkH h1) w') v c)(hf:bw=[]\/Mo c=true)(hi:∀id∈c.ids,okN h0 id=true):RC B (ml ρ ρ2 θ nm) w' (okB (ml ρ ρ2 θ nm) (bP s.H (usG θ nm h1)) w') v (c.re θ nm):=by
 cases c with
 | t x=>
  rcases hf with hf|hf
  ·exact RT.keep hv fun b hb=>⟨rfl,hk.ok hc hb (.inl hf)⟩
  ·cases x with
   | lst=>simp[Mo]at hf
   | int=>cases hv;exact RT.int _ _
   | bool=>cases hv;exact RT.bool _
   | str=>cases hv;exact RT.str _
 | f x=>exact RT.keep hv fun b hb=>⟨rfl,hk.ok hc hb.1 (.inr (hb.2 rfl)),fun _=>t7 hk.base (hb.2 rfl)⟩
 | nils n=>exact hv
 | nilp=>exact hv
 | opq=>exact hv
 | mpv q=>
  have:=hk.val (hi q aam);show RC _ _ _ _ v (.mpv (reI θ nm q))
  rw[RC,this];exact hv
 | own q=>
  have:=hk.val (hi q aam);show RC _ _ _ _ v (.own (reI θ nm q))
  rw[RC,this];exact hv
 | sub q k=>
  have:=hk.val (hi q aam);show RC _ _ _ _ v (.sub (reI θ nm q) k)
  rw[RC,this];exact hv
 | ptr q k=>have:=hk.val (hi q aam);show RC _ _ _ _ v (.ptr (reI θ nm q) k);rw[RC,this];exact hv
theorem Back.cells (hk:Back B ρ ρ2 s w w' θ bw nm h0 h1)(hc:Conc N B M w0 ρ s a w):∀{vs:List Value} {cs:List AC},RCs w.heap.size ρ2 w' (okB ρ2 (lkH h1) w') vs cs->(bw=[]\/xg cs=true)->(∀id∈cs.flatMap AC.ids,okN h0 id=true)->
  RCs B (ml ρ ρ2 θ nm) w' (okB (ml ρ ρ2 θ nm) (bP s.H (usG θ nm h1)) w') vs (Bs θ nm cs)
 | [],[],_,_,_=>trivial
 | v::vs,c::cs,h,hf,hi=>by
  refine⟨hk.cell hc h.1 (hf.imp id fun h=>?_) fun id N8=>hi id (by simp[N8]),hk.cells hc h.2 (hf.imp id fun h=>?_) fun id N8=>hi id (by simp only[s8,f0];exact .inr N8)⟩
  ·rw[xg,c9]at h;exact h.1
  ·rw[xg,c9]at h;exact h.2
 | [],_::_,h,_,_=>h.elim
 | _::_,[],h,_,_=>h.elim
theorem Back.row (hk:Back B ρ ρ2 s w w' θ bw nm h0 h1)(hc:Conc N B M w0 ρ s a w){v:Value}{x:AR}(hv:RR w.heap.size ρ2 w' (okB ρ2 (lkH h1) w') v x)(hf:bw=[]\/MH x=true)(hi:∀id∈x.ids,okN h0 id=true):RR B (ml ρ ρ2 θ nm) w' (okB (ml ρ ρ2 θ nm) (bP s.H (usG θ nm h1)) w') v (x.re θ nm):=by cases x with|c x=>exact hk.cell hc hv hf hi|agg cs=>obtain⟨us,e,h⟩:=hv;exact⟨us,e,hk.cells hc h hf hi⟩
theorem Back.rows (hk:Back B ρ ρ2 s w w' θ bw nm h0 h1)(hc:Conc N B M w0 ρ s a w):∀{vs:List Value} {cs:List AR},RRs w.heap.size ρ2 w' (okB ρ2 (lkH h1) w') vs cs->(bw=[]\/DP cs=true)->(∀id∈cs.flatMap AR.ids,okN h0 id=true)->
  RRs B (ml ρ ρ2 θ nm) w' (okB (ml ρ ρ2 θ nm) (bP s.H (usG θ nm h1)) w') vs (Iu θ nm cs)
 | [],[],_,_,_=>trivial
 | v::vs,c::cs,h,hf,hi=>by
  refine⟨hk.row hc h.1 (hf.imp id fun h=>?_) fun id N8=>hi id (by simp[N8]),hk.rows hc h.2 (hf.imp id fun h=>?_) fun id N8=>hi id (by simp only[s8,f0];exact .inr N8)⟩
  ·rw[DP,c9]at h;exact h.1
  ·rw[DP,c9]at h;exact h.2
 | [],_::_,h,_,_=>h.elim
 | _::_,[],h,_,_=>h.elim
theorem Back.value (hk:Back B ρ ρ2 s w w' θ bw nm h0 h1)(hc:Conc N B M w0 ρ s a w){v:Value}{x:AV}(hv:RV w.heap.size ρ2 w' (okB ρ2 (lkH h1) w') v x)(hf:bw=[]\/Ll x=true)(hi:∀id∈x.ids,okN h0 id=true):RV B (ml ρ ρ2 θ nm) w' (okB (ml ρ ρ2 θ nm) (bP s.H (usG θ nm h1)) w') v (x.re θ nm):=by cases x with|r x=>exact hk.row hc hv hf hi|tup xs=>obtain⟨us,e,h⟩:=hv;exact⟨us,e,hk.rows hc h hf hi⟩|el=>trivial|ro=>trivial|unk=>trivial
theorem Jn {l:List (Id×AO)}(h:wX l=true):∀p∈l,(∃cs,p.2= .box cs/\xg cs=true)\/(∃sz rows,p.2= .arr true sz rows)\/(∃kk es,p.2= .mp kk es)\/∃sz rs,p.2= .dar sz (aq rs) none:=by
 induction l with
 | nil=>simp
 | cons p l ih=>
  obtain⟨q,y⟩:=p;intro p' Ra;unfold wX at h;split at h
  ·simp at *
  ·rename_i R9;injection R9 with e1 e2;injection e1 with e3 e4;rw[c9]at h;rcases d6.1 Ra with rfl|Ra
   ·obtain⟨rs,e⟩:=LN h.2;subst e;exact .inr (.inr (.inr ⟨_,_,e4⟩))
   ·subst e2;exact ih h.1 p' Ra
  ·rename_i R9;injection R9 with e1 e2;injection e1 with e3 e4;rw[c9]at h;rcases d6.1 Ra with rfl|Ra
   ·exact .inl ⟨_,e4,h.1⟩
   ·subst e2;exact ih h.2 p' Ra
  ·rename_i R9;injection R9 with e1 e2;injection e1 with e3 e4;rcases d6.1 Ra with rfl|Ra
   ·exact .inr (.inl ⟨_,_,e4⟩)
   ·subst e2;exact ih h p' Ra
  ·rename_i R9;injection R9 with e1 e2;injection e1 with e3 e4;rcases d6.1 Ra with rfl|Ra
   ·exact .inr (.inr (.inl ⟨_,_,e4⟩))
   ·subst e2;exact ih h p' Ra
  ·cases h
theorem Back.object (hk:Back B ρ ρ2 s w w' θ bw nm h0 h1)(hc:Conc N B M w0 ρ s a w){q:Id}{y:AO}(hq:(q,y)∈h1)(hf:bw=[]\/wX h1=true):RO B (ml ρ ρ2 θ nm) w' (okB (ml ρ ρ2 θ nm) (bP s.H (usG θ nm h1)) w') (reI θ nm q) (y.re θ nm):=by
 have hv:=hk.lies.obj q y (xu hk.h1n hq);obtain⟨hn,hh,hi⟩:=hk.h1k _ hq;have Pt:=hk.val hn;have Sh:=hk.fp hn;have QC:=hf.imp id fun h=>Jn h _ hq
 cases y with
 | arr fr sz rows=>
  obtain⟨hu,hv⟩:=hv;refine⟨hu,?_⟩;rcases hv with⟨k1,k2⟩|⟨b,cap,cur,e',fz,k1,k2,k3,k4,k5,k6,k7,k8⟩
  ·exact .inl ⟨by rw[Pt];exact k1,k2⟩
  ·refine .inr ⟨b,cap,cur,e',fz,by rw[Pt];exact k1,k2,k3,k4,k5,k6,k7.keep (fun c N6=>⟨rfl,hk.ok hc N6.1 ?_,fun e=>t7 hk.base (N6.2 e)⟩),fun e=>t7 hk.base (k8 e)⟩;rcases QC with QC|⟨cs,e,_⟩|⟨OD,rows',e⟩|⟨kk,es,e⟩|⟨OD,rs,e⟩
   ·exact .inl QC
   ·cases e
   ·injection e with e;subst e;exact .inr (N6.2 rfl)
   ·cases e
   ·cases e
 | box cells=>
  obtain⟨b,cur,t,fz,k1,k2,k3,k4⟩:=hv;refine⟨b,cur,t,fz,by rw[Pt];exact k1,k2,k3,hk.cells hc k4 ?_ hi⟩;rcases QC with QC|⟨cs,e,h⟩|⟨OD,rows',e⟩|⟨kk,es,e⟩|⟨OD,rs,e⟩
  ·exact .inl QC
  ·injection e with e;subst e;exact .inr h
  ·cases e
  ·cases e
  ·cases e
 | mp kk es=>
  obtain⟨b,ents,clock,k1,k2,k3⟩:=hv
  exact⟨b,ents,clock,by rw[Pt];exact k1,k2,k3⟩
 | zar sz rows k=>simp[qW]at hh
 | dar sz rows hole=>
  have TC:bw=[]\/(hole=none->∃rs,rows=aq rs):=by
   rcases QC with QC|⟨cs,e,_⟩|⟨OD,rows',e⟩|⟨kk,es,e⟩|⟨OD,rs,e⟩
   ·exact .inl QC
   ·cases e
   ·cases e
   ·cases e
   ·injection e with e1 e2;exact .inr fun _=>⟨rs,e2⟩
  cases hole with
  | some p=>obtain⟨i,off,n⟩:=p;simp[qW]at hh
  | none=>
   obtain⟨hu,hv⟩:=hv;refine⟨hu,?_⟩;rcases hv with⟨k1,k2⟩|⟨b,cap,cur,e',fz,Fp,k1,k2,k3,k4,k5,k6,k7,k8,k9⟩
   ·exact .inl ⟨by rw[Pt];exact k1,k2⟩
   ·exact .inr ⟨b,cap,cur,e',fz,Fp,by rw[Pt];exact k1,k2,k3,k4,k5,k6,fun p c N6=>⟨(Sh c).2 (k7 p c N6).1,(k7 p c N6).2⟩,k8,by
     rcases TC with TC|TC
     ·exact k9.keep (fun c N6=>⟨rfl,hk.ok hc N6 (.inl TC)⟩) (fun p c N6=>⟨rfl,N6⟩) fun _ _ _ e=>by cases e
     ·obtain⟨rs,e⟩:=TC rfl;refine⟨k9.1,fun p v c h1 h2=>?_⟩;have h3:=k9.2 p v c h1 h2;simp only[cb]at h3⊢;have hm:=b9 h2;rw[e]at hm;obtain⟨r,hr,Uc⟩:=E2.1 hm;obtain⟨tr,_,rfl⟩:=p6.1 hr;obtain⟨x,_,rfl⟩:=p6.1 Uc
      exact h3⟩
theorem xP {cs:List AC}{id:Id}(h:id∈(Bs θ nm cs).flatMap AC.ids):∃q∈cs.flatMap AC.ids,id=reI θ nm q:=by
 induction cs with
 | nil=>simp[Bs]at h
 | cons c cs ih=>
  simp only[Bs,s8,f0]at h⊢;rcases h with h|h
  ·cases c<;>simp only[AC.re,AC.ids,o9,j6]at h
   all_goals exact⟨_,.inl (o9.2 rfl),h⟩
  ·obtain⟨q,h1,h2⟩:=ih h;exact⟨q,.inr h1,h2⟩
theorem Hm {x:AR}{id:Id}(h:id∈(x.re θ nm).ids):∃q∈x.ids,id=reI θ nm q:=by
 cases x with
 | c c=>
  have:id∈(Bs θ nm [c]).flatMap AC.ids:=by simpa [Bs,AR.re,AR.ids]using h
  obtain⟨q,h1,h2⟩:=xP this
  exact⟨q,by simpa [AR.ids]using h1,h2⟩
 | agg cs=>exact xP h
theorem JY {cs:List AR}{id:Id}(h:id∈(Iu θ nm cs).flatMap AR.ids):∃q∈cs.flatMap AR.ids,id=reI θ nm q:=by
 induction cs with
 | nil=>simp[Iu]at h
 | cons c cs ih=>
  simp only[Iu,s8,f0]at h⊢;rcases h with h|h
  ·obtain⟨q,h1,h2⟩:=Hm h;exact⟨q,.inl h1,h2⟩
  ·obtain⟨q,h1,h2⟩:=ih h;exact⟨q,.inr h1,h2⟩
theorem LD {x:AV}{id:Id}(h:id∈(x.re θ nm).ids):∃q∈x.ids,id=reI θ nm q:=by cases x with|r x=>exact Hm h|tup xs=>exact JY h|el=>simp[AV.re,AV.ids]at h|ro=>simp[AV.re,AV.ids]at h|unk=>simp[AV.re,AV.ids]at h
theorem LE {x:AO}(hn:qW x=true){id:Id}(h:id∈(x.re θ nm).ids):∃q∈x.ids,id=reI θ nm q:=by
 cases x with
 | arr=>simp[AO.re,AO.ids]at h
 | mp=>simp[AO.re,AO.ids]at h
 | zar=>simp[qW]at hn
 | box cs=>exact xP h
 | dar sz rows hole=>cases hole with|none=>simp[AO.re,AO.ids]at h|some p=>obtain⟨i,off,n⟩:=p;simp[qW]at hn
theorem Back.usedN (hk:Back B ρ ρ2 s w w' θ bw nm h0 h1){q:Id}(hq:okN h0 q=true):s.U (reI θ nm q).1\/(reI θ nm q).1=nm:=by
 rcases hk.name hq with⟨o,x,g1,g2,g3,g4⟩|⟨g1,g2,g3⟩
 ·rw[g4];exact .inl (hk.used o x g2)
 ·rw[g3];exact .inr rfl
end
theorem vh {f:FuncId}{args:Array Operand}{argTypes:Array TypeId}{nm:Nat}(ho:o.op= .call {callee:= .value (.func f),args,argTypes})(h:KF P f nm (args.toList.map ev) H K):∃e,K e/\Good P o ev H e:=by
 obtain⟨xs,h0,r,h1,hs,h⟩:=h;obtain⟨θ1,bw1,h,_,_,RJ⟩:=AL h;obtain⟨θ,bw,⟨VX,hK0⟩,YC,TC,hO⟩:=CK h;have hv:=RJ.mono YC TC;rw[c9,c9]at VX;obtain⟨⟨hI,hJ⟩,RA⟩:=VX;simp only[okI,c9,q7,nodupI_iff,memI_iff,u9]at hI;obtain⟨⟨⟨⟨i1,i2⟩,i3⟩,i4⟩,i5⟩:=hI;simp only[okJ,c9,q7,nodupI_iff,H5]at hJ;obtain⟨⟨⟨j1,j2⟩,j3⟩,j4⟩:=hJ
 have VT:bw=[]\/Ll r=true:=by
  rw[w7]at RA;rcases RA with g|g
  ·left;simpa using g
  ·right;rw[c9]at g;exact g.1
 have Xd:bw=[]\/wX h1=true:=by
  rw[w7]at RA;rcases RA with g|g
  ·left;simpa using g
  ·right;rw[c9]at g;exact g.2
 refine⟨_,hK0,?_⟩;intro N B M w0 ρ s a w Q K' hc N4 hR hn hd hK;have ZU:∀o∈bw,s.H o=H o:=fun o h=>hR o aaI
 have hb:Bound s θ bw h0:=by
  refine⟨i1,fun p hp=>⟨(i4 p hp).1,fun hm=>?_⟩,fun p hp=>?_⟩
  ·have:=(i4 p hp).2;rw[memI_iff.2 hm]at this;cases this
  ·obtain⟨o,x,g1,g2,g3⟩:=hO p hp;refine⟨o,x,g1,?_,g3.congr ZU⟩;rw[hR o (f0.2 (.inl (p6.2 ⟨_,iX g1,rfl⟩)))];exact g2
 have P7:=DV (h0:=h0) (B':=w.heap.size) hc hb (hv.congr ZU) (fun x hx=>N4 x aak)
 have Pa:=hs.2 w (args.map a.eval) (nF ρ s w θ bw) (by simpa using P7) (Il hc hb) (fun b OO=>by
  rcases OO with OO|OO
  ·exact .inr (.inr (.inr OO))
  ·exact .inr (.inr (.inl (pF hb OO))))
 have N9:(execOp a.eval o).run P w= .ok (.enter f (args.map a.eval)) w:=by exact V130
 unfold Oper.wp;rw[N9];show Calls P f (args.map a.eval) w _;refine Pa.mono fun e w' ⟨v,ρ2,he,Qk,SD,OC,WA,Su,OG⟩=>?_;subst he;have Pm:=hn nm rfl
 have hk:Back B ρ ρ2 s w w' θ bw nm h0 h1:=by refine⟨hb,fun p hp=>by simpa using j4 p hp,j1,fun p hp=>?_,Pm,fun o x ho=>(hc.usedH o x ho).1,SD,OC,Su,OG,Qk.size,hc.base⟩;have:=j2 p hp;exact⟨this.1.1,this.1.2,this.2⟩
 show K' (a.put o.dst v) w';refine hK v w' (ml ρ ρ2 θ nm) ?_
 have XI:∀o x,o∈(θ.map (·.2))++h1.map (fun p=>reI θ nm p.1)->bP s.H (usG θ nm h1) o=some x->∃q y,(q,y)∈h1/\o=reI θ nm q/\x=y.re θ nm:=fun o x hm hx=>by
  rcases HF s.H hx with g|⟨g,_⟩
  ·exact g
  ·exact absurd hm g
 have:=hc.step (Ms (nF ρ s w θ bw) h0) ((θ.map (·.2))++h1.map (fun p=>reI θ nm p.1)) (w':=w') (ρ':=ml ρ ρ2 θ nm) (H':=bP s.H (usG θ nm h1)) (U':=fun n=>s.U n\/n=nm) (a':=a.put o.dst v) (L':=nC s.L o.dst (r.re θ nm))
  ⟨Qk.os,Qk.tape,Qk.output,Qk.size,Qk.block⟩ aaF aaB
  (fun o ho=>hk.oldv ho)
  (fun o x hm ho=>by
   funext c
   exact propext (hk.oldf (hc.usedH o x ho).1 (fun h=>hm aaI) c)) rfl
  (fun o hm=>by
   refine cY _ _ o fun h=>hm ?_;simp only[usG,ne,E3]at h
   exact h)
  (fun n hn=> .inl hn)
  (fun b OO hM=>by
   obtain⟨q,o,x,g1,g2,g3⟩:=pF hb hM
   exact OO.2 o x g2 g3)
  (fun o x b g1 g2 g3 hM=>by
   obtain⟨q,o',x',k1,k2,k3⟩:=pF hb hM
   exact hc.sep o o' x x' b g1 k2 (fun e=>g2 (by rw[e];exact f0.2 (.inl (p6.2 ⟨_,iX k1,rfl⟩)))) g3 k3)
  (fun b hB hnM hM=>by
   obtain⟨q,o',x',k1,k2,k3⟩:=pF hb hM;rcases(hc.rng o' x' b k2 k3).2 with g|g
   ·omega
   ·exact hnM g)
  (fun o x b g1 g2 g3=>by
   obtain⟨q,y,k1,rfl,rfl⟩:=XI o x g1 g2;rw[hk.owned (hk.h1k _ k1).1]at g3;have hl:=xu hk.h1n k1;refine⟨Su.lt q y b hl g3,?_,?_⟩
   ·rcases OG q y b hl g3 with g|g
    ·exact .inl (t7 hc.base g)
    ·obtain⟨q',o',x',m1,m2,m3⟩:=pF hb g;exact(hc.rng o' x' b m2 m3).2
   ·rcases OG q y b hl g3 with g|g
    ·exact .inl g
    ·obtain⟨q',o',x',m1,m2,m3⟩:=pF hb g
     exact .inr ⟨o',x',m2,f0.2 (.inl (p6.2 ⟨_,iX m1,rfl⟩)),m3⟩)
  (fun o o' x x' b g1 SV g2 Tg Ow g3 Tx=>by
   obtain⟨q,y,k1,rfl,rfl⟩:=XI o x g1 g2;obtain⟨q',y',XF,rfl,rfl⟩:=XI o' x' SV Tg;rw[hk.owned (hk.h1k _ k1).1]at g3;rw[hk.owned (hk.h1k _ XF).1]at Tx
   exact Su.sep q q' y y' b (xu hk.h1n k1) (xu hk.h1n XF) (fun e=>Ow (by rw[e])) g3 Tx)
  (fun _ o x g1 g2=>by
   obtain⟨q,y,k1,rfl,rfl⟩:=XI o x g1 g2;obtain⟨m1,m2,m3⟩:=hk.h1k _ k1;refine⟨hk.object hc k1 Xd,hk.usedN m1,fun o' OR=>?_⟩;obtain⟨q',e1,rfl⟩:=LE m2 OR
   exact hk.usedN (m3 q' e1))
  (fun _ t=>hc.slots hd (U':=fun n=>s.U n\/n=nm) (hk.value hc WA VT j3) (fun id N8=>by
   obtain⟨q',e1,rfl⟩:=LD N8
   exact hk.usedN (j3 q' e1)) t)
 exact this.congr (fun _=>rfl) (fun _=>rfl) (fun n=>by simp[F_.app,eq_comm])
theorem yp {nm:Nat}(hΓ:Γ.chk P=true)(h:sem P Γ nm o ev H K):∃e,K e/\Good P o ev H e:=by
 unfold sem at h;split at h
 ·exact⟨_,h,wP (.inl aag)⟩
 ·exact⟨_,h,wP (.inr aag)⟩
 ·rename_i c x y ho;split at h
  ·rename_i t hc;have:=FI (P:=P) (H:=H) ho hc
   cases t
   ·exact⟨_,h,this⟩
   ·exact⟨_,h,this⟩
  ·exact h.elim
 ·split at h
  ·rename_i ho _ _ _ _ hd hT;exact⟨_,h,EA hΓ hT hd ho⟩
  ·exact h.elim
 ·split at h
  ·rename_i ho _ _ _ _ hd hx;exact⟨_,h,Ic hd ho hx⟩
  ·exact h.elim
 ·split at h
  ·rename_i ho _ _ hT;obtain⟨H',us,R,h,OJ⟩:=qI h;obtain⟨e,h1,h2⟩:=Gh hΓ hT ho h;exact⟨_,h1,yN OJ h2⟩
  ·exact h.elim
 ·split at h
  ·rename_i ho _ _ hT;obtain⟨H',us,R,h,OJ⟩:=qI h;obtain⟨e,h1,h2⟩:=DZ hΓ hT ho h;exact⟨_,h1,yN OJ h2⟩
  ·exact h.elim
 ·split at h
  ·rename_i ho _ _ hT;split at h
   ·rename_i hf;obtain⟨v,h1,h2⟩:=vX (H:=H) hΓ hT hf ho h;exact⟨_,h1,h2⟩
   ·exact h.elim
  ·exact h.elim
 ·split at h
  ·rename_i ho _ _ hT;split at h
   ·rename_i he;split at h
    ·rename_i hE;exact we hΓ hT he hE ho h
    ·exact h.elim
   ·exact h.elim
  ·exact h.elim
 ·split at h
  ·rename_i ho _ _ hT;split at h
   ·rename_i hs;obtain⟨v,h1,h2⟩:=ES (H:=H) hΓ hT hs ho h;exact⟨_,h1,h2⟩
   ·exact h.elim
  ·exact h.elim
 ·rename_i ho;split at h
  ·split at h
   ·rename_i hT;split at h
    ·rename_i hb;obtain⟨v,h1,h2⟩:=FE (H:=H) hΓ hT hb ho h;exact⟨_,h1,h2⟩
    ·exact h.elim
   ·exact h.elim
  ·rename_i hx;split at h
   ·rename_i hT;obtain⟨v,h1,h2⟩:=Jk (H:=H) hΓ hT ho hx h.1 h.2;exact⟨_,h1,h2⟩
   ·exact h.elim
  ·obtain⟨v,h1,h2⟩:=IQ (P:=P) (H:=H) ho h;exact⟨_,h1,h2⟩
 ·rename_i ho;obtain⟨v,h1,h2⟩:=Ke (P:=P) (H:=H) ho h;exact⟨_,h1,h2⟩
 ·rename_i ho;split at h
  ·rename_i hd hk;exact⟨_,h,zz hd ho⟩
  ·exact h.elim
 ·rename_i ho;exact CB hΓ ho h
 ·rename_i ho;exact Br hΓ (.inl ho) h
 ·rename_i ho;exact BV hΓ ho h
 ·rename_i ho;split at h
  ·rename_i hd hs ht;exact zu hΓ hs ht hd ho h
  ·exact h.elim
 ·rename_i ho;split at h
  ·rename_i hT;split at h
   ·exact h.elim
   ·rename_i Ow;exact CY hΓ hT ho (fun e=>Ow e) h
  ·exact h.elim
 ·rename_i ho;split at h
  ·rename_i hd hT;split at h
   ·rename_i he;split at h
    ·rename_i hE;split at h
     ·rename_i hn;split at h
      ·exact uq hΓ hT he hE hd ho (by simpa using hn) h
      ·exact sY hΓ hT he hE hd ho (by simpa using hn) h
     ·exact h.elim
    ·exact h.elim
   ·exact h.elim
  ·exact h.elim
 ·rename_i ho;split at h
  ·rename_i hd hT;split at h
   ·rename_i he;split at h
    ·rename_i hE;exact Gl hΓ hT he hE hd ho h
    ·exact h.elim
   ·exact h.elim
  ·exact h.elim
 ·rename_i ho;split at h
  ·rename_i hT;split at h
   ·rename_i he;split at h
    ·rename_i hE;split at h
     ·exact h.elim
     ·rename_i Ub;exact wa hΓ hT he hE ho h (fun t ht=>Ub t ht)
    ·exact h.elim
   ·split at h
    ·rename_i hs;obtain⟨t,hx,h⟩:=h;exact vT hΓ hT hs ho hx h
    ·exact h.elim
  ·exact h.elim
 ·rename_i ho;split at h
  ·rename_i hT;split at h
   ·rename_i hf;split at h
    ·rename_i UG;obtain⟨v,h1,h2⟩:=DU (H:=H) hΓ hT hf UG ho h;exact⟨_,h1,h2⟩
    ·exact h.elim
   ·exact h.elim
  ·exact h.elim
 ·rename_i ho;obtain⟨v,h1,h2⟩:=zr (P:=P) (H:=H) ho h;exact⟨_,h1,h2⟩
 ·rename_i ho;split at h
  ·rename_i hx;exact⟨_,h,tW ho hx (.inl ⟨_,_,rfl⟩)⟩
  ·rename_i hx;exact⟨_,h,tW ho hx (.inr (.inl ⟨_,_,_,_,rfl⟩))⟩
  ·rename_i hx;exact⟨_,h,tW ho hx (.inr (.inr ⟨_,_,_,rfl⟩))⟩
  ·exact h.elim
 ·rename_i ho;split at h
  ·rename_i hT;exact IC hΓ hT ho h
  ·exact h.elim
 ·rename_i ho;split at h
  ·rename_i hd hT hU;split at h
   ·rename_i he hk;split at h
    ·rename_i hE;exact Bm hΓ hT hU he hk hE hd ho h
    ·exact h.elim
   ·exact h.elim
  ·exact h.elim
 ·rename_i ho;split at h
  ·rename_i hx hy;exact⟨_,h,Iv ho hx hy⟩
  ·exact h.elim
 ·rename_i ho;split at h
  ·rename_i hx hy;exact⟨_,h,I_ ho hx hy⟩
  ·exact h.elim
 ·rename_i ho;split at h
  ·rename_i hd;rcases h with⟨ts,r,h1,h2,h3⟩|h
   ·exact⟨_,h3,Gm hd ho h1 h2⟩
   ·exact vh ho h
  ·rename_i hd;rcases h with⟨ts,r,h1,h2,h3⟩|h
   ·exact⟨_,h3,vE hd ho h1 h2⟩
   ·exact vh ho h
 ·exact h.elim
end
def dS:List (Nat×AV)->Nat->AV
 | [],_=> .unk
 |(i,v)::r,t=>bif Nat.beq t i then v else dS r t
def ct:List (Id×Option AO)->Id->Option AO
 | [],_=>none
 |(i,x)::r,o=>bif fQ o i then x else ct r o
def used:List Nat->Nat->Bool
 | [],_=>false
 | i::r,n=>bif Nat.beq n i then true else used r n
structure St where
 fr:List (Nat×AV)
 h:List (Id×Option AO)
 u:List Nat
def St.fs (st:St):F_:=⟨dS st.fr,ct st.h,fun n=>used st.u n=true⟩
def vi:List (Id×Option AO)->List (Id×Option AO)->List (Id×Option AO)
 | [],h=>h
 | p::r,h=>vi r (p::h)
def GQ:Option Nat->List Nat->List Nat
 | some n,u=>n::u
 | none,u=>u
def NF:Option Nat->AV->List (Nat×AV)->List (Nat×AV)
 | some d,v,fr=>(d,v)::fr
 | none,_,fr=>fr
def St.app (st:St)(dst:Option Nat)(e:Eff):St:=⟨NF dst e.v st.fr,vi e.us st.h,GQ e.new st.u⟩
theorem pI:∀(us h:List (Id×Option AO)) (o:Id),ct (vi us h) o=bP (ct h) us o
 | [],_,_=>rfl
 | p::us,h,o=>by
  rw[vi,pI us (p::h),bP];congr 1;funext o;simp only[ct];by_cases e:o=p.1
  ·rw[d5 e,(idEq_iff).2 e];rfl
  ·rw[c8 e]
   cases hb:fQ o p.1 with|true=>exact absurd (idEq_iff.1 hb) e|false=>rfl
theorem F_.ext' {s t:F_}(hL:∀i,s.L i=t.L i)(hH:∀o,s.H o=t.H o)(hU:∀n,s.U n↔t.U n):s=t:=by obtain⟨L,H,U⟩:=s;obtain⟨L',H',U'⟩:=t;simp only at hL hH hU;rw[funext hL,funext hH,(funext fun n=>propext (hU n):U=U')]
theorem BM (st:St)(dst:Option Nat)(e:Eff):(st.app dst e).fs=st.fs.app dst e:=by
 refine F_.ext' (fun i=>?_) (fun o=>pI _ _ _) (fun n=>?_)
 ·cases dst with|none=>rfl|some d=>rfl
 ·show used (GQ e.new st.u) n=true↔used st.u n=true\/e.new=some n
  cases hn:e.new with
  | none=>simp[GQ]
  | some d=>
   simp only[GQ,used];by_cases e:n=d
   ·subst e;simp
   ·have:Nat.beq n d=false:=(by cases hb:Nat.beq n d with|false=>rfl|true=>exact absurd (r6 hb) e);simp only[this,cond_false,Option.some.injEq];exact⟨.inl,fun h=>h.elim id fun h=>absurd h.symm e⟩
abbrev om:Eff:=⟨.tup [],[],none,[]⟩
def AC.force (x:AC)(K:AC->Prop):Prop:=
 match x with|.t y=>K (.t y)|.f y=>K (.f y)|.nils n=>K (.nils n)|.nilp=>K .nilp|.own o=>K (.own o)|.sub o k=>K (.sub o k)|.ptr o k=>K (.ptr o k)|.opq=>K .opq|.mpv o=>K (.mpv o)
abbrev nD:List AC->(List AC->Prop)->Prop
 | [],K=>K []
 | c::cs,K=>c.force fun c=>nD cs fun cs=>K (c::cs)
def AR.force (x:AR)(K:AR->Prop):Prop:=
 match x with
 | .c y=>y.force fun y=>K (.c y)
 | .agg ys=>nD ys fun ys=>K (.agg ys)
abbrev sR:List AR->(List AR->Prop)->Prop
 | [],K=>K []
 | c::cs,K=>c.force fun c=>sR cs fun cs=>K (c::cs)
def AV.force (x:AV)(K:AV->Prop):Prop:=
 match x with
 | .r y=>y.force fun y=>K (.r y)
 | .tup ys=>sR ys fun ys=>K (.tup ys)
 | .el o sz i off=>K (.el o sz i off)
 | .ro fr row off=>K (.ro fr row off)
 | .unk=>K .unk
def AO.force (x:AO)(K:AO->Prop):Prop:=
 match x with
 | .arr true sz rows=>K (.arr true sz rows)
 | .arr false sz rows=>K (.arr false sz rows)
 | .box ys=>nD ys fun ys=>K (.box ys)
 | .dar sz rows none=>K (.dar sz rows none)
 | .mp kk es=>K (.mp kk es)
 | .zar sz rows k=>K (.zar sz rows k)
 | .dar sz rows (some (i,off,(n,j,l)))=>K (.dar sz rows (some (i,off,(n,j,l))))
abbrev pK:List (Id×Option AO)->(List (Id×Option AO)->Prop)->Prop
 | [],K=>K []
 |(o,none)::l,K=>pK l fun l=>K ((o,none)::l)
 |(o,some x)::l,K=>x.force fun x=>pK l fun l=>K ((o,some x)::l)
abbrev wC:List Id->(List Id->Prop)->Prop
 | [],K=>K []
 | ⟨a,b,d⟩::l,K=>wC l fun l=>K (⟨a,b,d⟩::l)
abbrev Hr:List (Id×Option AO)->(List Id->Prop)->Prop
 | [],K=>K []
 |(o,_)::l,K=>Hr l fun l=>K (o::l)
abbrev yw:List (Id×Option AO)->List (Id×Option AO)->(List (Id×Option AO)->Prop)->Prop
 | [],h,K=>K h
 | p::r,h,K=>yw r (p::h) K
def St.put (st:St)(d:Option Nat)(e:Eff)(K:St->List Id×List Id->Prop):Prop:=
 match st,e with
 | ⟨fr,h,u⟩,⟨v,us,new,R⟩=>v.force fun v=>pK us fun us=>wC R fun R=>Hr us fun ks=>yw us h fun h=>
   (
   match d with
   | some d=>(match new with
     | some n=>K ⟨(d,v)::fr,h,n::u⟩ (R,ks)
     | none=>K ⟨(d,v)::fr,h,u⟩ (R,ks))
   | none=>(match new with
     | some n=>K ⟨fr,h,n::u⟩ (R,ks)
     | none=>K ⟨fr,h,u⟩ (R,ks)))
theorem AC.force_eq (x:AC)(K:AC->Prop):x.force K=K x:=by cases x<;>rfl
theorem qL:∀(l:List AC) (K:List AC->Prop),nD l K=K l
 | [],K=>rfl
 | c::cs,K=>by rw[nD,AC.force_eq,qL cs]
theorem AR.force_eq (x:AR)(K:AR->Prop):x.force K=K x:=by cases x with|c c=>show c.force (fun c=>K (.c c))=_;rw[AC.force_eq]|agg cs=>show nD cs (fun cs=>K (.agg cs))=_;rw[qL]
theorem xh:∀(l:List AR) (K:List AR->Prop),sR l K=K l
 | [],K=>rfl
 | c::cs,K=>by rw[sR,AR.force_eq,xh cs]
theorem AV.force_eq (x:AV)(K:AV->Prop):x.force K=K x:=by cases x with|r x=>show x.force (fun c=>K (.r c))=_;rw[AR.force_eq]|tup xs=>show sR xs (fun c=>K (.tup c))=_;rw[xh]|_=>rfl
theorem AO.force_eq (x:AO)(K:AO->Prop):x.force K=K x:=by
 cases x with
 | arr fr sz rows=>cases fr<;>rfl
 | box cs=>show nD cs (fun cs=>K (.box cs))=_;rw[qL]
 | mp kk es=>rfl
 | zar sz rows k=>rfl
 | dar sz rows hole=>cases hole<;>rfl
theorem rq:∀(l:List (Id×Option AO)) (K:List (Id×Option AO)->Prop),pK l K=K l
 | [],K=>rfl
 |(o,none)::l,K=>by rw[pK,rq l]
 |(o,some x)::l,K=>by rw[pK,AO.force_eq,rq l]
theorem yB:∀(l:List Id) (K:List Id->Prop),wC l K=K l
 | [],K=>rfl
 | ⟨a,b,d⟩::l,K=>by rw[wC,yB l]
theorem DJ:∀(l:List (Id×Option AO)) (K:List Id->Prop),Hr l K=K (l.map (·.1))
 | [],K=>rfl
 |(o,x)::l,K=>by rw[Hr,DJ l];rfl
theorem uo:∀(us h:List (Id×Option AO)) (K:List (Id×Option AO)->Prop),yw us h K=K (vi us h)
 | [],h,K=>rfl
 | p::r,h,K=>by rw[yw,uo r];rfl
theorem St.put_eq (st:St)(d:Option Nat)(e:Eff)(K:St->List Id×List Id->Prop):st.put d e K=K (st.app d e) (e.R,e.us.map (·.1)):=by
 obtain⟨fr,h,u⟩:=st;obtain⟨v,us,new,R⟩:=e;unfold St.put;simp only[AV.force_eq,rq,yB,DJ,uo]
 cases d<;>cases new<;>rfl
def cp (o:Oper)(u:List Nat):Nat:=
 match o.dst with|some d=>d|none=>100000+u.length
def w1 (P:Program)(Γ:Env)(N:Nat)(o:Oper)(st:St)(K:St->List Id×List Id->Prop):Prop:=
 match o.dst with
 | some d=>(match Nat.blt d N with
   | true=>sem P Γ d o (evL (dS st.fr)) (ct st.h) fun e=>
    (
     match e.new with
     | some n=>(match used st.u n with
      | false=>st.put (some d) e K
      | true=>False)
     | none=>st.put (some d) e K)
   | false=>False)
 | none=>sem P Γ (100000+st.u.length) o (evL (dS st.fr)) (ct st.h) fun e=>
   (
   match e.new with
   | some n=>(match used st.u n with
     | false=>st.put none e K
     | true=>False)
   | none=>st.put none e K)
abbrev Log:=List (List Id×List Id)
def lit (st:St)(dj:Nat)(b:Bool):St:=match st with|⟨fr,h,u⟩=>⟨(dj,tB b)::fr,h,u⟩
def kj (ops:List Oper)(j:Nat):Option Nat:=(ops[j]?).bind (·.dst)
abbrev nG (P:Program)(Γ:Env)(N:Nat)(ops:List Oper):List Oper->St->Log->(St->Log->Prop)->Prop
 | [],st,log,K=>K st log
 | o::rest,st,log,K=>
  match o.guard with
  | none=>w1 P Γ N o st fun N5 e=>nG P Γ N ops rest N5 (e::log) K
  | some (j,want)=>
   (
    match kj ops j with
    | some dj=>
     (
     match dS st.fr dj with
     | .r (.c (.t (.bool b)))=>
      (
       match want with
       | true=>ifB b (w1 P Γ N o (lit st dj true) fun N5 e=>nG P Γ N ops rest N5 (e::log) K)
        (
         match o.dst with
         | some d=>(match Nat.blt d N with
          | true=>(lit st dj false).put o.dst om fun N5 e=>nG P Γ N ops rest N5 (e::log) K
          | false=>False)
         | none=>(lit st dj false).put none om fun N5 e=>nG P Γ N ops rest N5 (e::log) K)
       | false=>ifB b
        (
         match o.dst with
         | some d=>(match Nat.blt d N with
          | true=>(lit st dj true).put o.dst om fun N5 e=>nG P Γ N ops rest N5 (e::log) K
          | false=>False)
         | none=>(lit st dj true).put none om fun N5 e=>nG P Γ N ops rest N5 (e::log) K)
        (w1 P Γ N o (lit st dj false) fun N5 e=>nG P Γ N ops rest N5 (e::log) K))
     | .tup []=>(match o.dst with
       | some d=>(match Nat.blt d N with
        | true=>st.put o.dst om fun N5 e=>nG P Γ N ops rest N5 (e::log) K
        | false=>False)
       | none=>st.put none om fun N5 e=>nG P Γ N ops rest N5 (e::log) K)
     | _=>False)
    | none=>False)
def fk (ops:List Oper)(s:F_)(o:Oper)(run:Bool):Prop:=
 match o.guard with|none=>run=true|some (j,want)=>(∃dj b,kj ops j=some dj/\s.L dj=tB b/\run=(b==want))\/(∃dj,kj ops j=some dj/\s.L dj= .tup []/\run=false)
structure StepOK (P:Program) (N:Nat) (ops:List Oper) (s:F_) (o:Oper) (run:Bool) (e:Eff):Prop where
 dst:∀d,o.dst=some d->d<N
 guard:fk ops s o run
 yes:run=true->Good P o (evL s.L) s.H e/\(∀n,e.new=some n->¬s.U n)
 no:run=false->e=om
def il (P:Program)(N:Nat)(ops:List Oper):F_->List Oper->List (Bool×Eff)->Prop
 | _,[],[]=>True
 | s,o::l,(b,e)::es=>StepOK P N ops s o b e/\il P N ops (s.app o.dst e) l es
 | _,_,_=>False
def iN:F_->List Oper->List (Bool×Eff)->F_
 | s,o::l,(_,e)::es=>iN (s.app o.dst e) l es
 | s,_,_=>s
section
variable {P:Program} {Γ:Env} {N:Nat} {ops:List Oper}
theorem xD {st:St}{dj:Nat}{b:Bool}(h:dS st.fr dj=tB b):(lit st dj b).fs=st.fs:=by
 obtain⟨fr,hh,u⟩:=st;refine F_.ext' (fun i=>?_) (fun _=>rfl) (fun _=>Iff.rfl);show(bif Nat.beq i dj then tB b else dS fr i)=dS fr i
 cases hb:Nat.beq i dj with|false=>rfl|true=>rw[r6 hb];exact h.symm
theorem V44{p:Prop}(h:p:=by
 intro d e h1;split at h1
 ·rename_i n hn;split at h1
  ·rename_i hu;rw[St.put_eq]at h1;exact⟨h1,fun n' Tp=>by rw[hn]at Tp;injection Tp with Tp;subst Tp;show ¬used st.u n=true;rw[hu];simp⟩
  ·exact h1.elim
 ·rename_i hn;rw[St.put_eq]at h1
  exact⟨h1,fun n' Tp=>by rw[hn]at Tp;cases Tp⟩):p:=h
theorem V29{p:Prop}(h:p:=by
 split at h
 ·rename_i d hd;split at h
  ·rename_i N2;obtain⟨e,h1,h2⟩:=yp hΓ h;obtain⟨h3,h4⟩:=fin _ e h1;exact⟨e,by rw[hd];exact h3,fun d' Qo=>by rw[hd]at Qo;injection Qo with Qo;subst Qo;simpa using N2,h2,h4⟩
  ·exact h.elim
 ·rename_i hd;obtain⟨e,h1,h2⟩:=yp hΓ h;obtain⟨h3,h4⟩:=fin _ e h1
  exact⟨e,by rw[hd];exact h3,fun d' Qo=>(by rw[hd]at Qo;cases Qo),h2,h4⟩):p:=h
theorem NV {o:Oper}{st:St}{K:St->List Id×List Id->Prop}(hΓ:Γ.chk P=true)(h:w1 P Γ N o st K):
  ∃e,K (st.app o.dst e) (e.R,e.us.map (·.1))/\(∀d,o.dst=some d->d<N)/\Good P o (evL st.fs.L) st.fs.H e/\(∀n,e.new=some n->¬st.fs.U n):=by
 have fin:∀(d:Option Nat) (e:Eff),(match e.new with
     | some n=>(match used st.u n with
      | false=>st.put d e K
      | true=>False)
     | none=>st.put d e K)->K (st.app d e) (e.R,e.us.map (·.1))/\∀n,e.new=some n->¬st.fs.U n:=by
  exact V44
 unfold w1 at h;exact V29
theorem ws (hΓ:Γ.chk P=true):∀(l:List Oper) (st:St) (log:Log) (K:St->Log->Prop),nG P Γ N ops l st log K->
  ∃es N5,es.length=l.length/\il P N ops st.fs l es/\N5.fs=iN st.fs l es/\K N5 ((es.map fun p=>(p.2.R,p.2.us.map (·.1))).reverse++log)
 | [],st,log,K,h=>⟨[],st,rfl,trivial,rfl,h⟩
 | o::rest,st,log,K,h=>by
  have yes:∀(st1:St) (want:Bool),st1.fs=st.fs->fk ops st.fs o true->(w1 P Γ N o st1 fun N5 e=>nG P Γ N ops rest N5 (e::log) K)->
    ∃es N5,es.length=(o::rest).length/\il P N ops st.fs (o::rest) es/\N5.fs=iN st.fs (o::rest) es/\K N5 ((es.map fun p=>(p.2.R,p.2.us.map (·.1))).reverse++log):=by
   intro st1 want QH hg h;obtain⟨e,h1,h2,h3,h4⟩:=NV hΓ h;obtain⟨es,N5,g1,g2,g3,g4⟩:=ws hΓ rest _ _ _ h1;rw[BM,QH]at g2 g3;rw[QH]at h3 h4;refine⟨(true,e)::es,N5,by simp[g1],⟨⟨h2,hg,fun _=>⟨h3,h4⟩,fun h=>by cases h⟩,g2⟩,g3,?_⟩;simpa using g4
  have no:∀(
         st1:St),st1.fs=st.fs->fk ops st.fs o false->(match o.dst with
         | some d=>(match Nat.blt d N with
          | true=>st1.put o.dst om fun N5 e=>nG P Γ N ops rest N5 (e::log) K
          | false=>False)
         | none=>st1.put none om fun N5 e=>nG P Γ N ops rest N5 (e::log) K)->
    ∃es N5,es.length=(o::rest).length/\il P N ops st.fs (o::rest) es/\N5.fs=iN st.fs (o::rest) es/\K N5 ((es.map fun p=>(p.2.R,p.2.us.map (·.1))).reverse++log):=by
   intro st1 QH hg h;simp only[St.put_eq]at h
   have key:(∀d,o.dst=some d->d<N)/\nG P Γ N ops rest (st1.app o.dst om) (([],[])::log) K:=by
    split at h
    ·rename_i d hd;split at h
     ·rename_i N2;exact⟨fun d' Qo=>by rw[hd]at Qo;injection Qo with Qo;subst Qo;simpa using N2,h⟩
     ·exact h.elim
    ·rename_i hd;exact⟨fun d' Qo=>(by rw[hd]at Qo;cases Qo),by rw[hd];exact h⟩
   obtain⟨es,N5,g1,g2,g3,g4⟩:=ws hΓ rest _ _ _ key.2;rw[BM,QH]at g2 g3;refine⟨(false,om)::es,N5,by simp[g1],⟨⟨key.1,hg,fun h=>aaC,fun _=>rfl⟩,g2⟩,g3,?_⟩;simpa using g4
  rw[nG]at h;split at h
  ·rename_i TJ;exact yes st true rfl (by unfold fk;rw[TJ]) h
  ·rename_i j want TJ;split at h
   ·rename_i dj hdj;split at h
    ·rename_i b hb
     have S9:∀run,run=(b==want)->fk ops st.fs o run:=fun run hr=>by
      unfold fk;rw[TJ];exact .inl ⟨dj,b,hdj,hb,hr⟩
     cases want with
     | true=>cases b with|true=>exact yes (lit st dj true) true (xD hb) (S9 _ rfl) h|false=>exact no (lit st dj false) (xD hb) (S9 _ rfl) h
     | false=>cases b with|true=>exact no (lit st dj true) (xD hb) (S9 _ rfl) h|false=>exact yes (lit st dj false) false (xD hb) (S9 _ rfl) h
    ·rename_i hb;exact no st rfl (by unfold fk;rw[TJ];exact .inr ⟨dj,hdj,hb,rfl⟩) h
    ·exact h.elim
   ·exact h.elim
 termination_by l=>l.length
theorem tL {B:Nat}{M:Nat->Prop}{w0:Start}{ρ:Rho}{s:F_}{a:Act}{w:World}{o:Oper}{run:Bool}(hc:Conc N B M w0 ρ s a w)(hg:fk ops s o run):Region.wanted o (yielded ops.toArray a.tmps)=run:=by
 unfold fk at hg;split at hg
 ·rename_i h;simp[Region.wanted,h,hg]
 ·rename_i j want h;rcases hg with⟨dj,b,h1,h2,rfl⟩|⟨dj,h1,h2,rfl⟩
  ·have hv:=hc.slot dj;rw[h2]at hv;have e:=fW hv
   have hy:yielded ops.toArray a.tmps j=some b:=by
    unfold yielded;have:(ops.toArray[j]?).bind (·.dst)=some dj:=(by simpa [kj]using h1);rw[this];simp only[Option.bind_some]
    have N2:dj<a.tmps.size:=by
     rcases l9 dj a.tmps.size with h'|h'
     ·exact h'
     ·simp[s9,F4 h',undef]at e
    rw[w6 N2];have:a.tmps[dj]= .bool b:=(by simpa [s9,N2]using e);rw[this]
   simp only[Region.wanted,h,hy]
   cases b<;>cases want<;>rfl
  ·have hv:=hc.slot dj;rw[h2]at hv;obtain⟨us,e,h3⟩:=hv
   have hy:yielded ops.toArray a.tmps j=none:=by
    unfold yielded;have:(ops.toArray[j]?).bind (·.dst)=some dj:=(by simpa [kj]using h1);rw[this];simp only[Option.bind_some];rcases l9 dj a.tmps.size with N2|h'
    ·rw[w6 N2];have:a.tmps[dj]= .tuple us:=(by simpa [s9,N2]using e);rw[this]
    ·rw[F4 h']
   simp only[Region.wanted,h,hy]
   cases want<;>rfl
theorem ua {B:Nat}{M:Nat->Prop}{w0:Start}{Q:Exit->Act->World->Prop}:∀(l:List Oper) (es:List (Bool×Eff)) (s:F_) (ρ:Rho) (a:Act) (w:World),il P N ops s l es->Conc N B M w0 ρ s a w->
  (∀ρ a w,Conc N B M w0 ρ (iN s l es) a w->Q .normal a w)->wpList P ops.toArray Q l a w
 | [],[],s,ρ,a,w,_,hc,hQ=>hQ ρ a w hc
 | o::l,(b,e)::es,s,ρ,a,w,ON,hc,hQ=>by
  obtain⟨h1,h2⟩:=ON;have hw:=tL hc h1.guard;unfold wpList
  cases b with
  | true=>
   rw[d5 hw];obtain⟨g1,g2⟩:=h1.yes rfl
   exact .inl (g1 N B M w0 ρ s a w Q _ hc (fun _ _=>rfl) (fun _ _=>rfl) g2 h1.dst fun v w' ρ' N6=>ua l es _ ρ' _ w' h2 N6 hQ)
  | false=>
   rw[c8 (by rw[hw];simp)];have he:=h1.no rfl;subst he
   exact ua l es _ ρ _ w h2 (hc.put h1.dst (av:= .tup []) ⟨#[],rfl,trivial⟩ aaO []) hQ
 | [],_::_,_,_,_,_,h,_,_=>h.elim
 | _::_,[],_,_,_,_,h,_,_=>h.elim
def dl (o:Oper):List Nat:=(o.after.toList.filter fun e=>Region.binds .any e).map (·.on)
def anc (ops:List Oper):Nat->Nat->List Nat
 | 0,_=>[]
 | f+1,i=>match ops[i]? with
  | some o=>(dl o).flatMap fun j=>j::anc ops f j
  | none=>[]
def fK (ops:List Oper)(o:Oper):List Nat:=
 (o.op.operands.toList.filterMap fun|.tmp t=>some t|_=>none)++
 (
  match o.guard with
  | some (j,_)=>(kj ops j).toList
  | none=>[])
def Nw (t:Nat)(l:List Nat):Bool:=l.any (Nat.beq t)
def xV (o:Oper)(l:List Nat):Bool:=match o.dst with|some d=>Nw d l|none=>false
def mX (a b:Oper):Bool:=match a.dst,b.dst with|some d,some d'=>Nat.beq d d'|_,_=>false
def fy (ops:List Oper)(a b:Oper)(ra rb:List Id×List Id):Bool:=
 xV a (fK ops b)||xV b (fK ops a)||mX a b||ra.2.any (fun k=>mc k rb.1||mc k rb.2)||rb.2.any (fun k=>mc k ra.1)
def BJ (ms:List Nat):List Nat->Nat->Nat
 | [],m=>m
 | j::js,m=>BJ ms js (Nat.lor (Nat.lor m (Nat.pow 2 j)) (ms.getD j 0))
def Hh:List Nat->List Oper->List Nat
 | ms,[]=>ms
 | ms,o::l=>Hh (ms++[BJ ms (dl o) 0]) l
def wj (ops:List Oper)(m:Nat->Nat)(i:Nat)(o:Oper)(r:List Id×List Id):Nat->List Oper->Log->Bool
 | j,o'::l,r'::log=>(!fy ops o o' r r'||Nat.testBit (m j) i)&&wj ops m i o r (j+1) l log
 | _,_,_=>true
def rg (ops:List Oper)(m:Nat->Nat):Nat->List Oper->Log->Bool
 | i,o::l,r::log=>(dl o).all (fun j=>Nat.blt j i)&&wj ops m i o r (i+1) l log&&rg ops m (i+1) l log
 | _,[],[]=>true
 | _,_,_=>false
def yh (ops:List Oper)(log:Log):Bool:=rg ops (fun j=>(Hh [] ops).getD j 0) 0 ops log
def sel:F_->List Oper->List (Bool×Eff)->(Nat->Bool)->Nat->F_
 | s,o::l,(_,e)::es,S,k=>sel (if S k then s.app o.dst e else s) l es S (k+1)
 | s,_,_,_,_=>s
theorem Bk:∀(l:List Oper) (es:List (Bool×Eff)) (s:F_) (S:Nat->Bool) (k:Nat),(∀i,k<=i->i<k+l.length->S i=true)->sel s l es S k=iN s l es
 | [],_,_,_,_,_=>by simp[sel,iN]
 | _::_,[],_,_,_,_=>by simp[sel,iN]
 | o::l,(b,e)::es,s,S,k,h=>by
  rw[sel,iN,d5 (h k (d7 _) s_)];exact Bk l es _ S (k+1) fun i h1 h2=>h i o_ (by simp only[c7];omega)
theorem oN:∀(l:List Oper) (es:List (Bool×Eff)) (s:F_) (S:Nat->Bool) (k:Nat),(∀i,k<=i->i<k+l.length->S i=false)->sel s l es S k=s
 | [],_,_,_,_,_=>by simp[sel]
 | _::_,[],_,_,_,_=>by simp[sel]
 | o::l,(b,e)::es,s,S,k,h=>by
  rw[sel,c8 (by rw[h k (d7 _) s_];simp)];exact oN l es _ S (k+1) fun i h1 h2=>h i o_ (by simp only[c7];omega)
theorem px:∀(l:List Oper) (es:List (Bool×Eff)) (s:F_) (S S':Nat->Bool) (k:Nat),(∀i,k<=i->S i=S' i)->sel s l es S k=sel s l es S' k
 | [],_,_,_,_,_,_=>by simp[sel]
 | _::_,[],_,_,_,_,_=>by simp[sel]
 | o::l,(b,e)::es,s,S,S',k,h=>by
  rw[sel,sel,h k (d7 _)];exact px l es _ S S' (k+1) fun i hi=>h i o_
theorem pc:∀(us:List (Id×Option AO)) (H H':Id->Option AO) (o:Id),o∈us.map (·.1)->bP H us o=bP H' us o
 | p::us,H,H',o,h=>by
  rw[bP,bP];by_cases h':o∈us.map (·.1)
  ·exact pc us _ _ o h'
  ·rw[cY us _ o h',cY us _ o h'];simp only[n9,d6,h',or_false]at h;rw[d5 h,d5 h]
structure Apart (d d':Option Nat) (e e':Eff):Prop where
 dst:∀t,d=some t->d'≠some t
 keys:∀o,o∈e.us.map (·.1)->o∉e'.us.map (·.1)
theorem GF (L:Nat->AV)(d:Option Nat)(v:AV)(t:Nat):nC L d v t=if d=some t then v else L t:=by
 cases d with
 | none=>rfl
 | some d=>
  show(bif Nat.beq t d then v else L t)=_;by_cases e:d=t
  ·subst e;simp
  ·rw[c8 (by simpa using e)]
   cases hb:Nat.beq t d with|false=>rfl|true=>exact absurd (r6 hb).symm e
theorem KU {s:F_}{d d':Option Nat}{e e':Eff}(h:Apart d d' e e'):(s.app d e).app d' e'=(s.app d' e').app d e:=by
 refine F_.ext' (fun t=>?_) (fun o=>?_) (fun n=>?_)
 ·show nC (nC s.L d e.v) d' e'.v t=nC (nC s.L d' e'.v) d e.v t;simp only[GF];by_cases h1:d=some t
  ·simp only[d5 h1,c8 (h.dst t h1)]
  ·simp only[c8 h1]
 ·show bP (bP s.H e.us) e'.us o=bP (bP s.H e'.us) e.us o;by_cases h1:o∈e.us.map (·.1)
  ·rw[cY e'.us _ o (h.keys o h1)];exact pc e.us _ _ o h1
  ·rw[cY e.us _ o h1];by_cases h2:o∈e'.us.map (·.1)
   ·exact pc e'.us _ _ o h2
   ·rw[cY e'.us _ o h2,cY e'.us _ o h2,cY e.us _ o h1]
 ·show((s.U n\/_)\/_)↔((s.U n\/_)\/_);constructor
  ·rintro((h|h)|h)
   ·exact .inl (.inl h)
   ·exact .inr h
   ·exact .inl (.inr h)
  ·rintro((h|h)|h)
   ·exact .inl (.inl h)
   ·exact .inr h
   ·exact .inl (.inr h)
theorem V101{p:Prop}(h:p:=by
 exact ih es _ (k+1) fun j o' b' e' h1 h2 h3=>Rw (j+1) o' b' e' (by rw[show k+(j+1)=k+1+j by omega];exact h1) aaf aay):p:=h
theorem Bt:∀(l:List Oper) (es:List (Bool×Eff)) (s:F_) (S:Nat->Bool) (k i:Nat) (o:Oper) (b:Bool) (e:Eff),l[i]?=some o->es[i]?=some (b,e)->S (k+i)=false->
  (∀j o' b' e',i<j->S (k+j)=true->l[j]?=some o'->es[j]?=some (b',e')->Apart o.dst o'.dst e e')->
  sel s l es (fun n=>if n=k+i then true else S n) k=(sel s l es S k).app o.dst e
 | [],_,_,_,_,i,_,_,_,h,_,_,_=>by simp at h
 | _::_,[],_,_,_,i,_,_,_,_,h,_,_=>by simp at h
 | o0::l,(b0,e0)::es,s,S,k,0,o,b,e,ho,he,hS,Rw=>by
  simp only[i8,Option.some.injEq,Prod.mk.injEq]at ho he;obtain⟨rfl,rfl⟩:=he;subst ho;rw[sel,sel];simp only[w9,if_true]at hS⊢;rw[c8 (by rw[hS];simp)]
  have e1:sel (s.app o0.dst e0) l es (fun n=>if n=k then true else S n) (k+1)=sel (s.app o0.dst e0) l es S (k+1):=
   px l es _ _ _ _ fun i hi=>c8 o_
  rw[e1]
  have push:∀(l:List Oper) (es:List (Bool×Eff)) (s:F_) (k:Nat),(∀j o' b' e',S (k+j)=true->l[j]?=some o'->es[j]?=some (b',e')->Apart o0.dst o'.dst e0 e')->sel (s.app o0.dst e0) l es S k=(sel s l es S k).app o0.dst e0:=by
   intro l
   induction l with
   | nil=>intro es s k _;simp[sel]
   | cons o1 l ih=>
    intro es s k Rw
    cases es with
    | nil=>simp[sel]
    | cons p es=>
     obtain⟨b1,e1⟩:=p;rw[sel,sel]
     cases hk:S k with
     | true=>
      simp only[if_true];rw[KU (Rw 0 o1 b1 e1 (by simpa using hk) s_ s_)]
      exact V101
     | false=>simp only[w8,if_false];exact V101
  exact push l es s (k+1) fun j o' b' e' h1 h2 h3=>Rw (j+1) o' b' e' o_ (by rw[show k+(j+1)=k+1+j by omega];exact h1) aaf aay
 | o0::l,(b0,e0)::es,s,S,k,i+1,o,b,e,ho,he,hS,Rw=>by
  rw[sel,sel];have hk:(if k=k+(i+1)then true else S k)=S k:=c8 o_;simp only[hk]
  have:=Bt l es (if S k then s.app o0.dst e0 else s) S (k+1) i o b e aau (by simpa using he) (by rw[show k+1+i=k+(i+1) by omega];exact hS)
   (fun j o' b' e' h1 h2 h3 h4=>Rw (j+1) o' b' e' o_ (by rw[show k+(j+1)=k+1+j by omega];exact h2) aay aaz)
  rw[show k+1+i=k+(i+1) by omega]at this;exact this
theorem KC:∀(l:List Oper) (es:List (Bool×Eff)) (s s':F_) (S S':Nat->Bool) (k t:Nat),s.L t=s'.L t->(∀j o',l[j]?=some o'->o'.dst=some t->S (k+j)=S' (k+j))->(sel s l es S k).L t=(sel s' l es S' k).L t
 | [],_,_,_,_,_,_,_,h,_=>by simpa [sel]using h
 | _::_,[],_,_,_,_,_,_,h,_=>by simpa [sel]using h
 | o::l,(b,e)::es,s,s',S,S',k,t,h,hS=>by
  rw[sel,sel];refine KC l es _ _ S S' (k+1) t ?_ fun j o' h1 h2=>by have:=hS (j+1) o' aal h2;rwa [show k+(j+1)=k+1+j by omega]at this
  have app_L:∀s:F_,(s.app o.dst e).L t=if o.dst=some t then e.v else s.L t:=fun s=>GF s.L o.dst e.v t
  by_cases hd:o.dst=some t
  ·have:=hS 0 o s_ hd;simp only[w9]at this;rw[this]
   cases S' k with
   | true=>
    show(s.app o.dst e).L t=(s'.app o.dst e).L t
    rw[app_L,app_L,d5 hd,d5 hd]
   | false=>exact h
  ·have e1:(if S k then s.app o.dst e else s).L t=s.L t:=(by cases S k<;>simp[app_L,hd]);have e2:(if S' k then s'.app o.dst e else s').L t=s'.L t:=(by cases S' k<;>simp[app_L,hd]);rw[e1,e2,h]
theorem Hq:∀(l:List Oper) (es:List (Bool×Eff)) (s s':F_) (S S':Nat->Bool) (k:Nat) (q:Id),s.H q=s'.H q->(∀j o' b' e',l[j]?=some o'->es[j]?=some (b',e')->q∈e'.us.map (·.1)->S (k+j)=S' (k+j))->(sel s l es S k).H q=(sel s' l es S' k).H q
 | [],_,_,_,_,_,_,_,h,_=>by simpa [sel]using h
 | _::_,[],_,_,_,_,_,_,h,_=>by simpa [sel]using h
 | o::l,(b,e)::es,s,s',S,S',k,q,h,hS=>by
  rw[sel,sel];refine Hq l es _ _ S S' (k+1) q ?_ fun j o' b' e' h1 h2 h3=>by have:=hS (j+1) o' b' e' aal aaf h3;rwa [show k+(j+1)=k+1+j by omega]at this
  by_cases hd:q∈e.us.map (·.1)
  ·have:=hS 0 o b e s_ s_ hd;simp only[w9]at this;rw[this]
   cases S' k with|true=>exact pc e.us _ _ q hd|false=>exact h
  ·have e1:(if S k then s.app o.dst e else s).H q=s.H q:=by cases S k with|true=>exact cY e.us _ q hd|false=>rfl
   have e2:(if S' k then s'.app o.dst e else s').H q=s'.H q:=by cases S' k with|true=>exact cY e.us _ q hd|false=>rfl
   rw[e1,e2,h]
theorem JT:∀(l:List Oper) (es:List (Bool×Eff)) (s:F_) (S:Nat->Bool) (k n:Nat),(sel s l es S k).U n->s.U n\/∃j o' b' e',S (k+j)=true/\l[j]?=some o'/\es[j]?=some (b',e')/\e'.new=some n
 | [],_,_,_,_,_,h=> .inl (by simpa [sel]using h)
 | _::_,[],_,_,_,_,h=> .inl (by simpa [sel]using h)
 | o::l,(b,e)::es,s,S,k,n,h=>by
  rw[sel]at h;rcases JT l es _ S (k+1) n h with h'|⟨j,o',b',e',h1,h2,h3,h4⟩
  ·cases hk:S k with
   | true=>
    rw[hk]at h';rcases h' with h'|h'
    ·exact .inl h'
    ·exact .inr ⟨0,o,b,e,by simpa using hk,s_,s_,h'⟩
   | false=>rw[hk]at h';exact .inl h'
  ·exact .inr ⟨j+1,o',b',e',by rw[show k+(j+1)=k+1+j by omega];exact h1,by simpa using h2,by simpa using h3,h4⟩
theorem memN_iff {t:Nat}{l:List Nat}:Nw t l=true↔t∈l:=by simp[Nw]
theorem HJ {ms:List Nat}:∀(js:List Nat) (m i:Nat),(BJ ms js m).testBit i=true->m.testBit i=true\/∃j∈js,i=j\/(ms.getD j 0).testBit i=true
 | [],m,i,h=> .inl h
 | j::js,m,i,h=>by
  rw[BJ]at h;rcases HJ js _ i h with h|⟨k,h1,h2⟩
  ·have h:((m ||| 2^j) ||| ms.getD j 0).testBit i=true:=h;rw[Nat.testBit_or,Nat.testBit_or,w7,w7]at h;rcases h with(h|h)|h
   ·exact .inl h
   ·rw[Nat.testBit_two_pow]at h;exact .inr ⟨j,s_,.inl (by simpa using(m6 h).symm)⟩
   ·exact .inr ⟨j,s_,.inr h⟩
  ·exact .inr ⟨k,by simp[h1],h2⟩
theorem wR:∀(l pre:List Oper) (ms:List Nat),pre++l=ops->ms.length=pre.length->(∀j i,(ms.getD j 0).testBit i=true->∃f,i∈anc ops f j)->∀j i,((Hh ms l).getD j 0).testBit i=true->∃f,i∈anc ops f j
 | [],_,ms,_,_,h,j,i,hb=>h j i hb
 | o::l,pre,ms,he,hl,h,j,i,hb=>by
  refine wR l (pre++[o]) (ms++[BJ ms (dl o) 0]) (by simpa using he) (by simp[hl]) (fun j i hb=>?_) j i hb;rcases D8 j ms.length with hj|hj|hj
  ·refine h j i ?_
   have e:(ms++[BJ ms (dl o) 0]).getD j 0=ms.getD j 0:=by simp only[List.getD_eq_getElem?_getD];rw[p9 hj]
   rwa [e]at hb
  ·subst hj;have e:(ms++[BJ ms (dl o) 0]).getD ms.length 0=BJ ms (dl o) 0:=s_;rw[e]at hb;have ho:ops[ms.length]?=some o:=(by rw[<-he,hl];simp);rcases HJ _ _ _ hb with h1|⟨k,h1,h2⟩
   ·simp at h1
   ·rcases h2 with rfl|h2
    ·exact⟨1,by simp only[anc,ho];exact u5.2 ⟨_,h1,s_⟩⟩
    ·obtain⟨f,hf⟩:=h k i h2;exact⟨f+1,by simp only[anc,ho];exact u5.2 ⟨k,h1,s5 _ hf⟩⟩
  ·have e:(ms++[BJ ms (dl o) 0]).getD j 0=0:=by simp only[List.getD_eq_getElem?_getD];rw[e9 aab];rfl
   rw[e]at hb;simp at hb
section
variable {m:Nat->Nat}
theorem sf:∀(l:List Oper) (log:Log) (k:Nat),rg ops m k l log=true->∀i o,l[i]?=some o->∀j∈dl o,j<k+i
 | [],_,_,_,i,o,h=>by simp at h
 | o0::l,[],k,h,_,_,_=>by simp[rg]at h
 | o0::l,r::log,k,h,i,o,ho=>by
  simp only[rg,c9,q7]at h
  cases i with
  | zero=>simp at ho;subst ho;intro j hj;simpa using h.1.1 j hj
  | succ i=>intro j hj;have:=sf l log (k+1) h.2 i o aau j hj;omega
theorem uM:∀(l:List Oper) (log:Log) (i:Nat) (o:Oper) (r:List Id×List Id) (k:Nat),wj ops m i o r k l log=true->∀j o' r',l[j]?=some o'->log[j]?=some r'->fy ops o o' r r'=false\/(m (k+j)).testBit i=true
 | [],_,_,_,_,_,_,j,o',r',h,_=>by simp at h
 | _::_,[],_,_,_,_,_,j,o',r',_,h=>by simp at h
 | o0::l,r0::log,i,o,r,k,h,j,o',r',ho,hr=>by
  simp only[wj,c9,w7,u9]at h
  cases j with
  | zero=>
   simp at ho hr;subst ho;subst hr
   exact h.1
  | succ j=>have:=uM l log i o r (k+1) h.2 j o' r' aau aaL;rwa [show k+1+j=k+(j+1) by omega]at this
theorem sb:∀(l:List Oper) (log:Log) (k:Nat),rg ops m k l log=true->∀i j o o' r r',i<j->l[i]?=some o->l[j]?=some o'->log[i]?=some r->log[j]?=some r'->fy ops o o' r r'=false\/(m (k+j)).testBit (k+i)=true
 | [],_,_,_,i,j,o,o',r,r',_,h,_,_,_=>by simp at h
 | _::_,[],_,_,i,j,o,o',r,r',_,_,_,h,_=>by simp at h
 | o0::l,r0::log,k,h,i,j,o,o',r,r',P5,h1,h2,h3,h4=>by
  simp only[rg,c9]at h;obtain⟨j,rfl⟩:∃j',j=j'+1:=⟨j-1,o_⟩
  cases i with
  | zero=>
   simp at h1 h3;subst h1;subst h3;have:=uM l log k o0 r0 (k+1) h.1.2 j o' r' aaf aaz
   rwa [show k+1+j=k+(j+1) by omega]at this
  | succ i=>have:=sb l log (k+1) h.2 i j o o' r r' o_ aal aaf aay aaz;rwa [show k+1+i=k+(i+1) by omega,show k+1+j=k+(j+1) by omega]at this
end
theorem DD {log:Log}(h:yh ops log=true):∀i o,ops[i]?=some o->∀j∈dl o,j<i:=fun i o ho j hj=>by
 have:=sf ops log 0 h i o ho j hj;omega
theorem uX {log:Log}(h:yh ops log=true)(i j:Nat)(o o':Oper)(r r':List Id×List Id)(P5:i<j)(h1:ops[i]?=some o)(h2:ops[j]?=some o')(h3:log[i]?=some r)(h4:log[j]?=some r'):fy ops o o' r r'=false\/∃f,i∈anc ops f j:=by
 rcases sb ops log 0 h i j o o' r r' P5 h1 h2 h3 h4 with h|h
 ·exact .inl h
 ·simp only[q8]at h;exact .inr (wR ops [] [] rfl rfl (fun j i hb=>by simp at hb) j i h)
theorem mO {S:Nat->Bool}(hS:∀i o,ops[i]?=some o->S i=true->∀j∈dl o,S j=true):∀(f i:Nat),S i=true->∀j∈anc ops f i,S j=true
 | 0,_,_,j,hj=>by simp[anc]at hj
 | f+1,i,hi,j,hj=>by
  simp only[anc]at hj;split at hj
  ·rename_i o ho;obtain⟨k,hk,hj⟩:=u5.1 hj;have ZR:=hS i o ho hi k hk;rcases d6.1 hj with rfl|hj
   ·exact ZR
   ·exact mO hS f k ZR j hj
  ·simp at hj
theorem Au {S:Nat->Bool}(hS:∀i o,ops[i]?=some o->S i=true->∀j∈dl o,S j=true){i:Nat}{o:Oper}(ho:ops[i]?=some o)(hr:∀j∈dl o,S j=true)(f:Nat):∀j∈anc ops f i,S j=true:=by
 intro j hj
 cases f with
 | zero=>simp[anc]at hj
 | succ f=>
  simp only[anc,ho]at hj;obtain⟨k,hk,hj⟩:=u5.1 hj;rcases d6.1 hj with rfl|hj
  ·exact hr j hk
  ·exact mO hS f k (hr k hk) j hj
theorem tj:∀(l:List Oper) (es:List (Bool×Eff)) (s:F_) (k:Nat),il P N ops s l es->∀i o b e,l[i]?=some o->es[i]?=some (b,e)->StepOK P N ops (sel s l es (fun n=>decide (n<k+i)) k) o b e
 | [],_,_,_,_,i,o,b,e,h,_=>by simp at h
 | _::_,[],_,_,h,_,_,_,_,_,_=>h.elim
 | o0::l,(b0,e0)::es,s,k,h,i,o,b,e,ho,he=>by
  cases i with
  | zero=>
   simp only[i8,Option.some.injEq,Prod.mk.injEq]at ho he;obtain⟨rfl,rfl⟩:=he;subst ho;rw[oN _ _ _ _ _ fun i h1 _=>by simp;omega]
   exact h.1
  | succ i=>have:=tj l es _ (k+1) h.2 i o b e aau (by simpa using he);rw[sel];have hd:decide (k<k+(i+1))=true:=s_;simp only[hd,if_true];rw[show k+(i+1)=k+1+i by omega];exact this
theorem pN:∀(l:List Oper) (es:List (Bool×Eff)) (s:F_) (T:Nat->Bool) (k d:Nat),s.U d->(sel s l es T k).U d
 | [],_,_,_,_,_,h=>by simpa [sel]using h
 | _::_,[],_,_,_,_,h=>by simpa [sel]using h
 | o::l,(b,e)::es,s,T,k,d,h=>by
  rw[sel];refine pN l es _ T (k+1) d ?_
  cases T k with|true=>exact .inl h|false=>exact h
theorem GN:∀(l:List Oper) (es:List (Bool×Eff)) (s:F_) (T:Nat->Bool) (k j d:Nat) (o':Oper) (b':Bool) (e':Eff),T (k+j)=true->l[j]?=some o'->es[j]?=some (b',e')->e'.new=some d->(sel s l es T k).U d
 | [],_,_,_,_,j,_,_,_,_,_,h,_,_=>by simp at h
 | _::_,[],_,_,_,j,_,_,_,_,_,_,h,_=>by simp at h
 | o::l,(b,e)::es,s,T,k,0,d,o',b',e',hT,hl,Rs,hn=>by
  simp only[i8,Option.some.injEq,Prod.mk.injEq,w9]at hl Rs hT;obtain⟨rfl,rfl⟩:=Rs;rw[sel,hT]
  exact pN l es _ T (k+1) d (.inr hn)
 | o::l,(b,e)::es,s,T,k,j+1,d,o',b',e',hT,hl,Rs,hn=>by
  rw[sel];exact GN l es _ T (k+1) j d o' b' e' (by rw[show k+1+j=k+(j+1) by omega];exact hT) aaK (by simpa using Rs) hn
theorem pV {s:F_}{es:List (Bool×Eff)}(ON:il P N ops s ops es){i j n:Nat}{o o':Oper}{b b':Bool}{e e':Eff}(P5:i<j)(h1:ops[i]?=some o)(h2:ops[j]?=some o')(h3:es[i]?=some (b,e))(h4:es[j]?=some (b',e'))(h5:e.new=some n)(h6:e'.new=some n):False:=by
 have hs:=tj ops es s 0 ON j o' b' e' h2 h4
 cases b' with
 | true=>exact(hs.yes rfl).2 n h6 (GN ops es s _ 0 i n o b e (by simpa using P5) h1 h3 h5)
 | false=>rw[hs.no rfl]at h6;cases h6
theorem Good.mono {o:Oper}{ev ev':Operand->AV}{H H':Id->Option AO}{e:Eff}(h:Good P o ev H e)(h1:∀x∈o.op.operands.toList,ev' x=ev x)(h2:∀id∈e.R,H' id=H id):Good P o ev' H' e:=
 fun N B M w0 ρ s a w Q K hc N4 hR hn hd hK=>h N B M w0 ρ s a w Q K hc (fun x hx=>(N4 x hx).trans (h1 x hx)) (fun id N8=>(hR id N8).trans (h2 id N8)) hn hd hK
theorem uf {L L':Nat->AV}{o:Oper}(h:∀t,t∈fK ops o->L' t=L t):∀x∈o.op.operands.toList,evL L' x=evL L x:=by
 intro x hx
 cases x with|tmp t=>exact h t (by simp only[fK,f0,List.mem_filterMap];exact .inl ⟨.tmp t,hx,rfl⟩)|const=>rfl|global=>rfl|func=>rfl
theorem V8{p:Prop}(h:p:=by
 intro listed PG hr i
 induction i using Nat.strongRecOn with
 | _ i ih=>
  intro hi
  cases hl:listed.getD i true with
  | true=>rfl
  | false=>
   have hm:i∈Region.ready .any ops.toArray listed:=by
    simp only[Region.ready,G6,F5,A7,hi,true_and,hl,H4,m7];have ho:ops.toArray[i]?=some ops[i]:=(by simp[hi]);rw[ho];simp only[s6,B1,Array.all_eq_true'];intro e he
    cases hb:Region.binds .any e with
    | false=>rfl
    | true=>have hj:e.on∈dl ops[i]:=p6.2 ⟨e,G6.2 ⟨by simpa using he,hb⟩,rfl⟩;have N2:=SU i ops[i] (f9 hi) e.on hj;have:=ih e.on o_ o_;have hs:e.on<listed.size:=o_;simp only[s9,w6 hs,B1]at this⊢;simp[this]
   rw[hr]at hm
   cases hm):p:=h
theorem V133{p:Prop}(h:p:=by
 intro listed ρ a w PG hc hr;rw[Bk ops es s _ 0 fun i _ hi=>QO listed PG hr i o_]at hc
 exact hQ ρ a w hc):p:=h
theorem V18{p:Prop}(h:p:=by
 intro listed ρ a w PG Rh PB hc
 have Xm:∀i,i<ops.length->listed.getD i true=true:=by
  have OH:((List.range ops.length).filter fun i=>listed.getD i true).length≥(List.range ops.length).length:=by simpa using Rh
  have R9:=List.length_filter_eq_length_iff.1 (Nat.le_antisymm (D4 _ _) OH);intro i hi;exact R9 i (F5.2 hi)
 have hr:Region.ready .any ops.toArray listed=[]:=by rw[Region.ready,List.filter_eq_nil_iff];intro i hi;have:=Xm i (by simpa using hi);simp[this]
 exact⟨hr,OL listed ρ a w PG hc hr⟩):p:=h
theorem V13{p:Prop}(h:p:=by
 simp only[Region.ready,G6,F5,A7,c9,u9]at hi;obtain⟨h1,h2,h3⟩:=hi;have ho:ops[i]?=some ops[i]:=f9 h1;refine⟨h2,ops[i],ho,fun j hj=>?_⟩;have OR:ops.toArray[i]?=some ops[i]:=by simp[h1]
 rw[OR]at h3;simp only[s6,B1,Array.all_eq_true']at h3;obtain⟨e,he,rfl⟩:=p6.1 hj;obtain⟨X9,PX⟩:=G6.1 he;have h4:=h3 e (by simpa using X9);simp only[PX,Bool.not_true,C5]at h4;have N2:=SU i ops[i] ho e.on hj;have hs:e.on<listed.size:=o_;simp only[s9,w6 hs,B1]at h4⊢
 exact h4):p:=h
theorem V135{p:Prop}(h:p:=by
 rw[N1];rcases l9 j ops.length with h'|h'
 ·exact h'
 ·rw[e9 h']at h1;cases h1):p:=h
theorem V79{p:Prop}(h:p:=by
 intro n;simp only[s9,Array.getElem?_setIfInBounds,S];by_cases hn:i=n
 ·subst hn;have:i<listed.size:=o_;simp[this]
 ·rw[c8 hn,c8 (fun e=>hn e.symm)]):p:=h
theorem V6{p:Prop}(h:p:=by
 have key:∀(l:List Nat),l.Nodup->i∈l->(l.filter fun n=>if n=i then true else S n).length=(l.filter fun n=>S n).length+1:=by
  intro l
  induction l with
  | nil=>intro _ h;cases h
  | cons x l ih=>
   intro Q0 hm;have Xu:=E6.1 Q0;by_cases hx:x=i
   ·subst hx
    have e1:(l.filter fun n=>if n=x then true else S n)=l.filter fun n=>S n:=by apply List.filter_congr;intro n hn;have:n≠x:=fun e=>Xu.1 (e▸hn);simp[this]
    simp only[B2,if_true,Tw,w8,if_false,c7];rw[e1]
   ·have:=ih Xu.2 (by
               rcases d6.1 hm with h|h;· exact absurd h.symm hx
               ·exact h)
    simp only[B2,c8 hx]
    cases S x
    ·simp only[w8,if_false];exact this
    ·simp only[if_true,c7];rw[this]
 have h1:((List.range ops.length).filter fun n=>(listed.setIfInBounds i true).getD n true)=(List.range ops.length).filter fun n=>if n=i then true else S n:=List.filter_congr fun n _=>Qr n
 rw[h1,key _ List.nodup_range (F5.2 O3)];have e:((List.range ops.length).filter fun n=>S n).length=((List.range ops.length).filter fun i=>listed.getD i true).length:=rfl
 omega):p:=h
theorem V57{p:Prop}(h:p:=by
 intro k o1 hk Sa j hj;rw[Qr]at Sa⊢;by_cases PU:j=i
 ·rw[d5 PU]
 ·rw[c8 PU];by_cases QZ:k=i
  ·subst QZ;rw[ho]at hk;injection hk with hk;subst hk;exact Qx j hj
  ·rw[c8 QZ]at Sa
   exact PB k o1 hk Sa j hj):p:=h
theorem V52{p:Prop}(h:p:=by
 intro v w' ρ' N6;rw[<-OQ]at N6;refine ih (listed.setIfInBounds i true) ρ' _ w' (by simpa using PG) WH SX ?_;rw[px ops es s (fun n=>(listed.setIfInBounds i true).getD n true) (fun n=>if n=i then true else S n) 0 fun n _=>Qr n]
 exact N6):p:=h
theorem V34{p:Prop}(h:p:=by
 have hg:=O5.guard;unfold fk at hg⊢;split at hg
 ·exact hg
 ·rename_i j want TJ;rcases hg with⟨dj,b1,k1,k2,k3⟩|⟨dj,k1,k2,k3⟩
  ·refine .inl ⟨dj,b1,k1,?_,k3⟩;rw[Qj dj (by simp only[fK,TJ,f0];right;rw[k1];simp)];exact k2
  ·refine .inr ⟨dj,k1,?_,k3⟩;rw[Qj dj (by simp only[fK,TJ,f0];right;rw[k1];simp)]
   exact k2):p:=h
theorem V26{p:Prop}(h:p:=by
 refine .inl (SV N B M w0 ρ (sel s ops es S 0) a w Q _ hc (fun _ _=>rfl) (fun _ _=>rfl) (fun d hd hU=>?_) O5.dst next);rcases JT ops es s S 0 d hU with h|⟨j,o',b',e',h1,h2,h3,h4⟩
 ·exact g2 d hd (pN ops es s _ 0 d h)
 ·simp only[q8]at h1;have PU:j≠i:=fun e=>by subst e;rw[Tw]at h1;cases h1
  rcases H6 PU with N2|UR
  ·exact pV ON N2 h2 ho h3 he h4 hd
  ·exact pV ON UR ho h2 he h3 hd h4):p:=h
theorem V97{p:Prop}(h:p:=by
 rw[c8 (by rw[hw];simp)];have hse:=O5.no rfl;subst hse
 exact next undef w ρ (hc.put O5.dst (av:= .tup []) ⟨#[],rfl,trivial⟩ aaO [])):p:=h
theorem HR {B:Nat}{M:Nat->Prop}{w0:Start}{Q:Exit->Act->World->Prop}(s:F_)(es:List (Bool×Eff))(N1:es.length=ops.length)(ON:il P N ops s ops es)(Rq:yh ops (es.map fun p=>(p.2.R,p.2.us.map (·.1)))=true)
  (hQ:∀ρ a w,Conc N B M w0 ρ (iN s ops es) a w->Q .normal a w):
  ∀(fuel:Nat) (listed:Array Bool) (ρ:Rho) (a:Act) (w:World),listed.size=ops.length->(ops.length<=fuel+((List.range ops.length).filter fun i=>listed.getD i true).length)->
   (∀i o,ops[i]?=some o->listed.getD i true=true->∀j∈dl o,listed.getD j true=true)->
   Conc N B M w0 ρ (sel s ops es (fun i=>listed.getD i true) 0) a w->wpAny P .any ops.toArray Q fuel listed a w:=by
 have SU:=DD (ops:=ops) Rq
 have QO:∀listed:Array Bool,listed.size=ops.length->Region.ready .any ops.toArray listed=[]->∀i,i<ops.length->listed.getD i true=true:=by exact V8
 have OL:∀(listed:Array Bool) (ρ:Rho) (a:Act) (w:World),listed.size=ops.length->Conc N B M w0 ρ (sel s ops es (fun i=>listed.getD i true) 0) a w->Region.ready .any ops.toArray listed=[]->Q .normal a w:=by exact V133
 intro fuel
 induction fuel with
 | zero=>exact V18
 | succ fuel ih=>
  intro listed ρ a w PG Rh PB hc;refine⟨OL listed ρ a w PG hc,fun i hi=>?_⟩
  obtain⟨SK,o,ho,Qx⟩:listed.getD i true=false/\∃o,ops[i]?=some o/\∀j∈dl o,listed.getD j true=true:=by exact V13
  have O3:i<ops.length:=by
   rcases l9 i ops.length with h'|h'
   ·exact h'
   ·rw[e9 h']at ho;cases ho
  obtain⟨b,e,he⟩:∃b e,es[i]?=some (b,e):=⟨_,_,f9 o_⟩;have O5:=tj ops es s 0 ON i o b e ho he;simp only[q8]at O5
  let S:Nat->Bool:=fun i=>listed.getD i true
  have OJ:∀j o' b' e',ops[j]?=some o'->es[j]?=some (b',e')->j≠i->(fy ops o o' (e.R,e.us.map (·.1)) (e'.R,e'.us.map (·.1))=true\/fy ops o' o (e'.R,e'.us.map (·.1)) (e.R,e.us.map (·.1))=true)->S j=decide (j<i):=by
   intro j o' b' e' OR Qd Ow OJ;have g1:(es.map fun p=>(p.2.R,p.2.us.map (·.1)))[i]?=some (e.R,e.us.map (·.1)):=(by simp[he]);have g2:(es.map fun p=>(p.2.R,p.2.us.map (·.1)))[j]?=some (e'.R,e'.us.map (·.1)):=by simp[Qd]
   have WJ:∀(a b:Oper) (ra rb:List Id×List Id),fy ops a b ra rb=true->fy ops b a rb ra=true:=by
    intro a b ra rb h;simp only[fy,w7,B0]at h⊢;rcases h with(((h|h)|h)|⟨k,h1,h2|h2⟩)|⟨k,h1,h2⟩
    ·exact .inl (.inl (.inl (.inr h)))
    ·exact .inl (.inl (.inl (.inl h)))
    ·refine .inl (.inl (.inr ?_));unfold mX at h⊢;split at h
     ·rename_i d d' e1 e2;rw[e1,e2];simp at h⊢;exact h.symm
     ·cases h
    ·exact .inr ⟨k,h1,h2⟩
    ·exact .inl (.inr ⟨k,memI_iff.1 h2,.inr (memI_iff.2 h1)⟩)
    ·exact .inl (.inr ⟨k,h1,.inl h2⟩)
   rcases H6 Ow with N2|UR
   ·have hd:decide (j<i)=true:=(by simpa using N2);rw[hd];have QW:fy ops o' o (e'.R,e'.us.map (·.1)) (e.R,e.us.map (·.1))=true:=OJ.elim (WJ _ _ _ _) id;rcases uX Rq j i o' o _ _ N2 OR ho g2 g1 with h|⟨f,h⟩
    ·rw[QW]at h;cases h
    ·exact Au PB ho Qx _ j h
   ·have hd:decide (j<i)=false:=(by simp;omega);rw[hd];have QW:fy ops o o' (e.R,e.us.map (·.1)) (e'.R,e'.us.map (·.1))=true:=OJ.elim id (WJ _ _ _ _);rcases uX Rq i j o o' _ _ UR ho OR g1 g2 with h|⟨f,h⟩
    ·rw[QW]at h;cases h
    ·cases hj:S j with
     | false=>rfl
     | true=>
      have:=mO PB _ j hj i h;rw[SK]at this
      cases this
  have Tw:S i=false:=SK
  have Qj:∀t,t∈fK ops o->(sel s ops es S 0).L t=(sel s ops es (fun n=>decide (n<i)) 0).L t:=by
   intro t ht;refine KC ops es s s S _ 0 t rfl fun j o' h1 h2=>?_;simp only[q8];by_cases PU:j=i
   ·subst PU;rw[Tw];simp
   ·have Pg:j<es.length:=by exact V135
    refine OJ j o' _ _ h1 (f9 Pg) PU (.inl ?_);simp only[fy,w7];refine .inl (.inl (.inl (.inr ?_)));simp only[xV,h2];exact memN_iff.2 ht
  have W0:∀q∈e.R,(sel s ops es S 0).H q=(sel s ops es (fun n=>decide (n<i)) 0).H q:=by
   intro q hq;refine Hq ops es s s S _ 0 q rfl fun j o' b' e' h1 h2 h3=>?_;simp only[q8];by_cases PU:j=i
   ·subst PU;rw[Tw];simp
   ·refine OJ j o' b' e' h1 h2 PU (.inl ?_);simp only[fy,w7,B0];exact .inr ⟨q,h3,memI_iff.2 hq⟩
  have Rw:∀j o' b' e',i<j->S (0+j)=true->ops[j]?=some o'->es[j]?=some (b',e')->Apart o.dst o'.dst e e':=by
   intro j o' b' e' P5 UK h1 h2;simp only[q8]at UK
   have TA:fy ops o o' (e.R,e.us.map (·.1)) (e'.R,e'.us.map (·.1))=false:=by
    cases N6:fy ops o o' (e.R,e.us.map (·.1)) (e'.R,e'.us.map (·.1))with
    | false=>rfl
    | true=>have:=OJ j o' b' e' h1 h2 o_ (.inl N6);rw[UK]at this;simp at this;omega
   simp only[fy,C3,F6,w7,not_or]at TA;obtain⟨⟨⟨_,h5⟩,h6⟩,h7⟩:=TA;refine⟨fun t ht Zg=>?_,fun q hq Oy=>?_⟩
   ·simp[mX,ht,Zg]at h5
   ·exact(h6 q hq).2 (memI_iff.2 Oy)
  have OQ:(sel s ops es (fun n=>if n=i then true else S n) 0)=(sel s ops es S 0).app o.dst e:=by have:=Bt ops es s S 0 i o b e ho he (by simpa using Tw) Rw;simpa using this
  have Qr:∀n,(listed.setIfInBounds i true).getD n true=(if n=i then true else S n):=by exact V79
  have WH:ops.length<=fuel+((List.range ops.length).filter fun n=>(listed.setIfInBounds i true).getD n true).length:=by exact V6
  have SX:∀k o1,ops[k]?=some o1->(listed.setIfInBounds i true).getD k true=true->∀j∈dl o1,(listed.setIfInBounds i true).getD j true=true:=by exact V57
  have next:∀(v:Value) (w':World) (ρ':Rho),Conc N B M w0 ρ' ((sel s ops es S 0).app o.dst e) (a.put o.dst v) w'->wpAny P .any ops.toArray Q fuel (listed.setIfInBounds i true) (a.put o.dst v) w':=by exact V52
  have S9:fk ops (sel s ops es S 0) o b:=by exact V34
  have hw:=tL (ops:=ops) hc S9;unfold wpOp;have OR:ops.toArray[i]?=some o:=by simpa using ho
  rw[OR];show if Region.wanted o (yielded ops.toArray a.tmps)=true then _ else _
  cases b with
  | true=>
   rw[d5 hw];obtain⟨g1,g2⟩:=O5.yes rfl;have SV:=g1.mono (uf Qj) W0
   exact V26
  | false=>exact V97
end
def na (ops:List Oper)(a b:Oper)(ra rb:List Id×List Id):Bool:=
 xV a (fK ops b)||xV b (fK ops a)||mX a b||ra.2.any (fun k=>mc k rb.1||mc k rb.2)
def clX (ops:List Oper)(xi xj i j:Nat)(a b:Oper)(ra rb:List Id×List Id):Bool:=
 bif Nat.beq i xi&&Nat.beq j xj then na ops a b ra rb else bif Nat.beq j xi&&Nat.beq i xj then na ops b a rb ra else fy ops a b ra rb||fy ops b a rb ra
def sQ (ops:List Oper)(xi xj:Nat)(m:Nat->Nat)(i:Nat)(o:Oper)(r:List Id×List Id):Nat->List Oper->Log->Bool
 | j,o'::l,r'::log=>(!clX ops xi xj i j o o' r r'||Nat.testBit (m j) i)&&sQ ops xi xj m i o r (j+1) l log
 | _,_,_=>true
def nE (ops:List Oper)(xi xj:Nat)(m:Nat->Nat):Nat->List Oper->Log->Bool
 | i,o::l,r::log=>(dl o).all (fun j=>Nat.blt j i)&&sQ ops xi xj m i o r (i+1) l log&&nE ops xi xj m (i+1) l log
 | _,[],[]=>true
 | _,_,_=>false
def ol (ops:List Oper)(xi xj:Nat)(log:Log):Bool:=Nat.blt xi xj&&nE ops xi xj (fun j=>(Hh [] ops).getD j 0) 0 ops log
def w1T (P:Program)(Γ:Env)(N:Nat)(o:Oper)(st:St)(K:St->Eff->Prop):Prop:=
 match o.dst with
 | some d=>(match Nat.blt d N with
   | true=>sem P Γ d o (evL (dS st.fr)) (ct st.h) fun e=>
    (
     match e.new with
     | some n=>(match used st.u n with
      | false=>st.put (some d) e fun N5 _=>K N5 e
      | true=>False)
     | none=>st.put (some d) e fun N5 _=>K N5 e)
   | false=>False)
 | none=>sem P Γ (100000+st.u.length) o (evL (dS st.fr)) (ct st.h) fun e=>
   (
   match e.new with
   | some n=>(match used st.u n with
     | false=>st.put none e fun N5 _=>K N5 e
     | true=>False)
   | none=>st.put none e fun N5 _=>K N5 e)
abbrev Hy (P:Program)(Γ:Env)(N:Nat):List Oper->St->List (St×Eff)->(St->List (St×Eff)->Prop)->Prop
 | [],st,tr,K=>K st tr
 | o::rest,st,tr,K=>
  match o.guard with
  | none=>w1T P Γ N o st fun N5 e=>Hy P Γ N rest N5 ((st,e)::tr) K
  | some _=>False
def LP:List (St×Eff)->Log
 | []=>[]
 | p::l=>(p.2.R,p.2.us.map (·.1))::LP l
def MA (P:Program)(Γ:Env)(ops:List Oper)(xi xj:Nat)(tr:List (St×Eff)):Prop:=
 match ops[xi]?,tr[xi]?,tr[xj]? with
 | some o,some (sti,ei),some (_,ej)=>sem P Γ (cp o sti.u) o (evL (dS sti.fr)) (ct (vi ej.us sti.h)) fun e=>e=ei
 | _,_,_=>False
def MB (P:Program)(Γ:Env)(N:Nat)(ops:List Oper)(xi xj:Nat)(st:St)(K:St->Prop):Prop:=
 Hy P Γ N ops st [] fun N5 tr=>ol ops xi xj (LP tr.reverse)=true/\MA P Γ ops xi xj tr.reverse/\K N5
section
variable {P:Program} {Γ:Env} {N:Nat} {ops:List Oper} {m:Nat->Nat} {xi xj:Nat}
theorem iS (ops:List Oper)(xi xj i j:Nat)(a b:Oper)(ra rb:List Id×List Id):
  (i=xi/\j=xj/\clX ops xi xj i j a b ra rb=na ops a b ra rb)\/(j=xi/\i=xj/\(i≠xi\/j≠xj)/\clX ops xi xj i j a b ra rb=na ops b a rb ra)\/
  (¬(i=xi/\j=xj)/\¬(j=xi/\i=xj)/\clX ops xi xj i j a b ra rb=(fy ops a b ra rb||fy ops b a rb ra)):=by
 have hb:∀p q p' q':Nat,(Nat.beq p q&&Nat.beq p' q')=true↔p=q/\p'=q':=fun p q p' q'=>by
  rw[c9];exact⟨fun h=>⟨r6 h.1,r6 h.2⟩,fun h=>by obtain⟨rfl,rfl⟩:=h;simp⟩
 unfold clX
 cases h1:(Nat.beq i xi&&Nat.beq j xj)with
 | true=>exact .inl ⟨((hb _ _ _ _).1 h1).1,((hb _ _ _ _).1 h1).2,rfl⟩
 | false=>
  have n1:¬(i=xi/\j=xj):=fun h=>by rw[(hb _ _ _ _).2 h]at h1;cases h1
  cases h2:(Nat.beq j xi&&Nat.beq i xj)with
  | true=>
   refine .inr (.inl ⟨((hb _ _ _ _).1 h2).1,((hb _ _ _ _).1 h2).2,?_,rfl⟩);by_cases e:i=xi
   ·exact .inr fun e2=>n1 ⟨e,e2⟩
   ·exact .inl e
  | false=>exact .inr (.inr ⟨n1,(fun h=>by rw[(hb _ _ _ _).2 h]at h2;cases h2),rfl⟩)
theorem Jy {i j:Nat}{a b:Oper}{ra rb:List Id×List Id}(hx:xi<xj)(h:clX ops xi xj i j a b ra rb=true):clX ops xi xj j i b a rb ra=true:=by
 rcases iS ops xi xj i j a b ra rb with⟨e1,e2,e⟩|⟨e1,e2,_,e⟩|⟨n1,n2,e⟩<;>rw[e]at h
 ·rcases iS ops xi xj j i b a rb ra with⟨g1,g2,g⟩|⟨g1,g2,_,g⟩|⟨g1,g2,g⟩<;>rw[g]
  ·omega
  ·exact h
  ·exact absurd ⟨e1,e2⟩ g2
 ·rcases iS ops xi xj j i b a rb ra with⟨g1,g2,g⟩|⟨g1,g2,_,g⟩|⟨g1,g2,g⟩<;>rw[g]
  ·exact h
  ·omega
  ·exact absurd ⟨e1,e2⟩ g1
 ·rcases iS ops xi xj j i b a rb ra with⟨g1,g2,g⟩|⟨g1,g2,_,g⟩|⟨g1,g2,g⟩<;>rw[g]
  ·exact absurd ⟨g1,g2⟩ n2
  ·exact absurd ⟨g1,g2⟩ n1
  ·rw[Bool.or_comm];exact h
theorem Kf {i j:Nat}{o o':Oper}{r r':List Id×List Id}(h:xV o' (fK ops o)=true):clX ops xi xj i j o o' r r'=true:=by rcases iS ops xi xj i j o o' r r' with⟨e1,e2,e⟩|⟨e1,e2,_,e⟩|⟨n1,n2,e⟩<;>rw[e]<;>simp[na,fy,h]
theorem AX {i j:Nat}{o o':Oper}{r r':List Id×List Id}(hx:¬(i=xi/\j=xj))(h:r'.2.any (fun k=>mc k r.1)=true):clX ops xi xj i j o o' r r'=true:=by
 have h2:r'.2.any (fun k=>mc k r.1||mc k r.2)=true:=by rw[B0]at h⊢;obtain⟨q,h1,h2⟩:=h;exact⟨q,h1,by rw[h2];rfl⟩
 rcases iS ops xi xj i j o o' r r' with⟨e1,e2,e⟩|⟨e1,e2,_,e⟩|⟨n1,n2,e⟩<;>rw[e]
 ·exact absurd ⟨e1,e2⟩ hx
 ·simp only[na,h2,I2]
 ·simp only[fy,h,I2,I3]
theorem HT {i j:Nat}{o o':Oper}{r r':List Id×List Id}(hx:xi<xj)(P5:i<j)(h:clX ops xi xj i j o o' r r'=false):mX o o'=false/\∀q∈r.2,¬mc q r'.2=true:=by
 have key:na ops o o' r r'=false->mX o o'=false/\∀q∈r.2,¬mc q r'.2=true:=by intro h;simp only[na,C3,F6,w7,not_or]at h;exact⟨h.1.2,fun q hq=>(h.2 q hq).2⟩
 rcases iS ops xi xj i j o o' r r' with⟨e1,e2,e⟩|⟨e1,e2,_,e⟩|⟨n1,n2,e⟩<;>rw[e]at h
 ·exact key h
 ·omega
 ·simp only[C3]at h;refine key ?_;have:=h.1;simp only[fy,C3]at this;simp only[na,C3];exact this.1
theorem qq:∀(l:List Oper) (log:Log) (k:Nat),nE ops xi xj m k l log=true->∀i o,l[i]?=some o->∀j∈dl o,j<k+i
 | [],_,_,_,i,o,h=>by simp at h
 | o0::l,[],k,h,_,_,_=>by simp[nE]at h
 | o0::l,r::log,k,h,i,o,ho=>by
  simp only[nE,c9,q7]at h
  cases i with
  | zero=>simp at ho;subst ho;intro j hj;simpa using h.1.1 j hj
  | succ i=>intro j hj;have:=qq l log (k+1) h.2 i o aau j hj;omega
theorem sX:∀(l:List Oper) (log:Log) (i:Nat) (o:Oper) (r:List Id×List Id) (k:Nat),sQ ops xi xj m i o r k l log=true->∀j o' r',l[j]?=some o'->log[j]?=some r'->clX ops xi xj i (k+j) o o' r r'=false\/(m (k+j)).testBit i=true
 | [],_,_,_,_,_,_,j,o',r',h,_=>by simp at h
 | _::_,[],_,_,_,_,_,j,o',r',_,h=>by simp at h
 | o0::l,r0::log,i,o,r,k,h,j,o',r',ho,hr=>by
  simp only[sQ,c9,w7,u9]at h
  cases j with
  | zero=>
   simp at ho hr;subst ho;subst hr
   exact h.1
  | succ j=>have:=sX l log i o r (k+1) h.2 j o' r' aau aaL;rwa [show k+1+j=k+(j+1) by omega]at this
theorem qs:∀(l:List Oper) (log:Log) (k:Nat),nE ops xi xj m k l log=true->∀i j o o' r r',i<j->l[i]?=some o->l[j]?=some o'->log[i]?=some r->log[j]?=some r'->clX ops xi xj (k+i) (k+j) o o' r r'=false\/(m (k+j)).testBit (k+i)=true
 | [],_,_,_,i,j,o,o',r,r',_,h,_,_,_=>by simp at h
 | _::_,[],_,_,i,j,o,o',r,r',_,_,_,h,_=>by simp at h
 | o0::l,r0::log,k,h,i,j,o,o',r,r',P5,h1,h2,h3,h4=>by
  simp only[nE,c9]at h;obtain⟨j,rfl⟩:∃j',j=j'+1:=⟨j-1,o_⟩
  cases i with
  | zero=>
   simp at h1 h3;subst h1;subst h3;have:=sX l log k o0 r0 (k+1) h.1.2 j o' r' aaf aaz
   rwa [show k+1+j=k+(j+1) by omega]at this
  | succ i=>have:=qs l log (k+1) h.2 i j o o' r r' o_ aal aaf aay aaz;rwa [show k+1+i=k+(i+1) by omega,show k+1+j=k+(j+1) by omega]at this
theorem BI {log:Log}(h:ol ops xi xj log=true):∀i o,ops[i]?=some o->∀j∈dl o,j<i:=fun i o ho j hj=>by
 have:=qq ops log 0 (by unfold ol at h;rw[c9]at h;exact h.2) i o ho j hj;omega
theorem so {log:Log}(h:ol ops xi xj log=true)(i j:Nat)(o o':Oper)(r r':List Id×List Id)(P5:i<j)(h1:ops[i]?=some o)(h2:ops[j]?=some o')(h3:log[i]?=some r)(h4:log[j]?=some r'):clX ops xi xj i j o o' r r'=false\/∃f,i∈anc ops f j:=by
 rcases qs ops log 0 (by unfold ol at h;rw[c9]at h;exact h.2) i j o o' r r' P5 h1 h2 h3 h4 with h|h
 ·simp only[q8]at h;exact .inl h
 ·simp only[q8]at h;exact .inr (wR ops [] [] rfl rfl (fun j i hb=>by simp at hb) j i h)
theorem CZ:∀(l:List Oper) (es:List (Bool×Eff)) (s:F_) (S:Nat->Bool) (k j:Nat) (o:Oper) (b:Bool) (e:Eff) (q:Id),l[j]?=some o->es[j]?=some (b,e)->S (k+j)=true->q∈e.us.map (·.1)->
  (∀j' o' b' e',j<j'->l[j']?=some o'->es[j']?=some (b',e')->q∈e'.us.map (·.1)->S (k+j')=false)->∀H:Id->Option AO,(sel s l es S k).H q=bP H e.us q
 | [],_,_,_,_,j,_,_,_,_,h,_,_,_,_=>by simp at h
 | _::_,[],_,_,_,j,_,_,_,_,_,h,_,_,_=>by simp at h
 | o0::l,(b0,e0)::es,s,S,k,0,o,b,e,q,ho,he,hS,hq,Px=>by
  intro H;simp only[i8,Option.some.injEq,Prod.mk.injEq,w9]at ho he hS;obtain⟨rfl,rfl⟩:=he;subst ho;rw[sel,d5 hS]
  have h1:=Hq l es (s.app o0.dst e0) (s.app o0.dst e0) S (fun _=>false) (k+1) q rfl fun j o' b' e' h1 h2 h3=>by
   have:=Px (j+1) o' b' e' o_ aal aaf h3;rwa [show k+(j+1)=k+1+j by omega]at this
  rw[h1,oN l es _ _ _ fun _ _ _=>rfl]
  exact pc e0.us _ _ q hq
 | o0::l,(b0,e0)::es,s,S,k,j+1,o,b,e,q,ho,he,hS,hq,Px=>by
  intro H;rw[sel];refine CZ l es _ S (k+1) j o b e q aau (by simpa using he) (by rw[show k+1+j=k+(j+1) by omega];exact hS) hq (fun j' o' b' e' h0 h1 h2 h3=>?_) H;have:=Px (j'+1) o' b' e' o_ aal aaf h3;rwa [show k+(j'+1)=k+1+j' by omega]at this
theorem MW {o:Oper}{st:St}{K:St->Eff->Prop}(hΓ:Γ.chk P=true)(h:w1T P Γ N o st K):
  ∃e,K (st.app o.dst e) e/\(∀d,o.dst=some d->d<N)/\Good P o (evL st.fs.L) st.fs.H e/\(∀n,e.new=some n->¬st.fs.U n):=by
 have fin:∀(d:Option Nat) (e:Eff),(match e.new with
     | some n=>(match used st.u n with
      | false=>st.put d e fun N5 _=>K N5 e
      | true=>False)
     | none=>st.put d e fun N5 _=>K N5 e)->K (st.app d e) e/\∀n,e.new=some n->¬st.fs.U n:=by
  exact V44
 unfold w1T at h;exact V29
theorem GO:∀(T:List (St×Eff)),LP T=(T.map fun p=>(true,p.2)).map fun p=>(p.2.R,p.2.us.map (·.1))
 | []=>rfl
 | p::T=>by rw[LP,GO T];rfl
theorem Dn (hΓ:Γ.chk P=true):∀(l:List Oper) (st:St) (tr:List (St×Eff)) (K:St->List (St×Eff)->Prop),Hy P Γ N l st tr K->
  ∃(T:List (St×Eff)) (N5:St),T.length=l.length/\il P N ops st.fs l (T.map fun p=>(true,p.2))/\(∀k i p,T[i]?=some p->p.1.fs=sel st.fs l (T.map fun p=>(true,p.2)) (fun n=>decide (n<k+i)) k)/\N5.fs=iN st.fs l (T.map fun p=>(true,p.2))/\K N5 (T.reverse++tr)
 | [],st,tr,K,h=>⟨[],st,rfl,trivial,fun _ _ _ h=>by simp at h,rfl,h⟩
 | o::rest,st,tr,K,h=>by
  rw[Hy]at h;split at h
  ·rename_i TJ;obtain⟨e,h1,h2,h3,h4⟩:=MW hΓ h;obtain⟨T,N5,g1,g2,g3,g4,g5⟩:=Dn hΓ rest _ _ _ h1;rw[BM]at g2 g4;refine⟨(st,e)::T,N5,by simp[g1],⟨⟨h2,by unfold fk;rw[TJ],fun _=>⟨h3,h4⟩,fun h=>by cases h⟩,g2⟩,fun k i p hp=>?_,g4,by simpa using g5⟩
   cases i with
   | zero=>
    simp only[i8,Option.some.injEq]at hp;subst hp
    rw[oN _ _ _ _ _ fun i h1 _=>by simp;omega]
   | succ i=>have:=g3 (k+1) i p (by simpa using hp);rw[BM]at this;rw[this,n9,sel];have hd:decide (k<k+(i+1))=true:=s_;simp only[hd,if_true];rw[show k+(i+1)=k+1+i by omega]
  ·exact h.elim
 termination_by l=>l.length
theorem FH {xi xj:Nat}{B:Nat}{M:Nat->Prop}{w0:Start}{Q:Exit->Act->World->Prop}(s:F_)(es:List (Bool×Eff))(N1:es.length=ops.length)(ON:il P N ops s ops es)(Xn:xi<xj)(Rq:ol ops xi xj (es.map fun p=>(p.2.R,p.2.us.map (·.1)))=true)
  {oi oj:Oper} {bj:Bool} {ei ej:Eff} (Vx:ops[xi]?=some oi) (YI:es[xi]?=some (true,ei)) (hoj:ops[xj]?=some oj) (Vb:es[xj]?=some (bj,ej)) (hX:Good P oi (evL (sel s ops es (fun n=>decide (n<xi)) 0).L) (bP (sel s ops es (fun n=>decide (n<xi)) 0).H ej.us) ei)
  (hQ:∀ρ a w,Conc N B M w0 ρ (iN s ops es) a w->Q .normal a w):
  ∀(fuel:Nat) (listed:Array Bool) (ρ:Rho) (a:Act) (w:World),listed.size=ops.length->(ops.length<=fuel+((List.range ops.length).filter fun i=>listed.getD i true).length)->
   (∀i o,ops[i]?=some o->listed.getD i true=true->∀j∈dl o,listed.getD j true=true)->
   Conc N B M w0 ρ (sel s ops es (fun i=>listed.getD i true) 0) a w->wpAny P .any ops.toArray Q fuel listed a w:=by
 have SU:=BI (ops:=ops) Rq
 have QO:∀listed:Array Bool,listed.size=ops.length->Region.ready .any ops.toArray listed=[]->∀i,i<ops.length->listed.getD i true=true:=by exact V8
 have OL:∀(listed:Array Bool) (ρ:Rho) (a:Act) (w:World),listed.size=ops.length->Conc N B M w0 ρ (sel s ops es (fun i=>listed.getD i true) 0) a w->Region.ready .any ops.toArray listed=[]->Q .normal a w:=by exact V133
 intro fuel
 induction fuel with
 | zero=>exact V18
 | succ fuel ih=>
  intro listed ρ a w PG Rh PB hc;refine⟨OL listed ρ a w PG hc,fun i hi=>?_⟩
  obtain⟨SK,o,ho,Qx⟩:listed.getD i true=false/\∃o,ops[i]?=some o/\∀j∈dl o,listed.getD j true=true:=by exact V13
  have O3:i<ops.length:=by
   rcases l9 i ops.length with h'|h'
   ·exact h'
   ·rw[e9 h']at ho;cases ho
  obtain⟨b,e,he⟩:∃b e,es[i]?=some (b,e):=⟨_,_,f9 o_⟩;have O5:=tj ops es s 0 ON i o b e ho he;simp only[q8]at O5
  let S:Nat->Bool:=fun i=>listed.getD i true
  have OJ:∀j o' b' e',ops[j]?=some o'->es[j]?=some (b',e')->j≠i->clX ops xi xj i j o o' (e.R,e.us.map (·.1)) (e'.R,e'.us.map (·.1))=true->S j=decide (j<i):=by
   intro j o' b' e' OR Qd Ow OJ;have g1:(es.map fun p=>(p.2.R,p.2.us.map (·.1)))[i]?=some (e.R,e.us.map (·.1)):=(by simp[he]);have g2:(es.map fun p=>(p.2.R,p.2.us.map (·.1)))[j]?=some (e'.R,e'.us.map (·.1)):=(by simp[Qd]);rcases H6 Ow with N2|UR
   ·have hd:decide (j<i)=true:=(by simpa using N2);rw[hd];have QW:clX ops xi xj j i o' o (e'.R,e'.us.map (·.1)) (e.R,e.us.map (·.1))=true:=Jy Xn OJ;rcases so Rq j i o' o _ _ N2 OR ho g2 g1 with h|⟨f,h⟩
    ·rw[QW]at h;cases h
    ·exact Au PB ho Qx _ j h
   ·have hd:decide (j<i)=false:=(by simp;omega);rw[hd];rcases so Rq i j o o' _ _ UR ho OR g1 g2 with h|⟨f,h⟩
    ·rw[OJ]at h;cases h
    ·cases hj:S j with
     | false=>rfl
     | true=>
      have:=mO PB _ j hj i h;rw[SK]at this
      cases this
  have Tw:S i=false:=SK
  have Qj:∀t,t∈fK ops o->(sel s ops es S 0).L t=(sel s ops es (fun n=>decide (n<i)) 0).L t:=by
   intro t ht;refine KC ops es s s S _ 0 t rfl fun j o' h1 h2=>?_;simp only[q8];by_cases PU:j=i
   ·subst PU;rw[Tw];simp
   ·have Pg:j<es.length:=by exact V135
    refine OJ j o' _ _ h1 (f9 Pg) PU (Kf ?_);simp only[xV,h2];exact memN_iff.2 ht
  have Sw:∀q∈e.R,(∀j o' b' e',ops[j]?=some o'->es[j]?=some (b',e')->q∈e'.us.map (·.1)->i=xi->j=xj->S j=false)->(sel s ops es S 0).H q=(sel s ops es (fun n=>decide (n<i)) 0).H q:=by
   intro q hq Px;refine Hq ops es s s S _ 0 q rfl fun j o' b' e' h1 h2 h3=>?_;simp only[q8];by_cases PU:j=i
   ·subst PU;rw[Tw];simp
   ·by_cases hx:i=xi/\j=xj
    ·rw[Px j o' b' e' h1 h2 h3 hx.1 hx.2];symm;rw[n7];omega
    ·refine OJ j o' b' e' h1 h2 PU ?_;exact AX hx (B0.2 ⟨q,h3,memI_iff.2 hq⟩)
  have WN:Good P o (evL (sel s ops es S 0).L) (sel s ops es S 0).H e\/b=false:=by
   cases b with
   | false=>exact .inr rfl
   | true=>
    left;obtain⟨k1,_⟩:=O5.yes rfl;by_cases hx:i=xi/\S xj=true
    ·obtain⟨S7,UK⟩:=hx;subst S7;have eo:oi=o:=(by rw[ho]at Vx;injection Vx with h;exact h.symm);have ee:ei=e:=(by rw[he]at YI;injection YI with h;injection h with _ h;exact h.symm);subst eo;subst ee;have hg:=hX;refine hg.mono (uf Qj) fun q hq=>?_;by_cases hk:q∈ej.us.map (·.1)
     ·have h1:=CZ ops es s S 0 xj oj bj ej q hoj Vb (by simpa using UK) hk (fun j o' b' e' hj h1 h2 h3=>by
       simp only[q8];have PU:j≠i:=o_;have hx:¬(i=i/\j=xj):=fun h=>o_;have:=OJ j o' b' e' h1 h2 PU (AX hx (B0.2 ⟨q,h3,memI_iff.2 hq⟩))
       rw[this,n7];omega) (sel s ops es (fun n=>decide (n<i)) 0).H
      exact h1
     ·rw[cY ej.us _ q hk];refine Sw q hq fun j o' b' e' h1 h2 h3 _ P3=>?_;subst P3;rw[Vb]at h2;injection h2 with h2;injection h2 with _ h2;subst h2;exact absurd h3 hk
    ·refine k1.mono (uf Qj) fun q hq=>Sw q hq fun j o' b' e' h1 h2 h3 S7 P3=>?_;subst P3
     cases hS:S j with|false=>rfl|true=>exact absurd ⟨S7,hS⟩ hx
  have Rw:∀j o' b' e',i<j->S (0+j)=true->ops[j]?=some o'->es[j]?=some (b',e')->Apart o.dst o'.dst e e':=by
   intro j o' b' e' P5 UK h1 h2;simp only[q8]at UK
   have TA:clX ops xi xj i j o o' (e.R,e.us.map (·.1)) (e'.R,e'.us.map (·.1))=false:=by
    cases N6:clX ops xi xj i j o o' (e.R,e.us.map (·.1)) (e'.R,e'.us.map (·.1))with
    | false=>rfl
    | true=>have:=OJ j o' b' e' h1 h2 o_ N6;rw[UK]at this;simp at this;omega
   obtain⟨h5,h6⟩:=HT Xn P5 TA;refine⟨fun t ht Zg=>?_,fun q hq Oy=>?_⟩
   ·simp[mX,ht,Zg]at h5
   ·exact h6 q hq (memI_iff.2 Oy)
  have OQ:(sel s ops es (fun n=>if n=i then true else S n) 0)=(sel s ops es S 0).app o.dst e:=by have:=Bt ops es s S 0 i o b e ho he (by simpa using Tw) Rw;simpa using this
  have Qr:∀n,(listed.setIfInBounds i true).getD n true=(if n=i then true else S n):=by exact V79
  have WH:ops.length<=fuel+((List.range ops.length).filter fun n=>(listed.setIfInBounds i true).getD n true).length:=by exact V6
  have SX:∀k o1,ops[k]?=some o1->(listed.setIfInBounds i true).getD k true=true->∀j∈dl o1,(listed.setIfInBounds i true).getD j true=true:=by exact V57
  have next:∀(v:Value) (w':World) (ρ':Rho),Conc N B M w0 ρ' ((sel s ops es S 0).app o.dst e) (a.put o.dst v) w'->wpAny P .any ops.toArray Q fuel (listed.setIfInBounds i true) (a.put o.dst v) w':=by exact V52
  have S9:fk ops (sel s ops es S 0) o b:=by exact V34
  have hw:=tL (ops:=ops) hc S9;unfold wpOp;have OR:ops.toArray[i]?=some o:=by simpa using ho
  rw[OR];show if Region.wanted o (yielded ops.toArray a.tmps)=true then _ else _
  cases b with
  | true=>
   rw[d5 hw];obtain⟨g1,g2⟩:=O5.yes rfl;have SV:Good P o (evL (sel s ops es S 0).L) (sel s ops es S 0).H e:=WN.resolve_right s_
   exact V26
  | false=>exact V97
theorem JN (hΓ:Γ.chk P=true){st:St}{K:St->Prop}(h:MB P Γ N ops xi xj st K):∃es N5,es.length=ops.length/\il P N ops st.fs ops es/\xi<xj/\ol ops xi xj (es.map fun p=>(p.2.R,p.2.us.map (·.1)))=true/\
  (∃oi oj bj ei ej,ops[xi]?=some oi/\es[xi]?=some (true,ei)/\ops[xj]?=some oj/\es[xj]?=some (bj,ej)/\Good P oi (evL (sel st.fs ops es (fun n=>decide (n<xi)) 0).L) (bP (sel st.fs ops es (fun n=>decide (n<xi)) 0).H ej.us) ei)/\N5.fs=iN st.fs ops es/\K N5:=by
 obtain⟨T,N5,h1,h2,h3,h4,h5,h6,h7⟩:=Dn (ops:=ops) hΓ ops st [] _ h;simp only[i9,List.reverse_reverse]at h5 h6;refine⟨T.map fun p=>(true,p.2),N5,by simp[h1],h2,?_,by rw[<-GO];exact h5,?_,h4,h7⟩
 ·unfold ol at h5;rw[c9]at h5;simpa using h5.1
 ·unfold MA at h6;split at h6
  ·rename_i oi sti ei _ ej g1 g2 g3;obtain⟨e,g4,g5⟩:=yp hΓ h6;subst g4
   have hl:xj<ops.length:=by
    rw[<-h1];rcases l9 xj T.length with h'|h'
    ·exact h'
    ·rw[e9 h']at g3;cases g3
   have hs:=h3 0 xi _ g2;simp only[q8]at hs;refine⟨oi,ops[xj],true,e,ej,g1,by simp[g2],f9 hl,by simp[g3],?_⟩;rw[<-hs];have e2:bP sti.fs.H ej.us=ct (vi ej.us sti.h):=(by funext o;exact(pI ej.us sti.h o).symm);show Good P oi (evL sti.fs.L) (bP sti.fs.H ej.us) e;rw[e2];exact g5
  ·exact h6.elim
end
end Go.Sim
