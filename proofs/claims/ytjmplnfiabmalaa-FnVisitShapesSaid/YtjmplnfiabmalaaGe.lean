import Derived.Test.YtjmplnfiabmalaaGd
namespace Go.Sim
open Go.RowKit
structure Both (A B:Prop):Prop where
 a:A
 b:B
def wG:List Nat→(Nat→Prop)→Prop
 | [],_=>True
 | i::l,F=>Both (F i) (wG l F)
theorem pI {F:Nat→Prop}:∀{l:List Nat},wG l F→∀i∈l,F i
 | [],_,_,h=>by cases h
 | j::l,h,i,hi=>by
  rcases List.mem_cons.1 hi with rfl|hi
  ·exact h.a
  ·exact pI h.b i hi
def oP (ops:List Oper)(done:List Nat):List Nat:=(List.range ops.length).filter fun i=>!pq i done && (match ops[i]? with|some o=>(aM o).all (fun j=>pq j done)|none=>false)
def qu (ops:List Oper):Bool:=(List.range ops.length).all fun i=>match ops[i]? with|some o=>(aM o).all (fun j=>Nat.blt j i)|none=>true
def rp (P:Program)(Γ:Env)(N:Nat)(ops:List Oper)(n:Nat)(K:Value→St→Prop):Nat→List Nat→St→Prop
 | 0,_,_=>False
 | f+1,done,st=>(oP ops done).isEmpty=false∧wG (oP ops done) fun i=>(match Nat.beq i n with
  | true=>sR P ops[n]? st K
  | false=>(match ops[i]? with
   | some o=>o.guard=none∧w1 P Γ N o st fun st' _=>rp P Γ N ops n K f (i::done) st'
   | none=>False))
section
variable {P:Program} {Γ:Env} {N:Nat} {m:Bool} {K:Out→St→Prop} {st:St} {ops:List Oper}
theorem tR {B:Nat}{M:Nat→Prop}{w0:Start}{n:Nat}{Kp:Value→St→Prop}{Q:Exit→Act→World→Prop}(hΓ:Γ.chk P=true)(hedge:qu ops=true)
  (hQ:∀pv st' ρ' a' w',Kp pv st'→Conc N B M w0 ρ' st'.fs a' w'→Q (.panic [{v:=pv,recovered:=false}]) a' w'):
  ∀(f:Nat) (done:List Nat) (listed:Array Bool) (st:St) (ρ:Rho) (a:Act) (w:World),rp P Γ N ops n Kp f done st→listed.size=ops.length→(∀i,i < ops.length→listed.getD i true=pq i done)→Conc N B M w0 ρ st.fs a w→wpAny P .any ops.toArray Q f listed a w:=by
 have hlt:∀{i:Nat} {o:Oper},ops[i]?=some o→i < ops.length:=fun{i o} ho=>by
  rcases Nat.lt_or_ge i ops.length with h'|h'
  ·exact h'
  ·rw[List.getElem?_eq_none h']at ho;cases ho
 have hed:∀i o,ops[i]?=some o→∀j∈aM o,j < i:=fun i o ho j hj=>by
  have:=List.all_eq_true.1 hedge i (List.mem_range.2 (hlt ho))
  rw[ho]at this
  simpa using List.all_eq_true.1 this j hj
 have hrd:∀(done:List Nat) (listed:Array Bool) (i:Nat),listed.size=ops.length→(∀i,i < ops.length→listed.getD i true=pq i done)→(i∈Region.ready .any ops.toArray listed↔i∈oP ops done):=by
  intro done listed i hs hl
  rw[cF hs hed,oP,List.mem_filter,List.mem_range]
  constructor
  ·rintro⟨h1,o,ho,h2⟩
   refine⟨hlt ho,?_⟩
   rw[ho]
   simp only[Bool.and_eq_true,Bool.not_eq_true',List.all_eq_true]
   exact⟨by rw[←hl i (hlt ho)];exact h1,fun j hj=>by rw[←hl j (by have:=hed i o ho j hj;have:=hlt ho;omega)];exact h2 j hj⟩
  ·rintro⟨h0,h1⟩
   simp only[Bool.and_eq_true,Bool.not_eq_true']at h1
   have ho:ops[i]?=some ops[i]:=List.getElem?_eq_getElem h0
   rw[ho]at h1
   simp only[List.all_eq_true]at h1
   exact⟨by rw[hl i h0];exact h1.1,_,ho,fun j hj=>by rw[hl j (by have:=hed i _ ho j hj;omega)];exact h1.2 j hj⟩
 intro f
 induction f with
 | zero=>intro done listed st ρ a w h;exact h.elim
 | succ f ih=>
  intro done listed st ρ a w h hs hl hc
  obtain⟨hne,hall⟩:=h
  refine⟨fun hr=>?_,fun i hi=>?_⟩
  ·exfalso
   cases hL:oP ops done with
   | nil=>rw[hL]at hne;cases hne
   | cons j l=>
    have:j∈Region.ready .any ops.toArray listed:=(hrd done listed j hs hl).2 (by rw[hL];simp)
    rw[hr]at this;cases this
  ·have hF:=pI hall i ((hrd done listed i hs hl).1 hi)
   split at hF
   ·rename_i hin
    have hin:=Nat.eq_of_beq_eq_true hin
    subst hin
    obtain⟨o,pv,e,g1,g2,g3,g4,g5⟩:=oy hF
    unfold wpOp
    rw[show ops.toArray[i]?=some o by simpa using g1]
    dsimp only
    rw[if_pos (by simp[Region.wanted,g2])]
    refine .inl (g4 N B M w0 ρ st.fs a w Q _ hc (fun _ _=>rfl) (fun _ _=>rfl) g5 fun w'' ρ'' hc''=>?_)
    exact hQ pv (st.app none e) ρ'' a w'' g3 (by rw[fK];exact hc'')
   ·split at hF
    ·rename_i o ho
     obtain⟨hg,hw⟩:=hF
     obtain⟨e,h1,h2,h3,h4⟩:=yv hΓ hw
     unfold wpOp
     rw[show ops.toArray[i]?=some o by simpa using ho]
     dsimp only
     rw[if_pos (by simp[Region.wanted,hg])]
     refine .inl (h3 N B M w0 ρ st.fs a w Q _ hc (fun _ _=>rfl) (fun _ _=>rfl) h4 h2 fun v w' ρ' hc'=>?_)
     refine ih (i::done) _ (st.app o.dst e) ρ' _ w' h1 (by simpa using hs) (fun j hj=>?_) (by rw[fK];exact hc')
     rw[iL (by have:=hlt ho;omega)]
     by_cases hji:j=i
     ·subst hji;simp[pq]
     ·rw[if_neg hji,hl j hj]
      simp[pq,List.any_cons,hji]
    ·exact hF.elim
theorem wM {id:Nat}{ops:Array Oper}(n:Nat)(hedge:qu ops.toList=true)(h:rp P Γ N ops.toList n (fun pv st'=>K (.pan pv) st') ops.size [] st):Wo m P Γ N (.region id ops true) K st:=by
 rw[cZ]
 intro hΓ au B M w0 ρ a w Q hM hF hc hQ
 refine wp_region_any au ?_
 have hc':Conc N B M w0 ρ st.fs a {w with drawn:=w.drawn+1}:=
  hc.step (fun _=>False) [] (Turn.drew _ w) hc.size hc.defers (fun _ _=>rfl) (fun _ _ _ _=>rfl) rfl (fun _ _=>rfl) (fun _ h=>h) (fun _ _ h=>h) (fun _ _ _ _ _ _ h=>h) (fun _ _ _ h=>h)
   (fun o x b h=>by cases h) (fun o o' x x' b h=>by cases h) (fun _ o x h=>by cases h) (fun _ t=> .inl ⟨rfl,rfl⟩)
 have:=tR (P:=P) (N:=N) (Q:=Q) (ops:=ops.toList) hΓ hedge (fun pv st' ρ' a' w' h1 h2=>hQ (.pan pv) st' ρ' a' w' h1 h2) ops.size [] (Array.replicate ops.size false) st ρ a _ h (by simp) (fun i hi=>by
  have hi':i < ops.size:=by simpa using hi
  simp[pq,Array.getD_eq_getD_getElem?,hi']) hc'
 simpa using this
end
def Left (w:World)(ρ:Rho)(h0 h1:List (Id×AO))(w':World):Prop:=∃ρ',Keep w.heap.size (Ms ρ h0) w w'∧(∀o,(lkH h0 o).isSome=true→ρ' o=ρ o)∧ρ'.al=ρ.al∧
   Lies w.heap.size ρ' w' h1∧∀o x b,lkH h1 o=some x→Own ρ' o b→w.heap.size≤b∨Ms ρ h0 b
def mg (C:Array Value→World→(World→Prop)→Prop)(xs:List AV)(h0 h1:List (Id×AO)):Prop:=
 ∀(w:World) (vs:Array Value) (ρ:Rho),RVs w.heap.size ρ w (okB ρ (lkH h0) w) vs.toList xs→Lies w.heap.size ρ w h0→(∀b,(w.heap.size≤b∨Ms ρ h0 b)→ρ.al b)→C vs w (Left w ρ h0 h1)
def yX (C:Array Value→World→(World→Prop)→Prop)(nm:Nat)(args:List AV)(H:Id→Option AO)(K:Eff→Prop):Prop:=
 ∃xs h0 h1,mg C xs h0 h1∧sN H [] [] args xs fun θ bw=>maO H θ bw h0 fun θ bw=>
  (okI θ bw h0 && okJ h0 .unk h1 && (bw.isEmpty || jn h1))=true∧K ⟨.unk,usG θ nm h1,some nm,[]⟩
section
variable {N B:Nat} {M:Nat→Prop} {w0:Start} {ρ:Rho} {s:F_} {a:Act} {w:World}
theorem vc {C:Array Value→World→(World→Prop)→Prop}(hmono:∀vs w R R',(∀w',R w'→R' w')→C vs w R→C vs w R'){args:List Operand}{nm:Nat}{K:Eff→Prop}(hc:Conc N B M w0 ρ s a w)(hn:¬s.U nm)(h:yX C nm (args.map (evL s.L)) s.H K):
  ∃e,K e∧C (args.map a.eval).toArray w fun w'=>∃ρ',Conc N B M w0 ρ' (s.app none e) a w':=by
 obtain⟨xs,h0,h1,hs,h⟩:=h
 obtain⟨θ1,bw1,h,_,_,hv1⟩:=iW h
 obtain⟨θ,bw,⟨hchk,hK0⟩,hext,hbw,hO⟩:=kj h
 have hv:=hv1.mono hext hbw
 rw[Bool.and_eq_true,Bool.and_eq_true]at hchk
 obtain⟨⟨hI,hJ⟩,hnew0⟩:=hchk
 simp only[okI,Bool.and_eq_true,List.all_eq_true,nodupI_iff,memI_iff,Bool.not_eq_true']at hI
 obtain⟨⟨⟨⟨i1,i2⟩,i3⟩,i4⟩,i5⟩:=hI
 simp only[okJ,Bool.and_eq_true,List.all_eq_true,nodupI_iff,Nat.beq_eq_true_eq]at hJ
 obtain⟨⟨⟨j1,j2⟩,j3⟩,j4⟩:=hJ
 have hnewO:bw=[]∨jn h1=true:=by
  rw[Bool.or_eq_true]at hnew0
  rcases hnew0 with g|g
  ·left;simpa using g
  ·right;exact g
 refine⟨_,hK0,?_⟩
 have hb:Bound s θ bw h0:=by
  refine⟨i1,fun p hp=>⟨(i4 p hp).1,fun hm=>?_⟩,fun p hp=>?_⟩
  ·have:=(i4 p hp).2
   rw[memI_iff.2 hm]at this;cases this
  ·obtain⟨o,x,g1,g2,g3⟩:=hO p hp
   exact⟨o,x,g1,g2,g3⟩
 have hvs:=kw (h0:=h0) (B':=w.heap.size) (ev:=evL s.L) hc hb hv (fun x hx=>rfl)
 refine hmono _ _ _ _ (fun w' ⟨ρ2,hkeep,hname,hal,hlies,hown⟩=>?_) (hs w (args.map a.eval).toArray (eN ρ s w θ bw) (by simpa using hvs) (lD hc hb) (fun b hb'=>by
  rcases hb' with hb'|hb'
  ·exact .inr (.inr (.inr hb'))
  ·exact .inr (.inr (.inl (bA hb hb')))))
 have hk:Back B ρ ρ2 s w w' θ bw nm h0 h1:=by
  refine⟨hb,fun p hp=>by simpa using j4 p hp,j1,fun p hp=>?_,hn,fun o x ho=>(hc.usedH o x ho).1,hname,hal,hlies,hown,hkeep.size,hc.base⟩
  have:=j2 p hp
  exact⟨this.1.1,this.1.2,this.2⟩
 refine⟨eu ρ ρ2 θ nm,?_⟩
 have hHk:∀o x,o∈(θ.map (·.2))++h1.map (fun p=>reI θ nm p.1)→aO s.H (usG θ nm h1) o=some x→∃q y,(q,y)∈h1∧o=reI θ nm q∧x=y.re θ nm:=fun o x hm hx=>by
  rcases na s.H hx with g|⟨g,_⟩
  ·exact g
  ·exact absurd hm g
 have:=hc.step (Ms (eN ρ s w θ bw) h0) ((θ.map (·.2))++h1.map (fun p=>reI θ nm p.1)) (w':=w') (ρ':=eu ρ ρ2 θ nm) (H':=aO s.H (usG θ nm h1)) (U':=fun n=>s.U n∨n=nm) (a':=a) (L':=s.L)
  ⟨hkeep.os,hkeep.tape,hkeep.output,hkeep.size,hkeep.block⟩ hc.size hc.defers
  (fun o ho=>hk.oldv ho)
  (fun o x hm ho=>by
   funext c
   exact propext (hk.oldf (hc.usedH o x ho).1 (fun h=>hm (by simp[h])) c)) rfl
  (fun o hm=>by
   refine aY _ _ o fun h=>hm ?_
   simp only[usG,List.map_append,List.map_map]at h
   exact h)
  (fun n hn=> .inl hn)
  (fun b hb' hM=>by
   obtain⟨q,o,x,g1,g2,g3⟩:=bA hb hM
   exact hb'.2 o x g2 g3)
  (fun o x b g1 g2 g3 hM=>by
   obtain⟨q,o',x',k1,k2,k3⟩:=bA hb hM
   exact hc.sep o o' x x' b g1 k2 (fun e=>g2 (by rw[e];exact List.mem_append.2 (.inl (List.mem_map.2 ⟨_,ce k1,rfl⟩)))) g3 k3)
  (fun b hB hnM hM=>by
   obtain⟨q,o',x',k1,k2,k3⟩:=bA hb hM
   rcases(hc.rng o' x' b k2 k3).2 with g|g
   ·omega
   ·exact hnM g)
  (fun o x b g1 g2 g3=>by
   obtain⟨q,y,k1,rfl,rfl⟩:=hHk o x g1 g2
   rw[hk.owned (hk.h1k _ k1).1]at g3
   have hl:=eO hk.h1n k1
   refine⟨hlies.lt q y b hl g3,?_,?_⟩
   ·rcases hown q y b hl g3 with g|g
    ·exact .inl (Nat.le_trans hc.base g)
    ·obtain⟨q',o',x',m1,m2,m3⟩:=bA hb g
     exact(hc.rng o' x' b m2 m3).2
   ·rcases hown q y b hl g3 with g|g
    ·exact .inl g
    ·obtain⟨q',o',x',m1,m2,m3⟩:=bA hb g
     exact .inr ⟨o',x',m2,List.mem_append.2 (.inl (List.mem_map.2 ⟨_,ce m1,rfl⟩)),m3⟩)
  (fun o o' x x' b g1 g1' g2 g2' hne g3 g3'=>by
   obtain⟨q,y,k1,rfl,rfl⟩:=hHk o x g1 g2
   obtain⟨q',y',k1',rfl,rfl⟩:=hHk o' x' g1' g2'
   rw[hk.owned (hk.h1k _ k1).1]at g3
   rw[hk.owned (hk.h1k _ k1').1]at g3'
   exact hlies.sep q q' y y' b (eO hk.h1n k1) (eO hk.h1n k1') (fun e=>hne (by rw[e])) g3 g3')
  (fun _ o x g1 g2=>by
   obtain⟨q,y,k1,rfl,rfl⟩:=hHk o x g1 g2
   obtain⟨m1,m2,m3⟩:=hk.h1k _ k1
   refine⟨hk.object hc k1 hnewO,hk.usedN m1,fun o' ho'=>?_⟩
   obtain⟨q',e1,rfl⟩:=qY m2 ho'
   exact hk.usedN (m3 q' e1))
  (fun _ t=> .inl ⟨rfl,rfl⟩)
 exact this.congr (fun _=>rfl) (fun _=>rfl) (fun n=>by simp[F_.app,eq_comm])
end
section
variable {P:Program} {ops:Array Oper} {Q:Exit→Act→List Frame→World→Prop} {a:Act} {cs:List Frame} {w:World}
theorem oE {i:Nat}{rest:List Nat}{o:Oper}{v:Value}{cs':List Frame}(ho:ops[i]?=some o)(hg:o.guard=none)(hrun:(execOp a.eval o).run P w= .ok .recover w)(hr:recoverD cs=some (v,cs'))(h:wpOpsS P ops Q rest (a.put o.dst v) cs' w):wpOpsS P ops Q (i::rest) a cs w:=by
 rw[wpOpsS,ho]
 dsimp only
 rw[if_pos (by simp[Region.wanted,hg]),hrun]
 dsimp only
 rw[hr]
 exact h
theorem mN {i:Nat}{rest:List Nat}{o:Oper}(ho:ops[i]?=some o)(hg:o.guard=none)(hrun:(execOp a.eval o).run P w= .ok .recover w)(hr:recoverD cs=none)(h:wpOpsS P ops Q rest (a.put o.dst .nilIface) cs w):wpOpsS P ops Q (i::rest) a cs w:=by
 rw[wpOpsS,ho]
 dsimp only
 rw[if_pos (by simp[Region.wanted,hg]),hrun]
 dsimp only
 rw[hr]
 exact h
theorem rG {i:Nat}{rest:List Nat}{o:Oper}{v:Value}(ho:ops[i]?=some o)(hg:o.guard=none)(hrun:(execOp a.eval o).run P w= .ok (.value v) w)(h:wpOpsS P ops Q rest (a.put o.dst v) cs w):wpOpsS P ops Q (i::rest) a cs w:=by
 rw[wpOpsS,ho]
 dsimp only
 rw[if_pos (by simp[Region.wanted,hg]),hrun]
 exact h
theorem ua {i d:Nat}{rest:List Nat}{o:Oper}{op:Op}{v:Value}{cs':List Frame}(ho:ops[i]?=some o)(hop:o.op=op)(hd:o.dst=some d)(hg:o.guard=none)(hrun:∀o,o.op=op→(execOp a.eval o).run P w= .ok .recover w)(hr:recoverD cs=some (v,cs')∨(recoverD cs=none∧v= .nilIface∧cs'=cs))(h:wpOpsS P ops Q rest (a.put (some d) v) cs' w):wpOpsS P ops Q (i::rest) a cs w:=by
 rcases hr with hr|⟨hr,rfl,rfl⟩
 ·exact oE ho hg (hrun o hop) hr (by rw[hd];exact h)
 ·exact mN ho hg (hrun o hop) hr (by rw[hd];exact h)
theorem gy {i d:Nat}{rest:List Nat}{o:Oper}{op:Op}{v:Value}(ho:ops[i]?=some o)(hop:o.op=op)(hd:o.dst=some d)(hg:o.guard=none)(hrun:∀o,o.op=op→(execOp a.eval o).run P w= .ok (.value v) w)(h:wpOpsS P ops Q rest (a.put (some d) v) cs w):wpOpsS P ops Q (i::rest) a cs w:=
 rG ho hg (hrun o hop) (by rw[hd];exact h)
theorem vQ {i:Nat}{rest:List Nat}{o:Oper}(ho:ops[i]?=some o)(hw:Region.wanted o (yielded ops a.tmps)=true)(h:o.wp P a w (fun a w=>wpOpsS P ops Q rest a cs w) (fun e a w=>Q e a cs w)):wpOpsS P ops Q (i::rest) a cs w:=by
 rw[wpOpsS,ho]
 dsimp only
 rw[if_pos hw]
 unfold Oper.wp at h
 split
 ·rename_i w' hr
  rw[hr]at h
  exact h.elim
 ·exact h
theorem qX {N B:Nat}{M:Nat→Prop}{w0:Start}:∀(l:List Oper) (is:List Nat) (es:List (Bool×Eff)) (s:F_) (ρ:Rho) (a:Act) (w:World),is.map (fun i=>ops[i]?)=l.map some→cC P N ops.toList s l es→Conc N B M w0 ρ s a w→
  (∀ρ a w,Conc N B M w0 ρ (cU s l es) a w→Q .normal a cs w)→wpOpsS P ops Q is a cs w
 | [],[],[],s,ρ,a,w,_,_,hc,hQ=>hQ ρ a w hc
 | [],_::_,_,_,_,_,_,h,_,_,_=>by simp at h
 | _::_,[],_,_,_,_,_,h,_,_,_=>by simp at h
 | o::l,i::is,(b,e)::es,s,ρ,a,w,hi,hch,hc,hQ=>by
  simp only[List.map_cons,List.cons.injEq]at hi
  obtain⟨h1,h2⟩:=hch
  have hw:=fY hc h1.guard
  cases b with
  | true=>
   obtain⟨g1,g2⟩:=h1.yes rfl
   exact vQ hi.1 (by simpa using hw) (g1 N B M w0 ρ s a w _ _ hc (fun _ _=>rfl) (fun _ _=>rfl) g2 h1.dst fun v w' ρ' hc'=>qX l is es _ ρ' _ w' hi.2 h2 hc' hQ)
  | false=>
   rw[wpOpsS,hi.1]
   dsimp only
   rw[if_neg (by
           have:Region.wanted o (yielded ops a.tmps)=false:=by simpa using hw
           rw[this];simp)]
   have he:=h1.no rfl
   subst he
   exact qX l is es _ ρ _ w hi.2 h2 (hc.put h1.dst (av:= .tup []) ⟨#[],rfl,trivial⟩ (by simp[AV.ids]) []) hQ
 | [],[],_::_,_,_,_,_,_,h,_,_=>h.elim
 | _::_,_::_,[],_,_,_,_,_,h,_,_=>h.elim
end
theorem Conc.frame {N N' B:Nat}{M:Nat→Prop}{w0:Start}{ρ:Rho}{s:F_}{a a':Act}{w:World}(hc:Conc N B M w0 ρ s a w)(L':Nat→AV)(hsz:a'.tmps.size=N')(hs:∀t,RV B ρ w (okB ρ s.H w) (a'.tmps.getD t undef) (L' t))(hi:∀t o,o∈(L' t).ids→s.U o.1):
  Conc N' B M ⟨w0.w,w0.al,w0.fx,a'.defers⟩ ρ ⟨L',s.H,s.U⟩ a' w:=
 ⟨hsz,rfl,hs,hc.obj,hc.sep,hc.rng,hc.keep,hc.base,hc.alw,hc.cst,hc.fix,hi,hc.usedH⟩
theorem mB {N:Nat}{xs:List AV}{h0:List (Id×AO)}{vs:Array Value}{w:World}{ρ:Rho}(hn:dG xs h0 .unk []=true)(h:RVs w.heap.size ρ w (okB ρ (lkH h0) w) vs.toList xs)(hl:Lies w.heap.size ρ w h0)(hal:∀b,(w.heap.size≤b∨Ms ρ h0 b)→ρ.al b){a:Act}(hsz:a.tmps.size=N)
  (fr:List (Nat×AV)) (hfr:∀t,aS fr t= .unk∨∃i:Nat,i < xs.length∧xs[i]?=some (aS fr t)∧vs[i]?=some (a.tmps.getD t undef)):
  Conc N w.heap.size (Ms ρ h0) ⟨w,ρ.al,fun o=>if(lkH h0 o).isSome=true then some (ρ o)else none,a.defers⟩ ρ (⟨fr,h0.map (fun p=>(p.1,some p.2)),[0]⟩:St).fs a w:=by
 have hc:=fy (N:=xs.length) hn h hl hal (Nat.le_refl _)
 have hlen:vs.size=xs.length:=by simpa using h.len
 have hslot:∀i:Nat,i < xs.length→(stG xs h0).fs.L i=xs.getD i .unk∧({tmps:=vs++Array.replicate (xs.length - vs.size) undef,defers:=[]}:Act).tmps.getD i undef=vs.getD i undef:=fun i hi=>by
  refine⟨?_,?_⟩
  ·show aS (mz 0 xs) i=_
   rw[gF,if_neg (by omega),Nat.sub_zero]
   simp[List.getD_eq_getElem?_getD,hi]
  ·have hi':i < vs.size:=by omega
   simp[Array.getD_eq_getD_getElem?,hi',Array.getElem?_append_left hi']
 have:=hc.frame (a':=a) (aS fr) hsz (fun t=>by
  rcases hfr t with e|⟨i,hi,h1,h2⟩
  ·rw[e];trivial
  ·obtain⟨g1,g2⟩:=hslot i hi
   have hs:=hc.slot i
   rw[g1,g2]at hs
   rw[List.getD_eq_getElem?_getD,h1]at hs
   have:vs.getD i undef=a.tmps.getD t undef:=by rw[Array.getD_eq_getD_getElem?,h2];rfl
   rw[this]at hs
   exact hs) (fun t o ho=>by
  rcases hfr t with e|⟨i,hi,h1,h2⟩
  ·rw[e]at ho;simp[AV.ids]at ho
  ·obtain⟨g1,_⟩:=hslot i hi
   refine hc.usedL i o ?_
   rw[g1,List.getD_eq_getElem?_getD,h1]
   exact ho)
 exact this.congr (fun _=>rfl) (fun _=>rfl) (fun _=>Iff.rfl)
theorem uz {N:Nat}{ρ0 ρ:Rho}{df:List Deferred}{w w':World}{h0 h1:List (Id×AO)}{st:St}{a:Act}(hF:∀o,(lkH h0 o).isSome=true→o.1=0)(hc:Conc N w.heap.size (Ms ρ0 h0) ⟨w,ρ0.al,fun o=>if(lkH h0 o).isSome=true then some (ρ0 o)else none,df⟩ ρ st.fs a w')
  (h:Lo false st ⟨[],h1.map (fun p=>(p.1,some p.2)),[1,0]⟩):Left w ρ0 h0 h1 w':=by
 rw[ml]at h
 obtain⟨ρ2,k2⟩:=h.ok (by simp) (fun o v hv=>by
  dsimp only at hv
  split at hv
  ·rename_i hs;exact hF o hs
  ·cases hv) hc
 have hH:∀o,(St.fs ⟨[],h1.map (fun p=>(p.1,some p.2)),[1,0]⟩).H o=lkH h1 o:=fun o=>jf h1 o
 have hH':(St.fs ⟨[],h1.map (fun p=>(p.1,some p.2)),[1,0]⟩).H=lkH h1:=funext hH
 refine⟨ρ2,k2.keep,fun o ho=>?_,k2.cst,⟨fun o x ho=>?_,fun o o' x x' b ho ho'=>?_,fun o x b ho he=>?_⟩,fun o x b ho he=>?_⟩
 ·have:=k2.fix o (ρ0 o) (by show(if(lkH h0 o).isSome=true then some (ρ0 o)else none)=_;rw[if_pos ho])
  exact this.1
 ·have:=k2.obj o x (by rw[hH];exact ho)
  rw[hH']at this
  exact this
 ·exact k2.sep o o' x x' b (by rw[hH];exact ho) (by rw[hH];exact ho')
 ·exact(k2.rng o x b (by rw[hH];exact ho) he).1
 ·exact(k2.rng o x b (by rw[hH];exact ho) he).2
def ri (a:Act)(v s7 s8:Value):Act:=((((a.put (some 5) v).put (some 6) (.tuple #[s7,s8])).put (some 4) (.tuple #[s7,s8])).put (some 7) s7).put (some 8) s8
def pW (P:Program)(f:FuncId)(u u':FrameMode)(vs:Array Value)(w:World)(R:World→Prop):Prop:=CallsD P f vs u w fun e u1 w'=>(∃v,e= .returned v)∧u1=u'∧R w'
theorem tQ {P:Program}{f:FuncId}{u u':FrameMode}:∀vs w R R',(∀w',R w'→R' w')→pW P f u u' vs w R→pW P f u u' vs w R':=
 fun _ _ _ _ hr h=>h.mono fun _ _ _ ⟨h1,h2,h3⟩=>⟨h1,h2,hr _ h3⟩
def zm (h1:List (Id×AO)):Out→St→Prop
 | .normal,st=>Lo false st ⟨[],h1.map (fun p=>(p.1,some p.2)),[1,0]⟩
 | .ret,st=>Lo false st ⟨[],h1.map (fun p=>(p.1,some p.2)),[1,0]⟩
 | _,_=>False
theorem eW {xs:List AV}{h0:List (Id×AO)}(hn:dG xs h0 .unk []=true):∀o,(lkH h0 o).isSome=true→o.1=0:=fun o hs=>by
 obtain⟨x,hx⟩:=Option.isSome_iff_exists.1 hs
 simp only[dG,Bool.and_eq_true,List.all_eq_true,Nat.beq_eq_true_eq]at hn
 simpa using(hn.2 _ (dk hx)).1
theorem oM {P:Program}{Γ:Env}{f:FuncId}{fn:Func}{id:Nat}{ops:Array Oper}{rest:Code}{u u':FrameMode}{v5 s7 s8:Value}{x0 x1 x7 x8:AV}{h0 h1:List (Id×AO)}(hΓ:Γ.chk P=true)(au:P.follows .mixedOrders=true)
  (hf:P.funcs[f]?=some fn) (hb:fn.body=some (.seq (.region id ops false) rest)) (hres:fn.results=#[]) (hN:Nat.ble 9 fn.ntmps=true) (h7:∀B ρ w ok,RV B ρ w ok s7 x7) (h8:∀B ρ w ok,RV B ρ w ok s8 x8)
  (hidx:[5,6,7].map (fun i=>ops[i]?)=(ops.toList.drop 5).map some)
  (hhand:∀(a:Act) (c₀:Frame) (cs:List Frame) (w:World) (Q:Exit→Act→List Frame→World→Prop),a.tmps.size=fn.ntmps→c₀.mode=u→wpOpsS P ops Q [5,6,7] (ri a v5 s7 s8) ({c₀ with mode:=u'}::cs) w→wpOpsS P ops Q (List.range ops.size) a (c₀::cs) w)
  (hnames:dG [x0,x1,x7,x8] h0 .unk []=true)
  (h:fg P Γ fn.ntmps ops.toList (ops.toList.drop 5) ⟨[(0,x0),(1,x1),(7,x7),(8,x8)],h0.map (fun p=>(p.1,some p.2)),[0]⟩ [] fun st' _=>Wo false P Γ fn.ntmps rest (zm h1) st'):
  mg (pW P f u u') [x0,x1] h0 h1:=by
 intro w vs ρ hvs hl hal
 have hN:=Nat.le_of_ble_eq_true hN
 have hsz:vs.size=2:=by simpa using hvs.len
 obtain⟨l⟩:=vs
 have hl2:l.length=2:=hsz
 obtain⟨v0,v1,rfl⟩:∃v0 v1,l=[v0,v1]:=by
  match l,hl2 with
  | [a,b],_=>exact⟨a,b,rfl⟩
 refine callsD_of_wpS hf hb fun c₀ cs hc₀=>wpS_seq (wpS_region ?_)
 obtain⟨a0,ha0⟩:∃a0:Act,({tmps:=[v0,v1].toArray++Array.replicate (fn.ntmps - [v0,v1].toArray.size) undef,defers:=[]}:Act)=a0:=⟨_,rfl⟩
 have hs0:a0.tmps.size=fn.ntmps:=by subst ha0;simp;omega
 have hd0:a0.defers=[]:=by subst ha0;rfl
 have hg0:a0.tmps.getD 0 undef=v0:=by subst ha0;simp[Array.getD_eq_getD_getElem?,Array.getElem?_append]
 have hg1:a0.tmps.getD 1 undef=v1:=by subst ha0;simp[Array.getD_eq_getD_getElem?,Array.getElem?_append]
 rw[ha0]
 clear ha0
 refine hhand a0 c₀ cs w _ hs0 hc₀ ?_
 have hsA:(ri a0 v5 s7 s8).tmps.size=fn.ntmps:=by simp only[ri,bi];exact hs0
 have hdA:(ri a0 v5 s7 s8).defers=[]:=by simp only[ri,bK];exact hd0
 have br:∀t,(ri a0 v5 s7 s8).tmps.getD t undef=if t=8 then s8 else if t=7 then s7 else if t=4 then .tuple #[s7,s8]else if t=6 then .tuple #[s7,s8]else if t=5 then v5 else a0.tmps.getD t undef:=fun t=>by
  unfold ri
  rw[dQ _ _ _ _ (by simp only[bi];omega),dQ _ _ _ _ (by simp only[bi];omega),dQ _ _ _ _ (by simp only[bi];omega),dQ _ _ _ _ (by simp only[bi];omega),dQ _ _ _ _ (by omega)]
 have hrv:RVs w.heap.size ρ w (okB ρ (lkH h0) w) (#[v0,v1,s7,s8]:Array Value).toList [x0,x1,x7,x8]:=⟨hvs.1,hvs.2.1,h7 _ _ _ _,h8 _ _ _ _,trivial⟩
 have hc:=mB (N:=fn.ntmps) hnames hrv hl hal (a:=ri a0 v5 s7 s8) hsA [(0,x0),(1,x1),(7,x7),(8,x8)] (fun t=>by
  by_cases e0:t=0
  ·subst e0;right;exact⟨0,by simp,rfl,by rw[br];simp[hg0]⟩
  by_cases e1:t=1
  ·subst e1;right;exact⟨1,by simp,rfl,by rw[br];simp[hg1]⟩
  by_cases e7:t=7
  ·subst e7;right;exact⟨2,by simp,rfl,by rw[br];simp⟩
  by_cases e8:t=8
  ·subst e8;right;exact⟨3,by simp,rfl,by rw[br];simp⟩
  left
  have hne:∀{n:Nat},t≠n→Nat.beq t n=false:=fun{n} h=>by
   cases hb:Nat.beq t n with
   | true=>exact absurd (Nat.eq_of_beq_eq_true hb) h
   | false=>rfl
  simp only[aS,hne e0,hne e1,hne e7,hne e8,cond_false])
 obtain⟨es,st',_,g2,g3,g4⟩:=go hΓ _ _ [] _ h
 refine qX (ops.toList.drop 5) [5,6,7] es _ ρ _ w hidx g2 hc fun ρ' a' w' hc'=>?_
 rw[←g3]at hc'
 refine wpS_of_wp ?_
 rw[cZ]at g4
 have hF:∀o v,(if(lkH h0 o).isSome=true then some (ρ o)else none)=some v→o.1=0:=fun o v hv=>by
  split at hv
  ·rename_i hs;exact eW hnames o hs
  ·cases hv
 refine g4 hΓ au _ _ _ _ _ _ _ (by simp) hF hc' fun e st2 ρ2 a2 w2 hK hc2=>?_
 have key:Lo false st2 ⟨[],h1.map (fun p=>(p.1,some p.2)),[1,0]⟩→a2.defers=[]∧∃u1,{c₀ with mode:=u'}::cs={c₀ with mode:=u1}::cs∧∃v,(results fn a2.tmps).run P w2= .ok v w2∧(∃v',Ending.returned v= .returned v')∧u1=u'∧Left w ρ h0 h1 w2:=fun hK=>by
  have hm:(fn.results.toList.mapM (lN a2.tmps)).run P w2= .ok [] w2:=by rw[hres];rfl
  exact⟨hc2.defers.trans hdA,u',rfl,_,dY hm,⟨_,rfl⟩,rfl,uz (eW hnames) hc2 hK⟩
 cases e with
 | normal=>exact key hK
 | ret=>exact key hK
 | exit id=>exact hK.elim
 | pan v=>exact hK.elim
abbrev hZ:AV:= .r (.c (.ptr (0,0,0) 0))
abbrev iK:AV:= .r (.c (.ptr (0,0,1) 0))
def oV (P:Program)(fn:Func)(c:Code)(f:FuncId)(vs:Array Value)(w:World)(R:World→Prop):Prop:=
 ∀(a:Act) (Q:Ending→World→Prop),a.tmps.size=fn.ntmps→a.tmps.getD 5 undef=vs.getD 0 undef→a.tmps.getD 4 undef=vs.getD 1 undef→a.defers=[{target:= .fn (.func f) vs,args:=#[]}]→
  (∀tm w',tm.size=fn.ntmps→tm.getD 4 undef=vs.getD 1 undef→R w'→∃v,(results fn tm).run P w'= .ok v w'∧Q (.returned v) w')→c.wp P (bodyPostD P fn Q) a w
theorem ud {P:Program}{fn:Func}{c:Code}{f:FuncId}:∀vs w R R',(∀w',R w'→R' w')→oV P fn c f vs w R→oV P fn c f vs w R':=
 fun _ _ _ _ hr h a Q h1 h2 h3 h4 h5=>h a Q h1 h2 h3 h4 fun tm w' g1 g2 g3=>h5 tm w' g1 g2 (hr _ g3)
def uE (P:Program)(f:FuncId)(u u':FrameMode)(h1:List (Id×AO))(st:St):Prop:=
 ∃S:St,Lo false st S∧aS S.fr 5=hZ∧aS S.fr 4=iK∧used S.u 200000=false∧yX (pW P f u u') 200000 [hZ,iK] (br S.h) fun e=>S.put none e fun st' _=>Lo false st' ⟨[],h1.map (fun p=>(p.1,some p.2)),[1,0]⟩
def zq (P:Program)(f:FuncId)(h1:List (Id×AO)):Out→St→Prop
 | .normal,st=>uE P f .returning .returning h1 st
 | .ret,st=>uE P f .returning .returning h1 st
 | .pan v,st=>uE P f (.panicking [{v:=v,recovered:=false}]) (.panicking [{v:=v,recovered:=true}]) h1 st
 | .exit _,_=>False
theorem oQ {P:Program}{Γ:Env}{f:FuncId}{fn:Func}{c:Code}{h0 h1:List (Id×AO)}(hΓ:Γ.chk P=true)(au:P.follows .mixedOrders=true)(hent:lY P f)
  (hnames:dG [hZ,iK] h0 .unk []=true) (hin:((lkH h0 (0,0,0)).isSome && (lkH h0 (0,0,1)).isSome)=true) (h:Wo false P Γ fn.ntmps c (zq P f h1) ⟨[(5,hZ),(4,iK)],h0.map (fun p=>(p.1,some p.2)),[0]⟩):
  mg (oV P fn c f) [hZ,iK] h0 h1:=by
 intro w vs ρ hvs hl hal a Q hsz ha5 ha4 had hend
 rw[Bool.and_eq_true]at hin
 have hs2:vs.size=2:=by simpa using hvs.len
 obtain⟨l⟩:=vs
 obtain⟨v0,v1,rfl⟩:∃v0 v1,l=[v0,v1]:=by
  match l,(show l.length=2 from hs2)with
  | [a,b],_=>exact⟨a,b,rfl⟩
 have ha5:a.tmps.getD 5 undef=v0:=ha5
 have ha4:a.tmps.getD 4 undef=v1:=ha4
 have hc:=mB (N:=fn.ntmps) hnames hvs hl hal (a:=a) hsz [(5,hZ),(4,iK)] (fun t=>by
  by_cases e5:t=5
  ·subst e5;right;exact⟨0,by simp,rfl,by rw[ha5];rfl⟩
  by_cases e4:t=4
  ·subst e4;right;exact⟨1,by simp,rfl,by rw[ha4];rfl⟩
  left
  have hne:∀{n:Nat},t≠n→Nat.beq t n=false:=fun{n} h=>by
   cases hb:Nat.beq t n with
   | true=>exact absurd (Nat.eq_of_beq_eq_true hb) h
   | false=>rfl
  simp only[aS,hne e5,hne e4,cond_false])
 have hF:∀o v,(if(lkH h0 o).isSome=true then some (ρ o)else none)=some v→o.1=0:=fun o v hv=>by
  split at hv
  ·rename_i hs;exact eW hnames o hs
  ·cases hv
 obtain⟨b0,hb0,hv0⟩:∃b,ρ (0,0,0)= .pointer (some ⟨b,0,none⟩)∧v0= .pointer (some ⟨b,0,none⟩):=hvs.1
 obtain⟨b1,hb1,hv1⟩:∃b,ρ (0,0,1)= .pointer (some ⟨b,0,none⟩)∧v1= .pointer (some ⟨b,0,none⟩):=hvs.2.1
 rw[cZ]at h
 refine h hΓ au _ _ _ _ _ _ _ (by simp) hF hc fun e st' ρ' a' w' hK hc'=>?_
 have key:∀u u',u≠.run→settle u'= .returning→uE P f u u' h1 st'→Leaves P fn a'.tmps Q a'.defers u w':=fun u u' hu hset ⟨S,hLo,hS5,hS4,hnm,hsem⟩=>by
  rw[ml]at hLo
  obtain⟨ρ1,hc1⟩:=hLo.ok (by simp) hF hc'
  have hfx:=fun o (hs:(lkH h0 o).isSome=true)=>(hc1.fix o (ρ o) (by show(if(lkH h0 o).isSome=true then some (ρ o)else none)=_;rw[if_pos hs])).1
  have hx5:=hc1.slot 5
  have hx4:=hc1.slot 4
  rw[show(St.fs S).L 5=hZ from hS5]at hx5
  rw[show(St.fs S).L 4=iK from hS4]at hx4
  obtain⟨c0,k0,m0⟩:∃b,ρ1 (0,0,0)= .pointer (some ⟨b,0,none⟩)∧a'.tmps.getD 5 undef= .pointer (some ⟨b,0,none⟩):=hx5
  obtain⟨c1,k1,m1⟩:∃b,ρ1 (0,0,1)= .pointer (some ⟨b,0,none⟩)∧a'.tmps.getD 4 undef= .pointer (some ⟨b,0,none⟩):=hx4
  have h50:a'.tmps.getD 5 undef=v0:=by rw[m0,←k0,hfx _ hin.1,hb0,hv0]
  have h41:a'.tmps.getD 4 undef=v1:=by rw[m1,←k1,hfx _ hin.2,hb1,hv1]
  have hev:([Operand.tmp 5,.tmp 4].map a'.eval).toArray=[v0,v1].toArray:=by
   simp only[List.map_cons,List.map_nil]
   rw[show a'.eval (.tmp 5)=a'.tmps.getD 5 undef by simp[Act.eval,Array.getD_eq_getD_getElem?],show a'.eval (.tmp 4)=a'.tmps.getD 4 undef by simp[Act.eval,Array.getD_eq_getD_getElem?],h50,h41]
  obtain⟨eff,hKe,hC⟩:=vc (args:=[.tmp 5,.tmp 4]) tQ hc1 (nm:=200000) (by show ¬used S.u _=true;rw[hnm];simp) (by
   rw[show [Operand.tmp 5,.tmp 4].map (evL (St.fs S).L)=[hZ,iK] by rw[←hS5,←hS4];rfl]
   exact hsem)
  rw[hev]at hC
  rw[St.put_eq]at hKe
  rw[hc'.defers]
  show Leaves P fn a'.tmps Q a.defers u w'
  rw[had]
  refine leaves_cons hu (f:=f) (args:=[v0,v1].toArray) (by have:=hent [v0,v1].toArray w';simpa [invoke]using this) (CallsD.mono hC fun e1 u1 w1 ⟨⟨v,hv⟩,hu1,ρ3,hc3⟩=>?_)
  subst hv
  subst hu1
  show Leaves P fn a'.tmps Q [] (settle u1) w1
  rw[hset]
  rw[←fK]at hc3
  obtain⟨v2,g1,g2⟩:=hend a'.tmps w1 hc1.size h41 (uz (eW hnames) hc3 hKe)
  exact⟨v2,g1,g2⟩
 cases e with
 | normal=>exact key _ _ (by simp) rfl hK
 | ret=>exact key _ _ (by simp) rfl hK
 | pan v=>exact key _ _ (by simp) rfl hK
 | exit id=>exact hK.elim
section
variable {P:Program} {Γ:Env} {N B:Nat} {M:Nat→Prop} {w0:Start} {ρ:Rho} {a:Act} {w:World}
theorem qQ {S st:St}{x y:Code}{Q:Exit→Act→World→Prop}(hΓ:Γ.chk P=true)(au:P.follows .mixedOrders=true)(hF:∀o v,w0.fx o=some v→o.1=0)(hc:Conc N B M w0 ρ st.fs a w)
  (h:Wo false P Γ N x (fun e st'=>(match e with|.normal=>Lo false st' S|_=>False)) st) (hQ:∀ρ' a' w',Conc N B M w0 ρ' S.fs a' w'→y.wp P Q a' w'):(Code.seq x y).wp P Q a w:=by
 rw[cZ]at h
 refine wp_seq (h hΓ au B M w0 ρ a w _ (by simp) hF hc fun e st' ρ' a' w' hK hc'=>?_)
 cases e with
 | normal=>rw[ml]at hK;obtain⟨ρ1,hc1⟩:=hK.ok (by simp) hF hc';exact hQ ρ1 a' w' hc1
 | ret=>exact hK.elim
 | pan v=>exact hK.elim
 | exit id=>exact hK.elim
theorem wB {S:St}{fn:Func}{f:FuncId}{id d1:Nat}{o1 o2:Oper}{tail:Code}{r:AV}{hE:List (Id×AO)}{Q:Ending→World→Prop}(hΓ:Γ.chk P=true)(hF:∀o v,w0.fx o=some v→o.1=0)(hd:w0.df=[])(hc:Conc fn.ntmps B M w0 ρ S.fs a w)
  (hu:aS S.fr d1= .unk) (hd1:d1 < fn.ntmps) (h5:5≠d1) (h4:4≠d1) (hnm:used S.u 200000=false) (g1:o1.guard=none) (g2:o2.guard=none) (k1:o1.dst=some d1) (k2:o2.dst=none)
  (e1:∀(a:Act) (w:World),(execOp a.eval o1).run P w= .ok (.value (.func (.func f) #[] #[a.eval (.tmp 5),a.eval (.tmp 4)])) w)
  (e2:∀(a:Act) (w:World) (vs:Array Value),a.eval (.tmp d1)= .func (.func f) #[] vs→(execOp a.eval o2).run P w= .ok (.defer {target:= .fn (.func f) vs,args:=#[]}) w)
  (hm:yX (oV P fn tail f) 200000 [aS S.fr 5,aS S.fr 4] (br S.h) fun e=>S.put none e fun st' _=>ed (eB st'.h []) ⟨[(4,aS st'.fr 4)],st'.h,st'.u⟩ (rY Γ fn.results.toList r hE))
  (hQ:∀v ρ' df w',Conc 1 B M ⟨w0.w,w0.al,w0.fx,df⟩ ρ' (St.fs ⟨[(0,r)],hE.map (fun p=>(p.1,some p.2)),[1,0]⟩) ⟨#[v],df⟩ w'→Q (.returned v) w'):(Code.seq (.region id #[o1,o2] false) tail).wp P (bodyPostD P fn Q) a w:=by
 have get:∀(b:Act) (d t:Nat) (v:Value),d < b.tmps.size→(b.put (some d) v).eval (.tmp t)=if t=d then v else b.tmps.getD t undef:=fun b d t v hd=>by
  have:=dQ b d v t hd
  rw[←this]
  simp[Act.eval,Array.getD_eq_getD_getElem?]
 have hev:∀(b:Act) (t:Nat),b.eval (.tmp t)=b.tmps.getD t undef:=fun b t=>by simp[Act.eval,Array.getD_eq_getD_getElem?]
 refine wp_seq (wp_region_list ?_)
 show wpList P _ _ [o1,o2] a w
 unfold wpList
 rw[if_pos (by simp[Region.wanted,g1])]
 refine .inl ?_
 unfold Oper.wp
 obtain⟨vs,hvs⟩:∃vs:Array Value,#[a.eval (.tmp 5),a.eval (.tmp 4)]=vs:=⟨_,rfl⟩
 rw[e1,hvs]
 show wpList P _ _ [o2] (a.put o1.dst (.func (.func f) #[] vs)) w
 rw[k1]
 unfold wpList
 rw[if_pos (by simp[Region.wanted,g2])]
 refine .inl ?_
 unfold Oper.wp
 rw[e2 _ _ vs (by rw[get _ _ _ _ (by rw[hc.size];exact hd1),if_pos rfl])]
 show tail.wp P (bodyPostD P fn Q) (({(a.put (some d1) (.func (.func f) #[] vs))with defers:={target:= .fn (.func f) vs,args:=#[]}::(a.put (some d1) (.func (.func f) #[] vs)).defers}:Act).put o2.dst undef) w
 rw[k2]
 obtain⟨a1,ha1⟩:∃a1:Act,({(a.put (some d1) (.func (.func f) #[] vs))with defers:={target:= .fn (.func f) vs,args:=#[]}::(a.put (some d1) (.func (.func f) #[] vs)).defers}:Act).put none undef=a1:=⟨_,rfl⟩
 rw[ha1]
 have hs1:a1.tmps.size=fn.ntmps:=by rw[←ha1];simp only[Act.put];rw[←hc.size];simp
 have ht1:∀t,a1.tmps.getD t undef=if t=d1 then .func (.func f) #[] vs else a.tmps.getD t undef:=fun t=>by
  rw[←ha1]
  exact dQ a d1 _ t (by rw[hc.size];exact hd1)
 have hdf:a1.defers=[{target:= .fn (.func f) vs,args:=#[]}]:=by
  rw[←ha1]
  show _::(a.put (some d1) _).defers=_
  rw[bK,hc.defers,hd]
 have hc1:=hc.frame (a':=a1) (aS S.fr) hs1 (fun t=>by
  by_cases ht:t=d1
  ·subst ht;rw[hu];trivial
  ·rw[ht1,if_neg ht];exact hc.slot t) (fun t o ho=>hc.usedL t o ho)
 have hc1:Conc fn.ntmps B M ⟨w0.w,w0.al,w0.fx,a1.defers⟩ ρ S.fs a1 w:=hc1
 obtain⟨eff,hKe,hC⟩:=vc (args:=[.tmp 5,.tmp 4]) ud hc1 (nm:=200000) (by show ¬used S.u _=true;rw[hnm];simp) hm
 rw[St.put_eq]at hKe
 have hvs1:([Operand.tmp 5,.tmp 4].map a1.eval).toArray=vs:=by
  rw[←hvs]
  simp only[List.map_cons,List.map_nil]
  rw[hev,hev,hev,hev,ht1,ht1,if_neg h5,if_neg h4]
 rw[hvs1]at hC
 have h50:a1.tmps.getD 5 undef=vs.getD 0 undef:=by rw[←hvs1,←hev];rfl
 have h41:a1.tmps.getD 4 undef=vs.getD 1 undef:=by rw[←hvs1,←hev];rfl
 refine hC a1 Q hs1 h50 h41 hdf fun tm w' hts htm hR=>?_
 obtain⟨ρ',hc'⟩:=hR
 rw[←fK]at hc'
 have hc2:=hc'.frame (a':=⟨tm,a1.defers⟩) (aS [(4,aS (S.app none eff).fr 4)]) hts (fun t=>by
  by_cases ht:t=4
  ·subst ht
   have:=hc'.slot 4
   rw[h41,←htm]at this
   exact this
  ·have hb:Nat.beq t 4=false:=by
    cases hb:Nat.beq t 4 with
    | true=>exact absurd (Nat.eq_of_beq_eq_true hb) ht
    | false=>rfl
   simp only[aS,hb,cond_false]
   trivial) (fun t o ho=>by
  by_cases ht:t=4
  ·subst ht;exact hc'.usedL 4 o ho
  ·have hb:Nat.beq t 4=false:=by
    cases hb:Nat.beq t 4 with
    | true=>exact absurd (Nat.eq_of_beq_eq_true hb) ht
    | false=>rfl
   simp only[aS,hb,cond_false]at ho
   simp[AV.ids]at ho)
 have hc2:Conc fn.ntmps B M ⟨w0.w,w0.al,w0.fx,a1.defers⟩ ρ' (St.fs ⟨[(4,aS (S.app none eff).fr 4)],(S.app none eff).h,(S.app none eff).u⟩) ⟨tm,a1.defers⟩ w':=hc2
 obtain⟨v,ρ3,g1,g2⟩:=ux (w0:=⟨w0.w,w0.al,w0.fx,a1.defers⟩) (st:=⟨[(4,aS (S.app none eff).fr 4)],(S.app none eff).h,(S.app none eff).u⟩) hΓ hF hc2 hKe
 exact⟨v,g1,hQ v ρ3 _ w' g2⟩
end
theorem sK {P:Program}{Γ:Env}{f:FuncId}{fn:Func}{c:Code}{xs:List AV}{h0:List (Id×AO)}{r:AV}{h1:List (Id×AO)}(hΓ:Γ.chk P=true)(hf:P.funcs[f]?=some fn)(hb:fn.body=some c)(hn:(fn.name== "runtime.NumGoroutine")=false)
  (hN:Nat.ble xs.length fn.ntmps=true) (hnames:dG xs h0 .unk []=true)
  (h:∀(B:Nat) (M:Nat→Prop) (w0:Start) (ρ:Rho) (a:Act) (w:World) (Q:Ending→World→Prop),(∀o v,w0.fx o=some v→o.1=0)→w0.df=[]→Conc fn.ntmps B M w0 ρ (stG xs h0).fs a w→
   (∀v ρ' df w',Conc 1 B M ⟨w0.w,w0.al,w0.fx,df⟩ ρ' (St.fs ⟨[(0,r)],h1.map (fun p=>(p.1,some p.2)),[1,0]⟩) ⟨#[v],df⟩ w'→Q (.returned v) w')→c.wp P (bodyPostD P fn Q) a w):bt P f xs h0 r h1:=by
 refine⟨eD hf hb hn,fun w vs ρ hvs hl hal=>calls_of_wp_defers hf hb ?_⟩
 have hc:=fy (N:=fn.ntmps) hnames hvs hl hal (Nat.le_of_ble_eq_true hN)
 have hF:∀o v,(if(lkH h0 o).isSome=true then some (ρ o)else none)=some v→o.1=0:=fun o v hv=>by
  split at hv
  ·rename_i hs;exact eW hnames o hs
  ·cases hv
 refine h _ _ _ _ _ _ _ hF rfl hc fun v ρ2 df w' k2=>?_
 have hH:∀o,(St.fs ⟨[(0,r)],h1.map (fun p=>(p.1,some p.2)),[1,0]⟩).H o=lkH h1 o:=fun o=>jf h1 o
 have hH':(St.fs ⟨[(0,r)],h1.map (fun p=>(p.1,some p.2)),[1,0]⟩).H=lkH h1:=funext hH
 refine⟨v,ρ2,rfl,k2.keep,fun o ho=>?_,k2.cst,?_,⟨fun o x ho=>?_,fun o o' x x' b ho ho'=>?_,fun o x b ho he=>?_⟩,fun o x b ho he=>?_⟩
 ·have:=k2.fix o (ρ o) (by show(if(lkH h0 o).isSome=true then some (ρ o)else none)=_;rw[if_pos ho])
  exact this.1
 ·have:=k2.slot 0
  rw[hH']at this
  exact this
 ·have:=k2.obj o x (by rw[hH];exact ho)
  rw[hH']at this
  exact this
 ·exact k2.sep o o' x x' b (by rw[hH];exact ho) (by rw[hH];exact ho')
 ·exact(k2.rng o x b (by rw[hH];exact ho) he).1
 ·exact(k2.rng o x b (by rw[hH];exact ho) he).2
end Go.Sim
