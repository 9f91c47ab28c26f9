import Derived.Test.YtoglejgmjeojoaaGreatGa
namespace Go.Sim
open Go.RowKit
section
variable {P:Program} {Γ:Env} {N B:Nat} {M:Nat->Prop} {w0:Start} {ρ:Rho} {s:F_} {a:Act} {w:World} {o:Oper} {ev:Operand->AV} {H:Id->Option AO} {K:Eff->Prop} {KV:AV->Prop}
theorem IQ {op:BinOp}{T yt:TypeId}{x y:Operand}(ho:o.op= .binOp op T x y yt)(h:BX op (ev x) (ev y) KV):∃v,KV v/\Good P o ev H (.val v []):=by
 obtain⟨t,hK,hr⟩:=Ir h;refine⟨_,hK,aF fun N B M w0 ρ s a w hc N4 hR=>?_⟩;have h1:=(hc.eval x).1;have h2:=(hc.eval y).1;rw[N4 x aaa]at h1;rw[N4 y aaa]at h2;obtain⟨z,e1,e2⟩:=hr P B ρ w (okB ρ s.H w) T x y _ _ h1 h2;have e:execOp a.eval o=(do eqGuard op T x y (a.eval x) (a.eval y);binOp op T (a.eval x) (a.eval y)) >>=fun v=>pure (.value v):=by unfold execOp;rw[ho]
 exact⟨z,by rw[e,m8,e1];rfl,e2,by simp[AV.ids,AR.ids,AC.ids]⟩
theorem tJ {T:TypeId}(hu:P.underlying T=some .bool)(p q:Bool)(n:Nat):(Op.equalIn (n+1) T (.bool p) (.bool q)).run P w= .ok (p==q) w:=by simp[Op.equalIn,run_underlying hu]
theorem oo {T:TypeId}(hu:P.underlying T=some .bool)(p q:Bool):(Op.equal T (.bool p) (.bool q)).run P w= .ok (p==q) w:=tJ hu p q 9999
theorem FE {op:BinOp}{T yt:TypeId}{x y:Operand}{ti:Of}(hΓ:Γ.chk P=true)(hT:Γ.get T=some ti)(hb:ti.bool=true)(ho:o.op= .binOp op T x y yt)(h:Bv op (ev x) (ev y) KV):∃v,KV v/\Good P o ev H (.val v []):=by
 obtain⟨ii,d,fit⟩:=Env.fit hΓ hT;have hd:d= .bool:=by have:=fit.bool;rw[hb]at this;cases d<;>simp[Eb]at this⊢
 subst hd;unfold Bv at h;split at h
 ·rename_i p q hx hy;split at h
  ·refine⟨_,h,aF fun N B M w0 ρ s a w hc N4 hR=>?_⟩;have h1:=(hc.eval x).1;have h2:=(hc.eval y).1;rw[N4 x aaa,hx]at h1;rw[N4 y aaa,hy]at h2;have e1:=fW h1;have e2:=fW h2;exact⟨.bool (p==q),by simp only[execOp,ho,e1,e2,m8,mF,i7,binOp,oo fit.und,p7],.bool _,by simp[AV.ids,AR.ids,AC.ids]⟩
  ·refine⟨_,h,aF fun N B M w0 ρ s a w hc N4 hR=>?_⟩;have h1:=(hc.eval x).1;have h2:=(hc.eval y).1;rw[N4 x aaa,hx]at h1;rw[N4 y aaa,hy]at h2;have e1:=fW h1;have e2:=fW h2;exact⟨.bool (!(p==q)),by simp only[execOp,ho,e1,e2,m8,mF,i7,binOp,oo fit.und,p7],.bool _,by simp[AV.ids,AR.ids,AC.ids]⟩
  ·exact h.elim
 ·exact h.elim
theorem fO {P:Program}{e:TypeId}{d:TypeDesc}(w:World)(hu:P.underlying e=some d)(ha:ya d=false){xs:Array Value}{off:Nat}{v:Value}(hx:xs[off]?=some v):(part e xs off).run P w= .ok v w:=by cases d<;>simp[ya]at ha<;>simp[part,isAgg,run_underlying hu,hx]
theorem qO {P:Program}{Γ:Env}(hΓ:Γ.chk P=true){t:TypeId}{k:Nat}(h:Gk Γ t=some k):∃d,P.underlying t=some d/\ya d=false/\((k=0/\∃q,d= .int q)\/(k=1/\d= .bool)\/(k=2/\d= .string)):=by
 unfold Gk at h
 cases hT:Γ.get t with
 | none=>rw[hT]at h;cases h
 | some ti=>
  rw[hT]at h;dsimp only at h;obtain⟨ii,d,fit⟩:=Env.fit hΓ hT;have h1:=fit.agg;have h2:=fit.kind;have h3:=fit.bool;have h4:=fit.str;refine⟨d,fit.und,?_,?_⟩
  ·rw[h1];split at h<;>first|assumption|(cases h;done)|simp_all
  ·split at h
   ·rename_i e1 e2;rw[e2]at h2
    cases d<;>simp[jO]at h2
    injection h with h;exact .inl ⟨h.symm,_,rfl⟩
   ·rename_i e1 e2 e3;rw[e3]at h3
    cases d<;>simp[Eb]at h3
    injection h with h;exact .inr (.inl ⟨h.symm,rfl⟩)
   ·rename_i e1 e2 e3 e4;rw[e4]at h4
    cases d<;>simp[zB]at h4
    injection h with h;exact .inr (.inr ⟨h.symm,rfl⟩)
   ·cases h
theorem Ah {i:Nat}{U:Array Value}{u:Value}{us:List Value}(h:U.toList.drop i=u::us):U[i]?=some u/\U.toList.drop (i+1)=us:=by have h0:=congrArg (·[0]?) h;simp only[i8,r9,w9]at h0;refine⟨by simpa using h0,?_⟩;have:=congrArg (·.drop 1) h;simpa [y9,Nat.add_comm]using this
theorem tq {P:Program}{Γ:Env}(hΓ:Γ.chk P=true):∀(l:List (Nat×Nat×TypeId)) (i:Nat) (xs ys:List AC) (K:Bool->Prop),eqCs Γ i l xs ys K->∃r,K r/\
  ∀(fs:List Field) (U V:Array Value) (B:Nat) (ρ:Rho) (w:World) (ok:Nat->Prop) (us vs:List Value),fs.map (fun f=>(f.offset,P.cellsOf f.type,f.type))=l->(∀f∈fs,f.name≠ "_")->U.toList.drop i=us->V.toList.drop i=vs->RCs B ρ w ok us xs->RCs B ρ w ok vs ys->
   ∀(d:Nat) (w':World),(Op.eqFields (d+1) U V fs).run P w'= .ok r w'
 | [],i,[],[],K,h=>⟨true,h,fun fs U V B ρ w ok us vs hf _ _ _ _ _ d w'=>by
   rw[List.map_eq_nil_iff]at hf;subst hf;simp[Op.eqFields]⟩
 | [],_,_::_,_,_,h=>by simp[eqCs]at h
 | [],_,[],_::_,_,h=>by simp[eqCs]at h
 | _::_,_,[],_,_,h=>by simp[eqCs]at h
 | _::_,_,_::_,[],_,h=>by simp[eqCs]at h
 |(off,sz,ft)::l,i,x::xs,y::ys,K,h=>by
  have key:∀(b:Bool),(∃r,K (b&&r)/\∀(fs:List Field) (U V:Array Value) (B:Nat) (ρ:Rho) (w:World) (ok:Nat->Prop) (us vs:List Value),fs.map (fun f=>(f.offset,P.cellsOf f.type,f.type))=l->(∀f∈fs,f.name≠ "_")->U.toList.drop (i+1)=us->V.toList.drop (i+1)=vs->RCs B ρ w ok us xs->RCs B ρ w ok vs ys->
    ∀(d:Nat) (w':World),(Op.eqFields (d+1) U V fs).run P w'= .ok r w')->off=i->
    (∀(B:Nat) (ρ:Rho) (w:World) (ok:Nat->Prop) (u v:Value),RC B ρ w ok u x->RC B ρ w ok v y->∀(U V:Array Value),U[i]?=some u->V[i]?=some v->∀(d:Nat) (w':World),(part ft U i).run P w'= .ok u w'/\(part ft V i).run P w'= .ok v w'/\(Op.equalIn (d+1) ft u v).run P w'= .ok b w')->
    ∃r,K r/\∀(fs:List Field) (U V:Array Value) (B:Nat) (ρ:Rho) (w:World) (ok:Nat->Prop) (us vs:List Value),fs.map (fun f=>(f.offset,P.cellsOf f.type,f.type))=(off,sz,ft)::l->(∀f∈fs,f.name≠ "_")->U.toList.drop i=us->V.toList.drop i=vs->RCs B ρ w ok us (x::xs)->RCs B ρ w ok vs (y::ys)->
     ∀(d:Nat) (w':World),(Op.eqFields (d+1) U V fs).run P w'= .ok r w':=by
   rintro b ⟨r,hK,hr⟩ rfl hc;refine⟨b&&r,hK,?_⟩;intro fs U V B ρ w ok us vs hf hn hU hV hu hv d w'
   match fs,hf,hn with
   | [],hf,_=>simp at hf
   | f::fs,hf,hn=>
    simp only[n9,List.cons.injEq,Prod.mk.injEq]at hf;obtain⟨⟨f1,f2,f3⟩,hf⟩:=hf
    match us,vs,hu,hv with
    | u::us,v::vs,hu,hv=>
     obtain⟨a1,a2⟩:=Ah hU;obtain⟨b1,b2⟩:=Ah hV;obtain⟨c1,c2,c3⟩:=hc B ρ w ok u v hu.1 hv.1 U V a1 b1 d w';have SW:=hr fs U V B ρ w ok us vs hf (fun g hg=>hn g (by simp[hg])) a2 b2 hu.2 hv.2 d w';have SD:f.name≠ "_" :=hn f s_;simp only[Op.eqFields,d5 SD,m8,f1,f3,c1,c2,c3,i7]
     cases b
     ·simp
     ·simp only[Bool.not_true,w8,if_false,m7];exact SW
  rw[eqCs.eq_def]at h;dsimp only at h;split at h
  ·rename_i k a k' b e1 e2;obtain⟨rfl,h⟩:=h;obtain⟨r,h1,h2⟩:=tq hΓ l (i+1) xs ys _ h;obtain⟨D,hu,T6,hD⟩:=qO hΓ e2;refine key (a==b) ⟨r,h1,h2⟩ (r6 e1) ?_;intro B ρ w ok u v O1 Pv U V hU hV d w';have q1:u= .int k a:=(by cases O1;rfl);have q2:v= .int k b:=(by cases Pv;rfl);subst q1;subst q2;rcases hD with⟨_,q,rfl⟩|⟨h0,_⟩|⟨h0,_⟩
   ·exact⟨fO w' hu T6 hU,fO w' hu T6 hV,run_equalIn_int w' d ft k q a b hu⟩
   ·cases h0
   ·cases h0
  ·rename_i a b e1 e2;obtain⟨r,h1,h2⟩:=tq hΓ l (i+1) xs ys _ h;obtain⟨D,hu,T6,hD⟩:=qO hΓ e2;refine key (a==b) ⟨r,h1,h2⟩ (r6 e1) ?_;intro B ρ w ok u v O1 Pv U V hU hV d w';have q1:u= .bool a:=(by cases O1;rfl);have q2:v= .bool b:=(by cases Pv;rfl);subst q1;subst q2;rcases hD with⟨h0,_⟩|⟨_,rfl⟩|⟨h0,_⟩
   ·cases h0
   ·exact⟨fO w' hu T6 hU,fO w' hu T6 hV,run_equalIn_bool' w' d ft a b hu⟩
   ·cases h0
  ·rename_i a b e1 e2;obtain⟨r,h1,h2⟩:=tq hΓ l (i+1) xs ys _ h;obtain⟨D,hu,T6,hD⟩:=qO hΓ e2;refine key (a==b) ⟨r,h1,h2⟩ (r6 e1) ?_;intro B ρ w ok u v O1 Pv U V hU hV d w';have q1:u= .string ⟨a.toArray⟩:=(by cases O1;rfl);have q2:v= .string ⟨b.toArray⟩:=(by cases Pv;rfl);subst q1;subst q2;rcases hD with⟨h0,_⟩|⟨h0,_⟩|⟨_,rfl⟩
   ·cases h0
   ·cases h0
   ·refine⟨fO w' hu T6 hU,fO w' hu T6 hV,?_⟩;rw[run_equalIn_string w' d ft _ _ hu];simp[ByteArray.toList_eq]
  ·exact h.elim
theorem Jk {op:BinOp}{T yt:TypeId}{x y:Operand}{ti:Of}{xs:List AC}(hΓ:Γ.chk P=true)(hT:Γ.get T=some ti)(ho:o.op= .binOp op T x y yt)(hx:ev x= .r (.agg xs))(N7:xR P T=true)
  (h:Gi Γ ti.fields op xs (ev y) KV):∃v,KV v/\Good P o ev H (.val v []):=by
 obtain⟨ii,d,fit⟩:=Env.fit hΓ hT;unfold xR at N7;rw[fit.und]at N7;split at N7
 ·rename_i fs hd;injection hd with hd;subst hd;simp only[c9,q7,bne_iff_ne,u9]at N7;obtain⟨⟨hn,hs⟩,hg⟩:=N7;have QH:=fit.fields;simp only[lA,c9,j7]at QH;have QD:P.fieldsOf T=fs:=by unfold Program.fieldsOf;rw[fit.und]
  have WW:P.underlying T=some (.struct (P.fieldsOf T)):=by rw[QD];exact fit.und
  unfold Gi at h;split at h
  ·rename_i ys hy;split at h
   ·obtain⟨r,hK,hr⟩:=tq hΓ _ _ _ _ _ h;refine⟨_,hK,aF fun N B M w0 ρ s a w hc N4 hR=>?_⟩;have h1:=(hc.eval x).1;have h2:=(hc.eval y).1;rw[N4 x aaa,hx]at h1;rw[N4 y aaa,hy]at h2;obtain⟨us,e1,c1⟩:=h1;obtain⟨vs,e2,c2⟩:=h2;have N9:=hr fs.toList us vs B ρ w _ us.toList vs.toList QH.1 hn s_ s_ c1 c2 9998 w;exact⟨.bool r,by simp only[execOp,ho,e1,e2,m8,run_eqGuard_agg w _ _ _ _ _ _ hg,i7,run_eql_struct,run_equalIn_struct w 9999 T us vs WW hs,QD,N9,p7],.bool _,by simp[AV.ids,AR.ids,AC.ids]⟩
   ·obtain⟨r,hK,hr⟩:=tq hΓ _ _ _ _ _ h;refine⟨_,hK,aF fun N B M w0 ρ s a w hc N4 hR=>?_⟩;have h1:=(hc.eval x).1;have h2:=(hc.eval y).1;rw[N4 x aaa,hx]at h1;rw[N4 y aaa,hy]at h2;obtain⟨us,e1,c1⟩:=h1;obtain⟨vs,e2,c2⟩:=h2;have N9:=hr fs.toList us vs B ρ w _ us.toList vs.toList QH.1 hn s_ s_ c1 c2 9998 w;exact⟨.bool (!r),by simp only[execOp,ho,e1,e2,m8,run_eqGuard_agg w _ _ _ _ _ _ hg,i7,run_neq_struct,run_equalIn_struct w 9999 T us vs WW hs,QD,N9,p7],.bool _,by simp[AV.ids,AR.ids,AC.ids]⟩
   ·exact h.elim
  ·exact h.elim
 ·cases N7
theorem Ke {op:UnOp}{T:TypeId}{x:Operand}(ho:o.op= .unOp op T x)(h:Kp op (ev x) KV):∃v,KV v/\Good P o ev H (.val v []):=by
 unfold Kp at h;split at h
 ·rename_i b hx;refine⟨_,h,aF fun N B M w0 ρ s a w hc N4 hR=>?_⟩;have h1:=(hc.eval x).1;rw[N4 x aaa,hx]at h1;have e1:=fW h1;exact⟨.bool (!b),by simp[execOp,ho,e1,Op.unary],.bool _,by simp[AV.ids,AR.ids,AC.ids]⟩
 ·rename_i k n hx;refine⟨_,h,aF fun N B M w0 ρ s a w hc N4 hR=>?_⟩;have h1:=(hc.eval x).1;rw[N4 x aaa,hx]at h1;have e1:=cS h1;exact⟨.int k (k.wrap (0-n)),by simp[execOp,ho,e1,Op.unary,Op.intArith],.int _ _,by simp[AV.ids,AR.ids,AC.ids]⟩
 ·exact h.elim
theorem zr {i:Nat}{x:Operand}(ho:o.op= .extract x i)(h:rp i (ev x) KV):∃v,KV v/\Good P o ev H (.val v []):=by
 unfold rp at h;split at h
 ·rename_i xs hx;split at h
  ·rename_i r hr;refine⟨_,h,aF fun N B M w0 ρ s a w hc N4 hR=>?_⟩;have h1:=hc.eval x;rw[N4 x aaa,hx]at h1;obtain⟨⟨us,e1,e2⟩,e3⟩:=h1
   have key:∀(us:List Value) (xs:List AR) (i:Nat),RRs B ρ w (okB ρ s.H w) us xs->xs[i]?=some r->∃u,us[i]?=some u/\RR B ρ w (okB ρ s.H w) u r:=by
    intro us
    induction us with
    | nil=>intro xs i g hi;cases xs with
     | nil=>simp at hi
     | cons=>exact g.elim
    | cons u us ih=>intro xs i g hi;cases xs with
     | nil=>exact g.elim
     | cons y ys=>cases i with
      | zero=>simp at hi;subst hi;exact⟨u,s_,g.1⟩
      | succ i=>obtain⟨u',g1,g2⟩:=ih ys i g.2 (by simpa using hi);exact⟨u',by simpa using g1,g2⟩
   obtain⟨u,g1,g2⟩:=key us.toList xs i e2 hr;refine⟨u,?_,g2,fun id N8=>e3 id (u5.2 ⟨r,b9 hr,N8⟩)⟩;have:us[i]?=some u:=(by simpa using g1);simp[execOp,ho,e1,Instr.extract,this]
  ·exact h.elim
 ·exact h.elim
theorem tW {x:Operand}(ho:o.op= .nilCheck x){v:AV}(hx:ev x=v)(hv:(∃q off,v= .r (.c (.ptr q off)))\/(∃q sz i off,v= .el q sz i off)\/(∃fr row off,v= .ro fr row off)):Good P o ev H (.val v []):=by
 refine aF fun N B M w0 ρ s a w hc N4 hR=>?_;have h1:=hc.eval x;rw[N4 x aaa,hx]at h1;refine⟨a.eval x,?_,h1.1,h1.2⟩
 have:∃ad,a.eval x= .pointer (some ad):=by
  rcases hv with⟨q,off,rfl⟩|⟨q,sz,i,off,rfl⟩|⟨fr,row,off,rfl⟩
  ·obtain⟨⟨b,_,e⟩,_⟩:=h1;exact⟨_,e⟩
  ·obtain⟨⟨b,n,c,_,_,e⟩,_⟩:=h1;exact⟨_,e⟩
  ·obtain⟨⟨b,us,e,_⟩,_⟩:=h1;exact⟨_,e⟩
 obtain⟨ad,e⟩:=this;simp[execOp,ho,e]
theorem ox {T e:TypeId}{ti:Of}{i:TypeInfo}{d:TypeDesc}(fit:ti.Fit P T i d)(he:ti.elem=some e):d= .slice e:=by
 have:=fit.elem;rw[he]at this
 cases d<;>simp[ED]at this
 rw[this]
theorem JC {ok:Nat->Prop}{dflt y n:Nat}{isSl:Bool}{code:BoundsCode}{v:Option AV}{X:Option Value}(hb:bnd dflt v n)(hv:∀u,v=some u->∃x,X=some x/\RV B ρ w ok x u)(hn:v=none->X=none)(OH:n<=y):
  (match X with|some x=>Instr.sliceBound x y code|none=>pure dflt).run P w= .ok n w:=by
 cases v with
 | none=>
  rw[hn rfl];simp only[bnd]at hb;subst hb
  rfl
 | some u=>
  obtain⟨x,rfl,hx⟩:=hv u rfl;unfold bnd at hb;split at hb
  ·rename_i he;cases he
  ·rename_i k i he;injection he with he;subst he;subst hb;rw[cS hx];simp[Instr.sliceBound,asIntOf,OH]
  ·exact hb.elim
theorem nN {ok:Nat->Prop}{isSl:Bool}{len cap l h:Nat}{lo hi:Option Operand}(N4:∀x,(lo=some x\/hi=some x)->RV B ρ w ok (a.eval x) (ev x))
  (hl:bnd 0 (lo.map ev) l) (hh:bnd len (hi.map ev) h) (h1:l<=h) (h2:h<=cap):(Instr.sliceBounds isSl len cap (lo.map a.eval) (hi.map a.eval) none).run P w= .ok (l,h,cap) w:=by
 have e1:(match hi.map a.eval with|some x=>Instr.sliceBound x cap (if isSl then .sliceAcap else .sliceAlen)|none=>pure len).run P w= .ok h w:=
  JC (ok:=ok) (isSl:=isSl) hh (fun u hu=>by
   cases hi with
   | none=>cases hu
   | some x=>injection hu with hu;subst hu;exact⟨_,rfl,N4 x (.inr rfl)⟩) (fun hn=>by cases hi with|none=>rfl|some x=>cases hn) h2
 have e2:(match lo.map a.eval with|some x=>Instr.sliceBound x h .sliceB|none=>pure 0).run P w= .ok l w:=
  JC (ok:=ok) (isSl:=isSl) hl (fun u hu=>by
   cases lo with
   | none=>cases hu
   | some x=>injection hu with hu;subst hu;exact⟨_,rfl,N4 x (.inl rfl)⟩) (fun hn=>by cases lo with|none=>rfl|some x=>cases hn) h1
 unfold Instr.sliceBounds
 cases hi with
 | none=>
  simp only[E5]at e1 e2⊢
  cases lo with
  | none=>
   simp only[E5]at e2⊢;simp only[p7,Result.ok.injEq,and_true]at e1 e2
   simp[e1,<-e2]
  | some x=>
   simp only[s6]at e2⊢;simp only[p7,Result.ok.injEq,and_true]at e1;subst e1
   simp[e2]
 | some y=>
  simp only[s6]at e1⊢
  cases lo with
  | none=>
   simp only[E5]at e2⊢;simp only[p7,Result.ok.injEq,and_true]at e2;subst e2
   cases isSl<;>simp at e1⊢<;> simp[e1]
  | some x=>
   simp only[s6]at e2⊢
   cases isSl<;>simp at e1 e2⊢<;> simp[e1,e2]
theorem operands_slice {T:TypeId}{x:Operand}{lo hi:Option Operand}:x∈(Op.slice T x lo hi none).operands.toList/\∀y,(lo=some y\/hi=some y)->y∈(Op.slice T x lo hi none).operands.toList:=by refine⟨by simp[Op.operands],fun y hy=>?_⟩;rcases hy with rfl|rfl<;>simp[Op.operands]
theorem vA {T:TypeId}{d:TypeDesc}(hd:P.underlying T=some d)(hna:ya d=false)(v:Value)(lo hi:Option Value):(Instr.sliceAt T v lo hi none).run P w=(Instr.slice T v lo hi none).run P w:=by
 simp only[Instr.sliceAt,m8,run_underlying hd,i7]
 cases d<;>first|rfl|simp[ya]at hna
theorem vT {T:TypeId}{x:Operand}{lo hi:Option Operand}{ti:Of}{esz:Nat}(hΓ:Γ.chk P=true)(hT:Γ.get T=some ti)(hs:ti.str=true)(ho:o.op= .slice T x lo hi none){t:List UInt8}(hx:ev x=tS t)
  (h:pn esz (ev x) (lo.map ev) (hi.map ev) H K):∃e,K e/\Good P o ev H e:=by
 obtain⟨ii,d,fit⟩:=Env.fit hΓ hT;have hd:d= .string:=by have:=fit.str;rw[hs]at this;cases d<;>simp[zB]at this⊢
 subst hd;rw[hx]at h;obtain⟨l,hh,b1,b2,h1,h2,hK⟩:=h;refine⟨_,hK,aF fun N B M w0 ρ s a w hc N4 hR=>?_⟩;rw[ho]at N4;have hv:=(hc.eval x).1;rw[N4 x operands_slice.1,hx]at hv;have e1:=gj hv;have PG:(⟨t.toArray⟩:ByteArray).size=t.length:=by simp[ByteArray.size]
 refine⟨.string ⟨((t.take hh).drop l).toArray⟩,?_,.str _,by simp[AV.ids,AR.ids,AC.ids]⟩;have hb:=nN (P:=P) (w:=w) (ρ:=ρ) (a:=a) (ev:=ev) (ok:=okB ρ s.H w) (isSl:=false) (len:=t.length) (cap:=t.length) (lo:=lo) (hi:=hi) (fun y hy=>by have:=(hc.eval y).1;rwa [N4 y (operands_slice.2 y hy)]at this) b1 b2 h1 h2
 have he:(⟨t.toArray⟩:ByteArray).extract l hh=⟨((t.take hh).drop l).toArray⟩:=by apply ByteArray.ext;simp[ByteArray.data_extract,F1]
 simp only[execOp,ho,e1,m8,vA fit.und rfl,Instr.slice,run_underlying fit.und,i7,PG,hb,E5,Option.isSome_none,w8,if_false,p7,he]
theorem V56{p:Prop}(h:p:=by
 obtain⟨A,c,e1,QW,Ur,hu,_⟩:=hv.slice_inv;rw[e1]at hv
 exact⟨_,run B ρ a w (okB ρ s.H w) A _ c l hh e1 (fun y hy=>by have:=(hc.eval y).1;rwa [N4 y (operands_slice.2 y hy)]at this) b1 b2 h1 o_,hv.cut l hh h1 h2,by simp[AV.ids,AR.ids,AC.ids]⟩):p:=h
theorem V49{p:Prop}(h:p:=by
 rw[g1]at e1;subst g2;have YP:hh=0:=by simpa using h2
 subst YP
 exact⟨_,run B ρ a w (okB ρ s.H w) none 0 0 0 0 e1 (fun y hy=>by have:=(hc.eval y).1;rwa [N4 y (operands_slice.2 y hy)]at this) Ro b2 (d7 _) (d7 _),⟨none,0,0,g1,s_,d7 _⟩,N8⟩):p:=h
theorem V67{p:Prop}(h:p:=by
 rw[g1]at e1;refine⟨_,run B ρ a w (okB ρ s.H w) _ _ cap 0 hh e1 (fun y hy=>by have:=(hc.eval y).1;rwa [N4 y (operands_slice.2 y hy)]at this) Ro b2 (v4 _) o_,⟨some ⟨b,0,none⟩,_,cap,g1,?_,h2⟩,N8⟩
 simp[fJ]):p:=h
theorem wa {T e:TypeId}{x:Operand}{lo hi:Option Operand}{ti te:Of}(hΓ:Γ.chk P=true)(hT:Γ.get T=some ti)(he:ti.elem=some e)(hE:Γ.get e=some te)(ho:o.op= .slice T x lo hi none)
  (h:pn te.size (ev x) (lo.map ev) (hi.map ev) H K) (Ub:∀t,ev x≠tS t):∃e,K e/\Good P o ev H e:=by
 obtain⟨ii,d,fit⟩:=Env.fit hΓ hT;obtain⟨ie,de,fite⟩:=Env.fit hΓ hE;have hd:=ox fit he;subst hd
 have run:∀(B:Nat) (ρ:Rho) (a:Act) (w:World) (ok:Nat->Prop) (A:Option Addr) (n c l hh:Nat),a.eval x= .slice A n c->(∀y,(lo=some y\/hi=some y)->RV B ρ w ok (a.eval y) (ev y))->bnd 0 (lo.map ev) l->bnd n (hi.map ev) hh->l<=hh->hh<=c->
   (execOp a.eval o).run P w= .ok (.value (.slice (if c=l then A else A.map (·.add (l*te.size))) (hh-l) (c-l))) w:=by
  intro B ρ a w ok A n c l hh e1 hb b1 b2 h1 h2;have hb:=nN (P:=P) (w:=w) (ρ:=ρ) (a:=a) (ev:=ev) (ok:=ok) (isSl:=true) (len:=n) (cap:=c) (lo:=lo) (hi:=hi) hb b1 b2 h1 h2;simp only[execOp,ho,e1,m8,vA fit.und rfl,Instr.slice,run_underlying fit.und,i7,hb,E5,cI fite.info,fite.size,p7]
 unfold pn at h;split at h
 ·rename_i t hx;exact absurd hx (Ub t)
 ·rename_i sz rows hx;obtain⟨rfl,l,hh,b1,b2,h1,h2,hK⟩:=h;refine⟨_,hK,aF fun N B M w0 ρ s a w hc N4 hR=>?_⟩;rw[ho]at N4;have hv:=(hc.eval x).1;rw[N4 x operands_slice.1,hx]at hv;have hv:RT w (okB ρ s.H w) (a.eval x) (.lst te.size rows):=hv;exact V56
 ·rename_i sz rows hx;obtain⟨rfl,l,hh,b1,b2,h1,h2,hK⟩:=h;refine⟨_,hK,aF fun N B M w0 ρ s a w hc N4 hR=>?_⟩;rw[ho]at N4;have hv:=(hc.eval x).1;rw[N4 x operands_slice.1,hx]at hv;have hv:RT w (okF B (okB ρ s.H w) true) (a.eval x) (.lst te.size rows):=hv;exact V56
 ·rename_i q hx;split at h
  ·rename_i fr sz rows hq;split at h
   ·rename_i Sf;obtain⟨hh,b2,h2,hK⟩:=h;refine⟨_,hK,aF fun N B M w0 ρ s a w hc N4 hR=>?_⟩;rw[ho]at N4;have hv:=hc.eval x;rw[N4 x operands_slice.1,hx]at hv;obtain⟨⟨_,e1⟩,N8⟩:=hv;have Oy:s.H q=some (.arr fr sz rows):=(by rw[hR q s_];exact hq);obtain⟨hu,g⟩:=hc.arr Oy;have Ro:bnd 0 (lo.map ev) 0:=(by rw[Sf];rfl);rcases g with⟨g1,g2⟩|⟨b,cap,cur,e,fz,g1,g2,g3,g4,g5,g6,g7,g8,g9⟩
    ·exact V49
    ·exact V67
   ·exact h.elim
  ·rename_i sz rows hole hq;split at h
   ·rename_i Sf;obtain⟨hh,b2,h2,hK⟩:=h;refine⟨_,hK,aF fun N B M w0 ρ s a w hc N4 hR=>?_⟩;rw[ho]at N4;have hv:=hc.eval x;rw[N4 x operands_slice.1,hx]at hv;obtain⟨⟨_,e1⟩,N8⟩:=hv;have Oy:s.H q=some (.dar sz rows hole):=(by rw[hR q s_];exact hq);obtain⟨hu,g⟩:=hc.dar Oy;have Ro:bnd 0 (lo.map ev) 0:=(by rw[Sf];rfl);rcases g with⟨g1,g2,_⟩|⟨b,cap,cur,e,fz,Fp,g1,g2,g3,g4,g5,g6,_⟩
    ·exact V49
    ·exact V67
   ·exact h.elim
  ·exact h.elim
 ·rename_i q k hx;split at h
  ·rename_i fr sz rows hq;split at h
   ·rename_i Sf;obtain⟨hh,b2,h2,h3,hK⟩:=h;refine⟨_,hK,aF fun N B M w0 ρ s a w hc N4 hR=>?_⟩;rw[ho]at N4;have hv:=hc.eval x;rw[N4 x operands_slice.1,hx]at hv;obtain⟨⟨A,n,c,e0,e1,e2⟩,N8⟩:=hv;have Oy:s.H q=some (.arr fr sz rows):=(by rw[hR q s_];exact hq);obtain⟨hu,g⟩:=hc.arr Oy;have Ro:bnd 0 (lo.map ev) 0:=by rw[Sf];rfl
    have X6:n<=c:=by
     rcases g with⟨g1,g2⟩|⟨b,cap,cur,e,fz,g1,g2,g3,g4,g5,g6,g7,g8,g9⟩
     ·rw[g1]at e0;injection e0 with _ x1 x2;omega
     ·rw[g1]at e0;injection e0 with _ x1 x2;omega
    refine⟨_,run B ρ a w (okB ρ s.H w) A k c 0 hh e1 (fun y hy=>by have:=(hc.eval y).1;rwa [N4 y (operands_slice.2 y hy)]at this) Ro b2 (v4 _) o_,⟨A,n,c,e0,?_,o_⟩,N8⟩
    cases A<;>simp[fJ]
   ·exact h.elim
  ·rename_i sz rows hole hq;split at h
   ·rename_i Sf;obtain⟨hh,b2,h2,h3,hK⟩:=h;refine⟨_,hK,aF fun N B M w0 ρ s a w hc N4 hR=>?_⟩;rw[ho]at N4;have hv:=hc.eval x;rw[N4 x operands_slice.1,hx]at hv;obtain⟨⟨A,n,c,e0,e1,e2⟩,N8⟩:=hv;have Oy:s.H q=some (.dar sz rows hole):=(by rw[hR q s_];exact hq);obtain⟨hu,g⟩:=hc.dar Oy;have Ro:bnd 0 (lo.map ev) 0:=by rw[Sf];rfl
    have X6:n<=c:=by
     rcases g with⟨g1,g2,_⟩|⟨b,cap,cur,e,fz,Fp,g1,g2,g3,g4,g5,g6,_⟩
     ·rw[g1]at e0;injection e0 with _ x1 x2;omega
     ·rw[g1]at e0;injection e0 with _ x1 x2;omega
    refine⟨_,run B ρ a w (okB ρ s.H w) A k c 0 hh e1 (fun y hy=>by have:=(hc.eval y).1;rwa [N4 y (operands_slice.2 y hy)]at this) Ro b2 (v4 _) o_,⟨A,n,c,e0,?_,o_⟩,N8⟩
    cases A<;>simp[fJ]
   ·exact h.elim
  ·exact h.elim
 ·exact h.elim
theorem V132{p:Prop}(h:p:=by
 obtain⟨A,c,e1,_⟩:=hv.slice_inv
 exact⟨_,rexec a w _ _ e1 (rs w A _ c _),.int _ _,by simp[AV.ids,AR.ids,AC.ids]⟩):p:=h
theorem V137{p:Prop}(h:p:=by
 subst g2
 exact⟨_,rexec a w _ _ (e1.trans g1) (rs w _ _ _ _),.int _ _,by simp[AV.ids,AR.ids,AC.ids]⟩):p:=h
theorem V141{p:Prop}(h:p:=by
 exact⟨_,rexec a w _ _ (e1.trans g1) (rs w _ _ _ _),.int _ _,by simp[AV.ids,AR.ids,AC.ids]⟩):p:=h
theorem IC {T:TypeId}{x:Operand}{ti:Of}(hΓ:Γ.chk P=true)(hT:Γ.get T=some ti)(ho:o.op= .call {callee:= .builtin .len,args:=#[x],argTypes:=#[T]})
  (h:(match ti.str,ti.elem with|true,none=>∃b,ev x=tS b/\K (.val (tI .i64 b.length) [])|false,some _=>Fz (ev x) H K|_,_=>False)):∃e,K e/\Good P o ev H e:=by
 obtain⟨ii,d,fit⟩:=Env.fit hΓ hT;have Oz:x∈o.op.operands.toList:=by simp[ho,Op.operands,Call.operands]
 have rexec:∀(a:Act) (w:World) (v u:Value),a.eval x=v->(Builtin.len_ #[T] o.type #[v]).run P w= .ok u w->(execOp a.eval o).run P w= .ok (.value u) w:=by rintro a w v u rfl h;simp[execOp,ho,resolve,invoke,builtin,h]
 split at h
 ·rename_i hs _;have hd:d= .string:=by have:=fit.str;rw[hs]at this;cases d<;>simp[zB]at this⊢
  subst hd
  have rstr:∀(w:World) (b:ByteArray) (ty:TypeId),(Builtin.len_ #[T] ty #[.string b]).run P w= .ok (goInt b.size) w:=by intro w b ty;simp[Builtin.len_,run_underlying fit.und]
  obtain⟨b,hx,h⟩:=h;refine⟨_,h,aF fun N B M w0 ρ s a w hc N4 hR=>?_⟩;have hv:=(hc.eval x).1;rw[N4 x Oz,hx]at hv;exact⟨.int .i64 b.length,rexec a w _ _ (gj hv) (by rw[rstr];rfl),.int _ _,by simp[AV.ids,AR.ids,AC.ids]⟩
 ·rename_i e hs he;have hd:=ox fit he;subst hd
  have rs:∀(w:World) (A:Option Addr) (n c:Nat) (ty:TypeId),(Builtin.len_ #[T] ty #[.slice A n c]).run P w= .ok (.int .i64 n) w:=by intro w A n c ty;simp[Builtin.len_,run_underlying fit.und,goInt]
  unfold Fz at h;split at h
  ·rename_i sz rows hx;refine⟨_,h,aF fun N B M w0 ρ s a w hc N4 hR=>?_⟩;have hv:=(hc.eval x).1;rw[N4 x Oz,hx]at hv;have hv:RT w (okB ρ s.H w) (a.eval x) (.lst sz rows):=hv;exact V132
  ·rename_i sz rows hx;refine⟨_,h,aF fun N B M w0 ρ s a w hc N4 hR=>?_⟩;have hv:=(hc.eval x).1;rw[N4 x Oz,hx]at hv;have hv:RT w (okF B (okB ρ s.H w) true) (a.eval x) (.lst sz rows):=hv;exact V132
  ·rename_i n hx;refine⟨_,h,aF fun N B M w0 ρ s a w hc N4 hR=>?_⟩;have hv:=(hc.eval x).1;rw[N4 x Oz,hx]at hv;exact⟨_,rexec a w _ _ hv (rs w _ _ _ _),.int _ _,by simp[AV.ids,AR.ids,AC.ids]⟩
  ·rename_i q hx;split at h
   ·rename_i fr sz rows hq;refine⟨_,h,aF fun N B M w0 ρ s a w hc N4 hR=>?_⟩;have hv:=(hc.eval x).1;rw[N4 x Oz,hx]at hv;obtain⟨_,e1⟩:=hv;have Oy:s.H q=some (.arr fr sz rows):=(by rw[hR q s_];exact hq);obtain⟨hu,g⟩:=hc.arr Oy;rcases g with⟨g1,g2⟩|⟨b,cap,cur,e,fz,g1,_⟩
    ·exact V137
    ·exact V141
   ·rename_i sz rows hole hq;refine⟨_,h,aF fun N B M w0 ρ s a w hc N4 hR=>?_⟩;have hv:=(hc.eval x).1;rw[N4 x Oz,hx]at hv;obtain⟨_,e1⟩:=hv;have Oy:s.H q=some (.dar sz rows hole):=(by rw[hR q s_];exact hq);obtain⟨hu,g⟩:=hc.dar Oy;rcases g with⟨g1,g2,_⟩|⟨b,cap,cur,e,fz,Fp,g1,_⟩
    ·exact V137
    ·exact V141
   ·rename_i sz rows kk hq;refine⟨_,h,aF fun N B M w0 ρ s a w hc N4 hR=>?_⟩;have hv:=(hc.eval x).1;rw[N4 x Oz,hx]at hv;obtain⟨_,e1⟩:=hv;have Oy:s.H q=some (.zar sz rows kk):=(by rw[hR q s_];exact hq);rcases hc.obj q _ Oy with⟨g1,g2⟩|⟨b,cap,cur,e,fz,Fp,g1,_⟩
    ·exact V137
    ·exact V141
   ·exact h.elim
  ·rename_i q k hx;refine⟨_,h,aF fun N B M w0 ρ s a w hc N4 hR=>?_⟩;have hv:=(hc.eval x).1;rw[N4 x Oz,hx]at hv;obtain⟨A,n,c,_,e1,_⟩:=hv;exact⟨_,rexec a w _ _ e1 (rs w _ _ _ _),.int _ _,by simp[AV.ids,AR.ids,AC.ids]⟩
  ·exact h.elim
 ·exact h.elim
theorem Iv {x y:Operand}{ts:Array TypeId}{k k':IntKind}{n m:Int}(ho:o.op= .call {callee:= .builtin .min,args:=#[x,y],argTypes:=ts})(hx:ev x=tI k n)(hy:ev y=tI k' m):
  Good P o ev H (.val (tI k (if m<n then m else n)) []):=by
 refine aF fun N B M w0 ρ s a w hc N4 hR=>?_;have h1:=(hc.eval x).1;have h2:=(hc.eval y).1;rw[N4 x aan,hx]at h1;rw[N4 y aan,hy]at h2;exact⟨_,by simp[execOp,ho,resolve,invoke,builtin,cS h1,cS h2,Builtin.min_,Builtin.min2],.int _ _,by simp[AV.ids,AR.ids,AC.ids]⟩
theorem I_ {x y:Operand}{ts:Array TypeId}{k k':IntKind}{n m:Int}(ho:o.op= .call {callee:= .builtin .max,args:=#[x,y],argTypes:=ts})(hx:ev x=tI k n)(hy:ev y=tI k' m):
  Good P o ev H (.val (tI k (if m>n then m else n)) []):=by
 refine aF fun N B M w0 ρ s a w hc N4 hR=>?_;have h1:=(hc.eval x).1;have h2:=(hc.eval y).1;rw[N4 x aan,hx]at h1;rw[N4 y aan,hy]at h2;exact⟨_,by simp[execOp,ho,resolve,invoke,builtin,cS h1,cS h2,Builtin.max_,Builtin.max2],.int _ _,by simp[AV.ids,AR.ids,AC.ids]⟩
end
section
variable {P:Program} {Γ:Env} {N B:Nat} {M:Nat->Prop} {w0:Start} {ρ:Rho} {s:F_} {a:Act} {w:World} {o:Oper} {ev:Operand->AV} {H:Id->Option AO} {K:Eff->Prop} {KV:AV->Prop}
theorem cY:∀(us:List (Id×Option AO)) (H:Id->Option AO) (o:Id),o∉us.map (·.1)->bP H us o=H o
 | [],_,_,_=>rfl
 | p::r,H,o,h=>by
  simp only[n9,d6,not_or]at h;rw[bP,cY r _ o h.2,c8 h.1]
theorem Cp:∀(rm:List Id) (H:Id->Option AO) (q:Id) (x:Option AO),bP H (rm.map (fun r=>(r,none))++[(q,x)])=fun o=>if o=q then x else if o∈rm then none else H o
 | [],H,q,x=>by simp[bP]
 | r::rm,H,q,x=>by
  rw[n9,p0,bP,Cp rm];funext o;by_cases h1:o=q
  ·simp[h1]
  ·by_cases h2:o∈rm
   ·simp[h1,h2]
   ·by_cases h3:o=r<;>simp[h1,h2,h3]
theorem V116{p:Prop}(h:p:=by
 have e':o'≠q:=fun e2=>Ow (e.trans e2.symm);simp only[d6,e',false_or]at h2;simp only[c8 e',d5 h2]at h4
 cases h4):p:=h
theorem Conc.make (h:Conc N B M w0 ρ s a w){d:Nat}(hd:d<N)(hU:¬s.U d){w':World}{D:Nat->Prop}(rm:List Id)(hT:Turn D w w'){v vv:Value}{x:AO}{av:AV}{R:List Id}(F:Nat->Prop)
  (hD:∀b,D b->∃o x',o∈rm/\s.H o=some x'/\Own ρ o b)
  (hv:∀b,blk v=some b->b<w'.heap.size/\(w.heap.size<=b\/∃o x',o∈rm/\s.H o=some x'/\Own ρ o b))
  (hF:∀b,F b->∃o x',o∈rm/\s.H o=some x'/\Own ρ o b)
  (S7:∀id∈x.ids,s.U id.1) (Zh:∀id∈av.ids,id.1=d\/s.U id.1)
  (OT:∀(ρ':Rho) (ok':Nat->Prop),(∀b,okB ρ s.H w b->w'.heap[b]?=w.heap[b]?/\ok' b)->(∀o x' b,o∈rm->s.H o=some x'->Own ρ o b->blk v≠some b->¬F b->ok' b)->
   (∀o,s.U o.1->ρ' o=ρ o)->ρ' (d,0,0)=v->(∀b,F b->ρ'.fp (d,0,0) b)->RO B ρ' w' ok' (d,0,0) x/\RV B ρ' w' ok' vv av):
  ∃ρ',Conc N B M w0 ρ' (s.app (some d) ⟨av,rm.map (fun r=>(r,none))++[((d,0,0),some x)],some d,R⟩) (a.put (some d) vv) w':=by
 let q:Id:=(d,0,0)
 let ρ':Rho:=⟨fun o=>if o.1=d then v else ρ o,fun o c=>if o=q then F c else ρ.fp o c,ρ.al⟩
 have hρ:∀o:Id,s.U o.1->ρ' o=ρ o:=fun o ho=>by
  show(if o.1=d then v else ρ o)=ρ o;exact c8 (fun e:o.1=d=>hU aaQ)
 have hq:ρ' q=v:=by show(if d=d then v else _)=v;simp
 have QI:∀c,ρ'.fp q c↔F c:=fun c=>by show(if q=q then _ else _)↔_;simp
 have QD:∀o c,o≠q->(ρ'.fp o c↔ρ.fp o c):=fun o c ho=>by show(if o=q then _ else _)↔_;simp[ho]
 have OG:∀o c,o≠q->s.U o.1->(Own ρ' o c↔Own ρ o c):=fun o c h1 h2=>by unfold Own;rw[hρ o h2,QD o c h1]
 have SS:=Cp rm s.H q (some x)
 have QA:∀o x' b,o∈rm->s.H o=some x'->Own ρ o b->blk v≠some b->¬F b->okB ρ' (bP s.H (rm.map (fun r=>(r,none))++[(q,some x)])) w' b:=by
  intro o x' b h1 h2 h3 h4 Tk;refine⟨⟨y8 (h.rng o x' b h2 h3).1 hT.size,h.alw b (h.rng o x' b h2 h3).2⟩,fun o1 x1 h5 h6=>?_⟩;rw[SS]at h5;by_cases e:o1=q
  ·subst e;rcases h6 with h6|h6
   ·rw[hq]at h6;exact h4 h6
   ·exact Tk ((QI b).1 h6)
  ·simp only[c8 e]at h5;by_cases e2:o1∈rm
   ·simp[e2]at h5
   ·simp only[c8 e2]at h5;rw[OG o1 b e (h.usedH o1 x1 h5).1]at h6;exact h.sep o o1 x' x1 b h2 h5 (fun e3=>e2 (e3▸h1)) h3 h6
 refine⟨ρ',?_⟩;have hnq:∀o x',s.H o=some x'->o≠q:=fun o x' h1 e=>hU (by have:=(h.usedH o x' h1).1;rw[e]at this;exact this)
 have:=h.step D (q::rm) (w':=w') (ρ':=ρ') (H':=bP s.H (rm.map (fun r=>(r,none))++[(q,some x)])) (U':=fun n=>s.U n\/n=d) (a':=a.put (some d) vv) (L':=nC s.L (some d) av) hT
  aaH aaE hρ
  (fun o x' h1 h2=>by funext c;exact propext (QD o c (hnq o x' h2))) rfl
  (fun o ho=>by
   rw[SS];simp only[d6,not_or]at ho
   simp only[c8 ho.1,c8 ho.2])
  (fun n hn=> .inl hn)
  (fun b hb Xg=>by obtain⟨o,x',_,h2,h3⟩:=hD b Xg;exact hb.2 o x' h2 h3)
  (fun o x1 b h1 h2 h3 Xg=>by
   obtain⟨o',x',g1,g2,g3⟩:=hD b Xg
   exact h.sep o o' x1 x' b h1 g2 (fun e=>h2 (by rw[e];simp[g1])) h3 g3)
  (fun b hb hM Xg=>by
   obtain⟨o',x',g1,g2,g3⟩:=hD b Xg;rcases(h.rng o' x' b g2 g3).2 with g|g
   ·omega
   ·exact hM g)
  (fun o x1 b h1 h2 h3=>by
   rw[SS]at h2;by_cases e:o=q
   ·subst e
    have h3:(b<w'.heap.size/\(w.heap.size<=b\/∃o x',o∈rm/\s.H o=some x'/\Own ρ o b)):=by
     rcases h3 with h3|h3
     ·rw[hq]at h3;exact hv b h3
     ·obtain⟨o',x',g1,g2,g3⟩:=hF b ((QI b).1 h3);exact⟨y8 (h.rng o' x' b g2 g3).1 hT.size,.inr ⟨o',x',g1,g2,g3⟩⟩
    obtain⟨g1,g2⟩:=h3;refine⟨g1,?_,?_⟩
    ·rcases g2 with g|⟨o',x',_,g3,g4⟩
     ·exact .inl (t7 h.base g)
     ·exact(h.rng o' x' b g3 g4).2
    ·rcases g2 with g|⟨o',x',g2,g3,g4⟩
     ·exact .inl g
     ·exact .inr ⟨o',x',g3,by simp[g2],g4⟩
   ·simp only[d6,e,false_or]at h1;simp only[c8 e,d5 h1]at h2
    cases h2)
  (fun o o' x1 x2 b h1 h2 h3 h4 Ow=>by
   rw[SS]at h3 h4;exfalso;by_cases e:o=q
   ·exact V116
   ·simp only[d6,e,false_or]at h1;simp only[c8 e,d5 h1]at h3
    cases h3)
  (fun hk o x1 h1 h2=>by
   rw[SS]at h2;by_cases e:o=q
   ·subst e;simp only[if_true,Option.some.injEq]at h2;subst h2;exact⟨(OT ρ' _ hk QA hρ hq (fun b hb=>(QI b).2 hb)).1,.inr rfl,fun id N8=> .inl (S7 id N8)⟩
   ·simp only[d6,e,false_or]at h1;simp only[c8 e,d5 h1]at h2
    cases h2)
  (fun hk t=>h.slots (dst:=some d) (fun d' e=>by injection e with e;omega) (U':=fun n=>s.U n\/n=d) (OT ρ' _ hk QA hρ hq (fun b hb=>(QI b).2 hb)).2 (fun id N8=>(Zh id N8).symm) t)
 exact this.congr (fun _=>rfl) (fun _=>rfl) (fun n=>by simp[F_.app,eq_comm])
theorem mE (w:World)(o:Obj):(w.alloc o).heap[w.heap.size]?=some o:=heap_alloc_new w o
theorem ew (n:Nat):ck n (0,0):=fun p _ h=>by simp at h
theorem Conc.newBox (h:Conc N B M w0 ρ s a w){d:Nat}(hd:d<N)(hU:¬s.U d){us:Array Value}{t:TypeId}{cells:List AC}(hr:RCs B ρ w (okB ρ s.H w) us.toList cells)(hi:∀id∈cells.flatMap AC.ids,s.U id.1)(R:List Id):
  ∃ρ',Conc N B M w0 ρ' (s.app (some d) ⟨.r (.c (.ptr (d,0,0) 0)),[((d,0,0),some (.box cells))],some d,R⟩) (a.put (some d) (.pointer (some ⟨w.heap.size,0,none⟩))) (w.alloc (.cells us t)):=by
 refine h.make hd hU (D:=fun _=>False) [] (Turn.alloc _ _ _) (v:= .pointer (some ⟨w.heap.size,0,none⟩)) (fun _=>False) (fun _ h=>h.elim) (fun b hb=>?_) (fun _ h=>h.elim) hi (fun id N8=>?_) (fun ρ' ok' hk _ hρ hq _=>⟨?_,?_⟩)
 ·injection hb with hb;subst hb;exact⟨s_,.inl (d7 _)⟩
 ·simp[AV.ids,AR.ids,AC.ids]at N8;left;rw[N8]
 ·refine⟨w.heap.size,us,t,(0,0),hq,mE w _,ew _,hr.keep hk fun o ho=>hρ o (hi o ho)⟩
 ·exact⟨w.heap.size,hq,rfl⟩
theorem kT (e:TypeId)(cs:Array Value):(newRow e cs).run P w= .ok ⟨w.heap.size,0,none⟩ (w.alloc (.cells cs e)):=rfl
theorem V145{p:Prop}(h:p:=by
 unfold Oper.wp;rw[N9];show K (a.put o.dst _) _;rw[OP]
 exact hK _ _ ρ' h'):p:=h
theorem EA {T:TypeId}{d:Nat}{ti:Of}(hΓ:Γ.chk P=true)(hT:Γ.get T=some ti)(OP:o.dst=some d)(ho:o.op= .alloc T):
  Good P o ev H ⟨.r (.c (.ptr (d,0,0) 0)),[((d,0,0),some (.box ti.zero))],some d,[]⟩:=by
 obtain⟨i,dd,fit⟩:=Env.fit hΓ hT;obtain⟨z,hz,hm⟩:=fit.zero;intro N B M w0 ρ s a w Q K hc N4 hR hn hd hK;rw[OP]at hd hK;obtain⟨ρ',h'⟩:=hc.newBox (hd d rfl) (hn d rfl) (us:=z.cells) (t:=T) (eI (B:=B) (ρ:=ρ) (w:=w) (ok:=okB ρ s.H w) hm) (by rw[tk hm];simp) []
 have N9:(execOp a.eval o).run P w= .ok (.value (.pointer (some ⟨w.heap.size,0,none⟩))) (w.alloc (.cells z.cells T)):=by simp[execOp,ho,Instr.alloc,fT fit.info hz,newVar,kT]
 exact V145
theorem Ic {T:TypeId}{d:Nat}{x:Operand}{ar:AR}(OP:o.dst=some d)(ho:o.op= .box T x)(hx:ev x= .r ar):
  Good P o ev H ⟨.r (.c (.ptr (d,0,0) 0)),[((d,0,0),some (.box ar.cells))],some d,[]⟩:=by
 intro N B M w0 ρ s a w Q K hc N4 hR hn hd hK;rw[OP]at hd hK;have hv:=hc.eval x;rw[N4 x aaa,hx]at hv
 obtain⟨ρ',h'⟩:=hc.newBox (hd d rfl) (hn d rfl) (us:=(a.eval x).cells) (t:=T) (RR.cells hv.1) (by
  have:=hv.2
  cases ar with
  | c y=>intro id N8;exact this id (by simpa [AR.cells,AV.ids,AR.ids]using N8)
  | agg cs=>exact this) []
 have N9:(execOp a.eval o).run P w= .ok (.value (.pointer (some ⟨w.heap.size,0,none⟩))) (w.alloc (.cells (a.eval x).cells T)):=by simp[execOp,ho,Instr.box,newVar,kT]
 exact V145
theorem Conc.newArr (h:Conc N B M w0 ρ s a w){d:Nat}(hd:d<N)(hU:¬s.U d)(rm:List Id){w':World}(hT:Turn (fun _=>False) w w'){b cap sz:Nat}{us:Array Value}{e:TypeId}{fz:Nat×Nat}{rows:List (List Tr)}{fr:Bool}
  (hb:w.heap.size<=b) (hh:w'.heap[b]?=some (.cells us e fz)) (hf:ck us.size fz) (hu:∀r∈rows,r.length=sz) (h1:rows.length<=cap) (h2:cap<=maxLen) (h3:us.size=cap*sz)
  (hr:∀ok':Nat->Prop,(∀c,okB ρ s.H w c->ok' c)->(∀o x c,o∈rm->s.H o=some x->Own ρ o c->ok' c)->RTs w (okF B ok' fr) (us.toList.take (rows.length*sz)) rows.flatten) (R:List Id):
  ∃ρ',Conc N B M w0 ρ' (s.app (some d) ⟨.r (.c (.own (d,0,0))),rm.map (fun r=>(r,none))++[((d,0,0),some (.arr fr sz rows))],some d,R⟩) (a.put (some d) (.slice (some ⟨b,0,none⟩) rows.length cap)) w':=by
 have N2:b<w'.heap.size:=(D9.1 hh).1;refine h.make hd hU (D:=fun _=>False) rm hT (v:= .slice (some ⟨b,0,none⟩) rows.length cap) (fun _=>False) (fun _ h=>h.elim) (fun b' OO=>?_) (fun _ h=>h.elim) (fun id N8=>by simp[AO.ids]at N8) (fun id N8=>?_) (fun ρ' ok' hk QA hρ hq _=>⟨?_,?_⟩)
 ·injection OO with OO;subst OO;exact⟨N2,.inl hb⟩
 ·simp[AV.ids,AR.ids,AC.ids]at N8;left;rw[N8]
 ·have SQ:∀c,okB ρ s.H w c\/(∃o x,o∈rm/\s.H o=some x/\Own ρ o c)->w'.heap[c]?=w.heap[c]?/\ok' c:=by
   rintro c (hc|⟨o,x,g1,g2,g3⟩)
   ·exact hk c hc
   ·have hr:=(h.rng o x c g2 g3).1;refine⟨hT.block c hr (fun h=>h),QA o x c g1 g2 g3 ?_ (fun h=>h)⟩;intro e;have e':b=c:=(by simpa [blk]using e);omega
  refine⟨hu,.inr ⟨b,cap,us,e,fz,hq,hh,hf,h1,h2,h3,?_,fun _=>t7 h.base hb⟩⟩;have:=hr (fun c=>okB ρ s.H w c\/(∃o x,o∈rm/\s.H o=some x/\Own ρ o c)) (fun c hc=> .inl hc) (fun o x c g1 g2 g3=> .inr ⟨o,x,g1,g2,g3⟩);exact this.keep (jj SQ)
 ·exact⟨⟨_,_,_,hq⟩,hq.symm⟩
theorem KL {ok':Nat->Prop}{fr:Bool}{sz:Nat}{rows:List (List Tr)}{o:Id}(hc:Conc N B M w0 ρ s a w)(ho:s.H o=some (.arr fr sz rows))(N7:∀c,okB ρ s.H w c->ok' c)(hb:∀c,Own ρ o c->ok' c):
  RT w (okF B ok' fr) (ρ o) (.lst sz rows):=by
 obtain⟨hu,g⟩:=hc.arr ho;rcases g with⟨g1,g2⟩|⟨b,cap,cur,e,fz,g1,g2,g3,g4,g5,g6,g7,g8,g9⟩
 ·subst g2;rw[g1];exact .emp _ _ _ (v4 _)
 ·rw[g1];have OO:=hb b (.inl aai);refine .lst _ _ _ _ _ (cur.toList.take (rows.length*sz)) rfl g4 g5 hu ⟨OO,g9⟩ (by rw[g7.length]) g8 fun p v u hv O1=>?_;exact(g7.get p v u hv O1).keep fun c N6=>⟨rfl,N7 c N6.1,N6.2⟩
theorem nh {ok':Nat->Prop}(hc:Conc N B M w0 ρ s a w)(N7:∀c,okB ρ s.H w c->ok' c):∀{vs:List Value} {cs:List AC} {ts:List Tr} {fr:Bool} {ids:List Id},frz H cs=some (ts,fr,ids)->(∀o∈ids,s.H o=H o)->RCs B ρ w (okB ρ s.H w) vs cs->
  (∀o x c,o∈ids->s.H o=some x->Own ρ o c->ok' c)->RTs w (okF B ok' fr) vs ts
 | [],[],ts,fr,ids,h,_,_,_=>by simp only[frz,Option.some.injEq,Prod.mk.injEq]at h;obtain⟨rfl,_⟩:=h;trivial
 | v::vs,c::cs,ts,fr,ids,h,hH,hr,hb=>by
  cases c with
  | t x=>
   simp only[frz]at h
   cases hf:frz H cs with
   | none=>rw[hf]at h;simp at h
   | some p=>
    obtain⟨Sj,fr',Po⟩:=p;rw[hf]at h;have hx:RT w (okB ρ s.H w) v x:=hr.1
    cases x with
    | lst sz rows=>
     simp only[Option.some.injEq,Prod.mk.injEq]at h;obtain⟨rfl,rfl,rfl⟩:=h;have ih:=nh (ok':=ok') hc N7 hf hH hr.2 hb
     exact⟨hx.keep fun c N6=>⟨rfl,N7 c N6,fun e=>by cases e⟩,ih.keep (gY fun e=>by cases e)⟩
    | int=>
     simp only[Option.some.injEq,Prod.mk.injEq]at h;obtain⟨rfl,rfl,rfl⟩:=h
     exact⟨by cases hx;exact .int _ _,nh hc N7 hf hH hr.2 hb⟩
    | bool=>
     simp only[Option.some.injEq,Prod.mk.injEq]at h;obtain⟨rfl,rfl,rfl⟩:=h
     exact⟨by cases hx;exact .bool _,nh hc N7 hf hH hr.2 hb⟩
    | str=>
     simp only[Option.some.injEq,Prod.mk.injEq]at h;obtain⟨rfl,rfl,rfl⟩:=h
     exact⟨by cases hx;exact .str _,nh hc N7 hf hH hr.2 hb⟩
  | f x=>
   simp only[frz]at h
   cases hf:frz H cs with
   | none=>rw[hf]at h;simp at h
   | some p=>
    obtain⟨Sj,fr',Po⟩:=p;rw[hf]at h;simp only[Option.some.injEq,Prod.mk.injEq]at h;obtain⟨rfl,rfl,rfl⟩:=h;have hx:RT w (okF B (okB ρ s.H w) true) v x:=hr.1
    exact⟨hx.keep fun c N6=>⟨rfl,N7 c N6.1,fun _=>N6.2 rfl⟩,nh hc N7 hf hH hr.2 hb⟩
  | nils sz=>
   simp only[frz]at h
   cases hf:frz H cs with
   | none=>rw[hf]at h;simp at h
   | some p=>
    obtain⟨Sj,fr',Po⟩:=p;rw[hf]at h;simp only[Option.some.injEq,Prod.mk.injEq]at h;obtain⟨rfl,rfl,rfl⟩:=h;have hx:v= .slice none 0 0:=hr.1;subst hx
    exact⟨.emp _ _ _ (v4 _),nh hc N7 hf hH hr.2 hb⟩
  | own o=>
   simp only[frz]at h;split at h
   ·rename_i fr1 sz rows Sj fr' Po ho hf;simp only[Option.some.injEq,Prod.mk.injEq]at h;obtain⟨rfl,rfl,rfl⟩:=h;have OR:s.H o=some (.arr fr1 sz rows):=(by rw[hH o s_];exact ho);obtain⟨_,hx⟩:=hr.1;have h1:=KL (ok':=ok') hc OR N7 (fun c WD=>hb o _ c s_ OR WD);rw[hx];exact⟨h1.keep (gY fun e=>by simp at e;exact e.1),(nh hc N7 hf (fun o ho=>hH o aae) hr.2 (fun o x c h1 h2 h3=>hb o x c (by simp[h1]) h2 h3)).keep (gY fun e=>by simp at e;exact e.2)⟩
   ·cases h
  | nilp=>simp[frz]at h
  | sub=>simp[frz]at h
  | ptr=>simp[frz]at h
  | opq=>simp[frz]at h
  | mpv=>simp[frz]at h
 | [],_::_,_,_,_,_,_,h,_=>h.elim
 | _::_,[],_,_,_,_,_,h,_=>h.elim
theorem uh (sz:Nat):∀(parts:List (Nat×Value)) (n0:Nat) (pre:List Value) (rest:List Value),pre.length=n0*sz->(∀(j:Nat) (p:Nat×Value),parts[j]?=some p->p.1=n0+j/\p.2.cells.size=sz)->rest.length=parts.length*sz->
  Instr.fill (fun i=>some (i*sz,sz)) (pre++rest).toArray parts=some (pre++parts.flatMap (fun p=>p.2.cells.toList)).toArray
 | [],n0,pre,rest,_,_,hr=>by
  have:rest=[]:=x9 aaL;subst this
  simp[Instr.fill]
 |(i,v)::parts,n0,pre,rest,hp,T0,hr=>by
  obtain⟨h1,h2⟩:=T0 0 (i,v) s_;simp only[w9]at h1 h2;subst h1;have Pl:rest.length=sz+parts.length*sz:=by rw[hr,c7,o8];omega
  have Sx:v.cells.zipIdx.foldl (fun cs (x:Value×Nat)=>cs.setIfInBounds (i*sz+x.2) x.1) (pre++rest).toArray=(pre++v.cells.toList++rest.drop sz).toArray:=by
   have key:∀(vs:List Value) (k:Nat) (pre rest:List Value),vs.length<=rest.length->
     (vs.zipIdx k).foldl (fun(cs:Array Value) (x:Value×Nat)=>cs.setIfInBounds (pre.length-k+x.2) x.1) (pre++rest).toArray=(pre++vs++rest.drop vs.length).toArray\/pre.length<k:=by
    intro vs
    induction vs with
    | nil=>intro k pre rest _;left;simp
    | cons u vs ih=>
     intro k pre rest hl;rcases l9 pre.length k with hk|hk
     ·exact .inr hk
     left
     cases rest with
     | nil=>simp at hl
     | cons r rest=>
      simp only[List.zipIdx_cons,B5]
      have e1:(pre++r::rest).toArray.setIfInBounds (pre.length-k+k) u=((pre++[u])++rest).toArray:=by rw[Nat.sub_add_cancel hk];simp
      rw[e1];have:=ih (k+1) (pre++[u]) rest aaK;rcases this with this|this
      ·have e2:(pre++[u]).length-(k+1)=pre.length-k:=s_;rw[e2]at this;rw[this];simp
      ·simp at this;omega
   have:=key v.cells.toList 0 pre rest aab;rcases this with this|this
   ·rw[<-Array.foldl_toList,Array.toList_zipIdx];simp only[v3,hp]at this;rw[this];simp[h2]
   ·omega
  simp only[Instr.fill];rw[c8 (by simp[h2];omega),Sx]
  have:=uh sz parts (i+1) (pre++v.cells.toList) (rest.drop sz) (by simp[hp,h2,o8]) (fun j p hj=>by
   obtain⟨g1,g2⟩:=T0 (j+1) p aax
   exact⟨o_,g2⟩) (by rw[t8];omega)
  rw[this];simp
theorem sG:∀(parts:List (Nat×Operand)) (n:Nat) (K:Bool->List (List Tr)->List Id->Prop),pt H n (parts.map fun p=>(p.1,ev p.2)) K->
  ∃fr rows ids,K fr rows ids/\rows.length=parts.length/\(∀(j:Nat) (p:Nat×Operand),parts[j]?=some p->p.1=n+j)/\
   ∀(N B:Nat) (M:Nat->Prop) (w0:Start) (ρ:Rho) (s:F_) (a:Act) (w:World) (ok':Nat->Prop),Conc N B M w0 ρ s a w->(∀c,okB ρ s.H w c->ok' c)->(∀o∈ids,s.H o=H o)->(∀o x c,o∈ids->s.H o=some x->Own ρ o c->ok' c)->
    (∀p∈parts,RV B ρ w (okB ρ s.H w) (a.eval p.2) (ev p.2))->∀(j:Nat) (p:Nat×Operand) (row:List Tr),parts[j]?=some p->rows[j]?=some row->RTs w (okF B ok' fr) (a.eval p.2).cells.toList row
 | [],n,K,h=>⟨true,[],[],h,rfl,s_,s_⟩
 |(i,x)::parts,n,K,h=>by
  simp only[n9,pt]at h
  cases hx:ev x with
  | r ar=>
   rw[hx]at h;simp only[pt]at h;split at h
   ·rename_i ts fr0 ids0 hn Qv;have hin:i=n:=(by simpa using hn);obtain⟨fr,rows,ids,h1,h2,h3,h4⟩:=sG parts (n+1) _ h;refine⟨_,ts::rows,_,h1,by simp[h2],fun j p hj=>?_,fun N B M w0 ρ s a w ok' hc N7 hH hb hf j p row hj hr=>?_⟩
    ·cases j with|zero=>simp at hj;subst hj;simpa using hin|succ j=>have:=h3 j p aax;omega
    ·cases j with
     | zero=>
      simp at hj hr;subst hj;subst hr;have:=hf (i,x) s_;simp only at this;rw[hx]at this
      exact(nh hc N7 Qv (fun o ho=>hH o aae) (RR.cells this) (fun o x c g1 g2 g3=>hb o x c (by simp[g1]) g2 g3)).keep (gY fun e=>by simp at e;exact e.1)
     | succ j=>exact(h4 N B M w0 ρ s a w ok' hc N7 (fun o ho=>hH o aae) (fun o x c g1 g2 g3=>hb o x c (by simp[g1]) g2 g3) (fun p hp=>hf p (by simp[hp])) j p row aax aaL).keep (gY fun e=>by simp at e;exact e.2)
   ·exact h.elim
  | tup=>rw[hx]at h;exact h.elim
  | el=>rw[hx]at h;exact h.elim
  | ro=>rw[hx]at h;exact h.elim
  | unk=>rw[hx]at h;exact h.elim
 termination_by parts=>parts.length
theorem EO {ok:Nat->Prop}:∀(vss:List (List Value)) (rows:List (List Tr)),vss.length=rows.length->(∀(j:Nat) (vs:List Value) (row:List Tr),vss[j]?=some vs->rows[j]?=some row->RTs w ok vs row)->RTs w ok vss.flatten rows.flatten
 | [],[],_,_=>trivial
 | vs::vss,row::rows,hl,h=>RTs.append (h 0 vs row s_ s_) (EO vss rows aaK fun j vs row h1 h2=>h (j+1) vs row aal aaf)
 | [],_::_,hl,_=>by simp at hl
 | _::_,[],hl,_=>by simp at hl
theorem oc {T e:TypeId}{n:Nat}{i ie:TypeInfo}{z:Value}(hu:P.underlying T=some (.slice e))(hi:P.info? e=some ie)(hz:ie.zero=some z)(PG:n*ie.size<=16777216)(vals:Array (Nat×Value))(cs:Array Value)
  (hf:Instr.fill (fun i=>some (i*ie.size,ie.size)) ((Array.range (n*ie.size)).map (fun i=>(if n*ie.size=0 then #[]else z.cells)[i%(if n*ie.size=0 then #[]else z.cells).size]!)) vals.toList=some cs):
  (Instr.buildSlice T n vals).run P w= .ok (.slice (some ⟨w.heap.size,0,none⟩) n n) (w.alloc (.cells cs e)):=by
 have N2:¬n*ie.size>2^24:=o_;unfold Instr.buildSlice;by_cases h0:n*ie.size=0
 ·rw[d5 h0]at hf;simp only[m8,run_underlying hu,i7,cI hi,c8 N2,d5 h0,p7];rw[hf];simp[kT]
 ·rw[c8 h0]at hf;simp only[m8,run_underlying hu,i7,cI hi,c8 N2,c8 h0,p7,fT hi hz];rw[hf];simp[kT]
theorem V136{p:Prop}(h:p:=by
 have:=(hc.eval p.2).1
 rwa [N4 p.2 (by simp only[ho,Op.operands];exact p6.2 ⟨p,hp,rfl⟩)]at this):p:=h
theorem V134{p:Prop}(h:p:=by
 rcases l9 j parts.toList.length with h'|h'
 ·exact h'
 ·rw[e9 h']at hj;cases hj):p:=h
theorem V24{p:Prop}(h:p:=by
 have:=uh te.size ((parts.map fun p=>(p.1,a.eval p.2)).toList) 0 [] init.toList s_ (fun j p hj=>by
  simp only[H9,l6,m9]at hj;obtain⟨q,g1,rfl⟩:=hj;obtain⟨g2,g3⟩:=Ox j q g1
  exact⟨by simp[g2],g3⟩) (by simp only[G8,Uf,H9,d9];rw[<-hn];simp)
 simp only[p8,Array.toArray_toList]at this;rw[this]
 simp[vss,List.flatMap_def];rfl):p:=h
theorem V59{p:Prop}(h:p:=by
 have:=oc (w:=w) (n:=n) (i:=ii) fit.und fite.info hz (by rw[fite.size];exact PG) (parts.map fun p=>(p.1,a.eval p.2)) vss.flatten.toArray (by rw[fite.size];exact Ug)
 simp only[execOp,ho,m8,this,i7,p7]):p:=h
theorem uq {T e:TypeId}{d n:Nat}{parts:Array (Nat×Operand)}{ti te:Of}(hΓ:Γ.chk P=true)(hT:Γ.get T=some ti)(he:ti.elem=some e)(hE:Γ.get e=some te)(OP:o.dst=some d)(ho:o.op= .buildSlice T n parts)
  (hn:parts.toList.length=n)
  (h:pt H 0 (parts.toList.map fun p=>(p.1,ev p.2)) fun fr rows ids=>(∀r∈rows,r.length=te.size)/\n*te.size<=16777216/\K ⟨.r (.c (.own (d,0,0))),ids.map (fun r=>(r,none))++[((d,0,0),some (.arr fr te.size rows))],some d,ids⟩):
  ∃ef,K ef/\Good P o ev H ef:=by
 obtain⟨ii,dd,fit⟩:=Env.fit hΓ hT;obtain⟨ie,de,fite⟩:=Env.fit hΓ hE;have hd:=ox fit he;subst hd;obtain⟨z,hz,hm⟩:=fite.zero;obtain⟨fr,rows,ids,⟨hu,PG,hK⟩,Pl,Uw,Ql⟩:=sG parts.toList 0 _ h;refine⟨_,hK,?_⟩;intro N B M w0 ρ s a w Q K hc N4 hR OQ hd hK;rw[OP]at hd hK
 have Pt:∀p∈parts.toList,RV B ρ w (okB ρ s.H w) (a.eval p.2) (ev p.2):=fun p hp=>by
  exact V136
 let vss:List (List Value):=parts.toList.map fun p=>(a.eval p.2).cells.toList
 have TR:vss.length=rows.length:=by simp[vss,Pl]
 have Pi:∀ok':Nat->Prop,(∀c,okB ρ s.H w c->ok' c)->(∀o x c,o∈ids->s.H o=some x->Own ρ o c->ok' c)->RTs w (okF B ok' fr) vss.flatten rows.flatten:=by intro ok' N7 hb;have Zm:=Ql N B M w0 ρ s a w ok' hc N7 hR hb Pt;refine EO vss rows TR fun j vs row h1 h2=>?_;simp only[vss,l6,m9]at h1;obtain⟨p,g1,rfl⟩:=h1;exact Zm j p row g1 h2
 have Zm:=Ql N B M w0 ρ s a w (fun _=>True) hc (fun _ _=>trivial) hR (fun _ _ _ _ _ _=>trivial) Pt
 have Ox:∀(j:Nat) (p:Nat×Operand),parts.toList[j]?=some p->p.1=j/\(a.eval p.2).cells.size=te.size:=by
  intro j p hj
  have Pg:j<parts.toList.length:=by exact V134
  have UF:rows[j]?=some (rows[j]'o_):=f9 o_;have:=(Zm j p _ hj UF).length;rw[hu _ (b9 UF)]at this;exact⟨by simpa using Uw j p hj,by simpa using this⟩
 let init:Array Value:=(Array.range (n*te.size)).map (fun i=>(if n*te.size=0 then #[]else z.cells)[i%(if n*te.size=0 then #[]else z.cells).size]!)
 have Uf:init.size=n*te.size:=by simp[init]
 have Ug:Instr.fill (fun i=>some (i*te.size,te.size)) init ((parts.map fun p=>(p.1,a.eval p.2)).toList)=some vss.flatten.toArray:=by exact V24
 have N9:(execOp a.eval o).run P w= .ok (.value (.slice (some ⟨w.heap.size,0,none⟩) n n)) (w.alloc (.cells vss.flatten.toArray e)):=by exact V59
 have N1:rows.length=n:=by rw[Pl,hn]
 have S3:n<=maxLen:=by have:=fite.pos;have h1:n*1<=n*te.size:=A2 _ o_;unfold maxLen;omega
 have OA:vss.flatten.length=n*te.size:=by rw[(Pi (fun _=>True) (fun _ _=>trivial) (fun _ _ _ _ _ _=>trivial)).length,aY te.size rows hu,N1]
 obtain⟨ρ',h'⟩:=hc.newArr (hd d rfl) (OQ d rfl) ids (w':=w.alloc (.cells vss.flatten.toArray e)) (Turn.alloc _ _ _) (b:=w.heap.size) (cap:=n) (sz:=te.size) (us:=vss.flatten.toArray) (e:=e) (fz:=(0,0)) (rows:=rows) (fr:=fr)
  (d7 _) (mE _ _) (ew _) hu o_ S3 (by simp only[A7,OA]) (fun ok' N7 hb=>by rw[N1,gt (by simp only[OA];omega)];exact Pi ok' N7 hb) ids
 rw[N1]at h';unfold Oper.wp;rw[N9];show K (a.put o.dst _) _;rw[OP];exact hK _ _ ρ' h'
theorem eX (b:Nat)(e:TypeId)(fz:Nat×Nat):∀(vs:List Value) (o:Nat) (w:World) (cur:Array Value),w.heap[b]?=some (.cells cur e fz)->o+vs.length<=cur.size->
  ∃OM,(w.setCells b o vs).heap[b]?=some (.cells OM e fz)/\OM.size=cur.size/\OM.toList=cur.toList.take o++vs++cur.toList.drop (o+vs.length)
 | [],o,w,cur,h,_=>⟨cur,h,rfl,s_⟩
 | v::vs,o,w,cur,h,hl=>by
  simp only[c7]at hl
  have h1:(w.setCell ⟨b,o,none⟩ v).heap[b]?=some (.cells (cur.setIfInBounds o v) e fz):=by simp[World.setCell,Array.getElem?_modify,h]
  obtain⟨OM,g1,g2,g3⟩:=eX b e fz vs (o+1) _ _ h1 aab;refine⟨OM,g1,by simpa using g2,?_⟩;rw[g3];have N2:o<cur.toList.length:=by simp;omega
  simp only[Array.toList_setIfInBounds,c7]
  have e1:(cur.toList.set o v).take (o+1)=cur.toList.take o++[v]:=by rw[B9 aab];simp[G9]
  have e2:(cur.toList.set o v).drop (o+1+vs.length)=cur.toList.drop (o+(vs.length+1)):=by rw[List.drop_set_of_lt o_];congr 1;omega
  rw[e1,e2];simp
theorem eW (b:Nat):∀(vs:List Value) (o:Nat) (w:World),Turn (fun k=>k=b) w (w.setCells b o vs)
 | [],_,w=>Turn.refl _ w
 | v::vs,o,w=>(Turn.setCell w ⟨b,o,none⟩ v).trans (eW b vs (o+1) _)
theorem qo {t u ty e:TypeId}{i:TypeInfo}{du:TypeDesc}(ht:P.underlying t=some (.slice e))(hu:P.underlying u=some du)(hk:jO du=none)(hi:P.info? e=some i)
  (x:Value) (b sLen sCap n:Nat) (news:List Value) (hl:∀w,(Builtin.lenOf x).run P w= .ok n w) (hf:(Builtin.firstCells i.size n x).run P w= .ok news.toArray w) (OW:sLen+n<=sCap)
  {cur:Array Value} {e':TypeId} {fz:Nat×Nat} (hb:w.heap[b]?=some (.cells cur e' fz)) (hz:ck cur.size fz) (O0:sLen*i.size+news.length<=cur.size) (h1:∀v∈news,v.oneCell'=true):
  (Builtin.append_ #[t,u] ty #[.slice (some ⟨b,0,none⟩) sLen sCap,x]).run P w= .ok (.slice (some ⟨b,0,none⟩) (sLen+n) sCap) (w.setCells b (sLen*i.size) news):=by
 have O4:=run_storeCells_cells (P:=P) b (sLen*i.size) news 0 w (fun j hj=>by
   rw[cell_of_row w b _ cur e' fz hb];simp only[w9]
   rw[w6 o_];rfl) (fun j hj=>by
   simp only[World.frozen?,hb,w9];have:=hz (sLen*i.size+j) o_;simp only[z8,n7,Nat.not_le,Nat.not_lt]
   omega) h1
 simp only[w9]at O4;unfold Builtin.append_;simp only[D3,i8,m5,m8,run_underlying ht,run_underlying hu,i7,cI hi,p7]
 cases du
 case int=>simp[jO]at hk
 all_goals simp only[w8,if_false,hl,d5 OW,H4,if_true,hf,dm,O4,m8,i7,p7]
theorem oe {t u ty e:TypeId}{i:TypeInfo}{z:Value}{du:TypeDesc}(ht:P.underlying t=some (.slice e))(hu:P.underlying u=some du)(hk:jO du=none)(hi:P.info? e=some i)(hz:i.zero=some z)
  (x:Value) (A:Option Addr) (sLen sCap n:Nat) (olds news:List Value) (hl:∀w,(Builtin.lenOf x).run P w= .ok n w) (hf:(Builtin.firstCells i.size n x).run P w.drew= .ok news.toArray w.drew)
  (QD:(Builtin.firstCells i.size sLen (.slice A sLen sCap)).run P w.drew= .ok olds.toArray w.drew)
  (hg:sCap<sLen+n) (h63:sLen+n<=9223372036854775807) (O0:(sLen+n)*i.bytes<=140737488355328):
  (Builtin.append_ #[t,u] ty #[.slice A sLen sCap,x]).run P w=
   .ok (.slice (some ⟨w.heap.size,0,none⟩) (sLen+n) (grownCap w (sLen+n) sCap e))
    (w.drew.alloc (.cells (olds.toArray++news.toArray++Builtin.zeroCells z.cells (grownCap w (sLen+n) sCap e-(sLen+n))) e)):=by
 have hn:¬(sLen+n<=sCap):=o_
 have YN:¬(((sLen+n:Nat):Int)>IntKind.i64.max):=by have:IntKind.i64.max=9223372036854775807:=d_;omega
 have Yt:¬(Builtin.nextslicecap (sLen+n) sCap*i.bytes>2^48):=by have:=growslice_fits hg O0;omega
 unfold Builtin.append_;simp only[D3,i8,m5,m8,run_underlying ht,run_underlying hu,i7,cI hi,p7]
 cases du
 case int=>simp[jO]at hk
 all_goals simp only[w8,if_false,hl,c8 hn,H4,if_true,BB hi,c8 Yt,YN,false_and,m8,i7,p7]
 all_goals
  simp[Question.forced,hf,QD,fT hi hz,kT,grownCap];congr 2;apply Array.ext';simp[j9]
theorem GS {ok:Nat->Prop}{v:Value}{sz:Nat}{rows:List (List Tr)}(h:RT w ok v (.lst sz rows)):∃news,(∀(P:Program) (w':World),(Builtin.lenOf v).run P w'= .ok rows.length w')/\
  (∀(P:Program) (w':World),(∀b,ok b->w'.heap[b]?=w.heap[b]?)->(Builtin.firstCells sz rows.length v).run P w'= .ok news.toArray w')/\RTs w ok news rows.flatten/\∀r∈rows,r.length=sz:=by
 obtain⟨A,c,rfl,h1,h2,hu,Ow⟩:=h.slice_inv;by_cases h0:rows=[]
 ·subst h0;refine⟨[],fun P w'=>by simp[Builtin.lenOf],fun P w' _=>?_,trivial,hu⟩
  cases A with|none=>simp[Builtin.firstCells]|some ad=>simp[Builtin.firstCells,loadCells,loadCellsFrom]
 ·obtain⟨ad,us,rfl,N7,hl,Ox,hr⟩:=Ow h0;refine⟨us,fun P w'=>by simp[Builtin.lenOf],fun P w' hk=>?_,hr,hu⟩;exact run_firstCells_some w' sz rows.length ad rows.length c us (by rw[hl,aY sz rows hu]) fun j v hv=>(B8 (w:=w) (by rw[iR];exact hk _ N7)).trans (Ox j v hv)
theorem V139{p:Prop}(h:p:=by
 exact⟨[],fun P w'=>by simp[Builtin.lenOf],fun P w' _=>by simp[Builtin.firstCells],trivial,s_⟩):p:=h
theorem xB {esz:Nat}{x:Operand}{K2:Bool->List (List Tr)->List Id->Prop}(h:gG esz (ev x) H K2):∃fr rows R,K2 fr rows R/\
  ∀(N B:Nat) (M:Nat->Prop) (w0:Start) (ρ:Rho) (s:F_) (a:Act) (w:World),Conc N B M w0 ρ s a w->evL s.L x=ev x->(∀id∈R,s.H id=H id)->
   ∃news,(∀(P:Program) (w':World),(Builtin.lenOf (a.eval x)).run P w'= .ok rows.length w')/\(∀(P:Program) (w':World),w'.heap=w.heap->(Builtin.firstCells esz rows.length (a.eval x)).run P w'= .ok news.toArray w')/\
    RTs w (okF B (okB ρ s.H w) fr) news rows.flatten/\∀r∈rows,r.length=esz:=by
 unfold gG at h;split at h
 ·rename_i b hx;obtain⟨rfl,h⟩:=h;refine⟨_,_,_,h,fun N B M w0 ρ s a w hc N4 _=>?_⟩;have hv:=(hc.eval x).1;rw[N4,hx]at hv;have e1:=gj hv;rw[e1];have PG:(⟨b.toArray⟩:ByteArray).size=b.length:=by simp[ByteArray.size]
  refine⟨b.map fun u=> .int .u8 u.toNat,fun P w'=>by simp[Builtin.lenOf,PG],fun P w' _=>?_,?_,by simp[aZ]⟩
  ·simp only[Builtin.firstCells,d9,p7];congr 1;have:(⟨b.toArray⟩:ByteArray).extract 0 b.length=⟨b.toArray⟩:=(by rw[<-PG];simp);rw[this];simp
  ·clear h e1 hv hx PG
   induction b with
   | nil=>trivial
   | cons u b ih=>exact⟨.int _ _,ih⟩
 ·rename_i sz hx;refine⟨_,_,_,h,fun N B M w0 ρ s a w hc N4 _=>?_⟩;have hv:=(hc.eval x).1;rw[N4,hx]at hv;have e1:a.eval x= .slice none 0 0:=hv;rw[e1];exact V139
 ·rename_i sz rows hx;obtain⟨rfl,h⟩:=h;refine⟨_,_,_,h,fun N B M w0 ρ s a w hc N4 _=>?_⟩;have hv:=(hc.eval x).1;rw[N4,hx]at hv;obtain⟨news,g1,g2,g3,g4⟩:=GS hv;exact⟨news,g1,fun P w' e=>g2 P w' fun b _=>by rw[e],g3.keep fun b hb=>⟨rfl,hb,fun e=>by cases e⟩,g4⟩
 ·rename_i sz rows hx;obtain⟨rfl,h⟩:=h;refine⟨_,_,_,h,fun N B M w0 ρ s a w hc N4 _=>?_⟩;have hv:=(hc.eval x).1;rw[N4,hx]at hv;have hv:RT w (okF B (okB ρ s.H w) true) (a.eval x) (.lst sz rows):=hv;obtain⟨news,g1,g2,g3,g4⟩:=GS hv;exact⟨news,g1,fun P w' e=>g2 P w' fun b _=>by rw[e],g3,g4⟩
 ·rename_i q hx;split at h
  ·rename_i fr sz rows hq;obtain⟨rfl,h⟩:=h;refine⟨_,_,_,h,fun N B M w0 ρ s a w hc N4 hR=>?_⟩;have hv:=(hc.eval x).1;rw[N4,hx]at hv;obtain⟨_,e1⟩:=hv;rw[e1];have Oy:s.H q=some (.arr fr sz rows):=(by rw[hR q s_];exact hq);obtain⟨hu,g⟩:=hc.arr Oy;rcases g with⟨g1,g2⟩|⟨b,cap,cur,e,fz,g1,g2,g3,g4,g5,g6,g7,g8,g9⟩
   ·subst g2;rw[g1];exact V139
   ·rw[g1];refine⟨_,fun P w'=>by simp[Builtin.lenOf],fun P w' he=>?_,g7,hu⟩
    exact run_firstCells_some w' sz rows.length ⟨b,0,none⟩ rows.length cap _ (by rw[g7.length,aY sz rows hu]) fun j v hv=>by
     rw[B8 (w:=w) (by rw[he])];exact g8 j v hv
  ·exact h.elim
 ·rename_i q k hx;split at h
  ·rename_i fr sz rows hq;obtain⟨rfl,OZ,h⟩:=h;refine⟨_,_,_,h,fun N B M w0 ρ s a w hc N4 hR=>?_⟩;have hv:=(hc.eval x).1;rw[N4,hx]at hv;obtain⟨A,n,c,e0,e1,e2⟩:=hv;rw[e1];have Oy:s.H q=some (.arr fr sz rows):=(by rw[hR q s_];exact hq);obtain⟨hu,g⟩:=hc.arr Oy;have WU:∀r∈rows.take k,r.length=sz:=fun r hr=>hu r (u6 hr);have R8:(rows.take k).length=k:=(by rw[j5];omega);rcases g with⟨g1,g2⟩|⟨b,cap,cur,e,fz,g1,g2,g3,g4,g5,g6,g7,g8,g9⟩
   ·subst g2;have:k=0:=(by simpa using OZ);subst this;rw[g1]at e0;injection e0 with e01;subst e01;exact V139
   ·rw[g1]at e0;injection e0 with e01 e02 e03;subst e01;subst e02;subst e03;have OA:(rows.take k).flatten=rows.flatten.take (k*sz):=(iv sz rows k hu OZ).symm;have Qv:=g7.take (k*sz);rw[<-OA]at Qv;refine⟨_,fun P w'=>by simp[Builtin.lenOf,R8],fun P w' he=>?_,Qv,WU⟩;rw[R8];refine run_firstCells_some w' sz k ⟨b,0,none⟩ k cap _ ?_ fun j v hv=>?_
    ·rw[Qv.length,aY sz _ WU,R8]
    ·rw[l4]at hv;split at hv
     ·rw[B8 (w:=w) (by rw[he])];exact g8 j v hv
     ·cases hv
  ·exact h.elim
 ·exact h.elim
theorem V125{p:Prop}(h:p:=by
 rw[dm,World.cell?_drew,cell_of_row w b j cur e' fz hb];rw[l4]at hv;split at hv
 ·simpa using hv
 ·cases hv):p:=h
theorem Conc.append (h:Conc N B M w0 ρ s a w){T U e:TypeId}{d:Nat}{te:Of}{i ie:TypeInfo}{de du:TypeDesc}(hu:P.underlying T=some (.slice e))(fite:te.Fit P e ie de)(TO:P.underlying U=some du)(hk:jO du=none)
  (hd:d<N) (hU:¬s.U d) (rm:List Id) (rows news:List (List Tr)) (fr fr':Bool) (ty:TypeId) (sv x:Value) (Qg:∀r∈news,r.length=te.size) (XG:∀r∈rows,r.length=te.size)
  (hs:(sv= .slice none 0 0/\rows=[])\/∃b cap cur e' fz,sv= .slice (some ⟨b,0,none⟩) rows.length cap/\w.heap[b]?=some (.cells cur e' fz)/\ck cur.size fz/\rows.length<=cap/\cap<=maxLen/\cur.size=cap*te.size/\
   RTs w (okF B (okB ρ s.H w) fr) (cur.toList.take (rows.length*te.size)) rows.flatten/\(fr=true->B<=b)/\∃o x',o∈rm/\s.H o=some x'/\Own ρ o b)
  (nv:List Value) (hl:∀w',(Builtin.lenOf x).run P w'= .ok news.length w') (hf:∀w',w'.heap=w.heap->(Builtin.firstCells te.size news.length x).run P w'= .ok nv.toArray w') (hn:RTs w (okF B (okB ρ s.H w) fr') nv news.flatten)
  (O0:fits (rows.length+news.length) te.bytes) (R:List Id):
  ∃v w' ρ',(Builtin.append_ #[T,U] ty #[sv,x]).run P w= .ok v w'/\Conc N B M w0 ρ' (s.app (some d) ⟨.r (.c (.own (d,0,0))),rm.map (fun r=>(r,none))++[((d,0,0),some (.arr (fr&&fr') te.size (rows++news)))],some d,R⟩) (a.put (some d) v) w':=by
 obtain⟨z,hz,hm⟩:=fite.zero
 have R2:z.cells.size=te.size:=by have h1:=(eI (B:=B) (ρ:=⟨fun _=>default,fun _ _=>False,fun _=>True⟩) (w:=w) (ok:=fun _=>True) hm).length;rw[fite.zlen]at h1;simpa using h1
 have XH:∀r∈rows++news,r.length=te.size:=fun r hr=>(f0.1 hr).elim (XG r) (Qg r);have Pn:nv.length=news.length*te.size:=by rw[hn.length,aY te.size news Qg]
 have Pl:rows.flatten.length=rows.length*te.size:=aY te.size rows XG;have Ut:rows.length+news.length<=maxLen:=by have:=O0.2;unfold maxLen;omega
 have OA:(rows++news).flatten=rows.flatten++news.flatten:=s_;have wk1:∀{vs:List Value} {ts:List Tr},RTs w (okF B (okB ρ s.H w) fr) vs ts->RTs w (okF B (okB ρ s.H w) (fr&&fr')) vs ts:=fun h=>h.keep (gY fun e=>by simp at e;exact e.1);have wk2:∀{vs:List Value} {ts:List Tr},RTs w (okF B (okB ρ s.H w) fr') vs ts->RTs w (okF B (okB ρ s.H w) (fr&&fr')) vs ts:=fun h=>h.keep (gY fun e=>by simp at e;exact e.2)
 have grow:∀(A:Option Addr) (sCap:Nat) (olds:List Value),sCap<rows.length+news.length->olds.length=rows.length*te.size->RTs w (okF B (okB ρ s.H w) fr) olds rows.flatten->
   (Builtin.firstCells te.size rows.length (.slice A rows.length sCap)).run P w.drew= .ok olds.toArray w.drew->sv= .slice A rows.length sCap->
   ∃v w' ρ',(Builtin.append_ #[T,U] ty #[sv,x]).run P w= .ok v w'/\Conc N B M w0 ρ' (s.app (some d) ⟨.r (.c (.own (d,0,0))),rm.map (fun r=>(r,none))++[((d,0,0),some (.arr (fr&&fr') te.size (rows++news)))],some d,R⟩) (a.put (some d) v) w':=by
  intro A sCap olds N2 QG hor QD Yk;subst Yk;have N9:=oe (w:=w) (ty:=ty) hu TO hk fite.info hz x A rows.length sCap news.length olds nv hl (by rw[fite.size];exact hf _ rfl) (by rw[fite.size];exact QD) N2 O0.2 (by rw[fite.bytes];exact O0.1);have OK:=grownCap_ge w (rows.length+news.length) sCap e;have OH:=grownCap_le_maxLen w (rows.length+news.length) sCap e Ut;generalize grownCap w (rows.length+news.length) sCap e=gc at N9 OK OH;have O2:RTs w (okF B (okB ρ s.H w) (fr&&fr')) (olds++nv) (rows.flatten++news.flatten):=(wk1 hor).append (wk2 hn)
  obtain⟨ρ',h'⟩:=h.newArr hd hU rm (w':=w.drew.alloc (.cells (olds.toArray++nv.toArray++Builtin.zeroCells z.cells (gc-(rows.length+news.length))) e)) ((Turn.drew _ w).trans (Turn.alloc _ _ _)) (b:=w.heap.size) (cap:=gc) (sz:=te.size)
   (us:=olds.toArray++nv.toArray++Builtin.zeroCells z.cells (gc-(rows.length+news.length))) (e:=e) (fz:=(0,0)) (rows:=rows++news) (fr:=fr&&fr') (d7 _) (heap_alloc_new w.drew _) (ew _) XH aab OH
   (by simp only[Array.size_append,A7,size_zeroCells,R2,QG,Pn];rw[<-o8,<-o8];congr 1;omega)
   (fun ok' N7 _=>by
    rw[OA,b8,o8,<-QG,<-Pn,<-b8];simp only[A9,j9];rw[<-j9,F2]
    exact O2.keep fun c N6=>⟨rfl,N7 c N6.1,N6.2⟩) R
  exact⟨_,_,ρ',N9,by simpa using h'⟩
 rcases hs with⟨rfl,rfl⟩|⟨b,cap,cur,e',fz,rfl,hb,VU,OH,Uh,Qh,Xq,hfB,Tm⟩
 ·by_cases h0:news=[]
  ·subst h0;refine⟨.slice none 0 0,w,?_⟩;have Wd:nv=[]:=x9 (by simpa using Pn);subst Wd
   have N9:(Builtin.append_ #[T,U] ty #[.slice none 0 0,x]).run P w= .ok (.slice none 0 0) w:=by
    unfold Builtin.append_;simp only[D3,i8,m5,m8,run_underlying hu,run_underlying TO,i7,cI fite.info,p7];have QC:=hf w rfl
    cases du
    case int=>simp[jO]at hk
    all_goals simp[hl,fite.size]at QC⊢;simp[QC]
   obtain⟨ρ',h'⟩:=h.make hd hU (D:=fun _=>False) rm (Turn.refl _ w) (v:= .slice none 0 0) (vv:= .slice none 0 0) (x:= .arr (fr&&fr') te.size []) (av:= .r (.c (.own (d,0,0)))) (R:=R) (fun _=>False) (fun _ h=>h.elim) (fun b hb=>by cases hb) (fun _ h=>h.elim) (fun id N8=>by simp[AO.ids]at N8)
    (fun id N8=>by simp[AV.ids,AR.ids,AC.ids]at N8;left;rw[N8]) (fun ρ' ok' hk _ hρ hq _=>⟨⟨s_,.inl ⟨hq,rfl⟩⟩,⟨_,_,_,hq⟩,hq.symm⟩)
   exact⟨ρ',N9,by simpa using h'⟩
  ·exact grow none 0 [] (by simp;exact List.length_pos_iff.2 h0) s_ trivial (by simp[Builtin.firstCells]) rfl
 ·by_cases OW:rows.length+news.length<=cap
  ·have N9:=qo (w:=w) (ty:=ty) hu TO hk fite.info x b rows.length cap news.length nv hl (by rw[fite.size];exact hf w rfl) OW hb VU (by rw[fite.size,Pn,Qh,<-o8];exact l8 _ OW) hn.one;obtain⟨OM,g1,g2,g3⟩:=eX b e' fz nv (rows.length*ie.size) w cur hb (by rw[fite.size,Pn,Qh,<-o8];exact l8 _ OW);rw[fite.size]at g1 g3 N9
   obtain⟨ρ',h'⟩:=h.make hd hU (D:=fun k=>k=b) rm (eW b nv (rows.length*te.size) w) (v:= .slice (some ⟨b,0,none⟩) (rows.length+news.length) cap) (vv:= .slice (some ⟨b,0,none⟩) (rows.length+news.length) cap) (x:= .arr (fr&&fr') te.size (rows++news)) (av:= .r (.c (.own (d,0,0)))) (R:=R) (fun _=>False)
    (fun b' OO=>by subst OO;exact Tm) (fun b' OO=>by
     injection OO with OO;subst OO
     exact⟨(D9.1 g1).1,.inr Tm⟩) (fun _ h=>h.elim) (fun id N8=>by simp[AO.ids]at N8)
    (fun id N8=>by simp[AV.ids,AR.ids,AC.ids]at N8;left;rw[N8]) (fun ρ' ok' hk _ hρ hq _=>by
     refine⟨⟨XH,.inr ⟨b,cap,OM,e',fz,by rw[hq];simp,g1,by rw[g2];exact VU,by simp;omega,Uh,by rw[g2,Qh],?_,fun e=>hfB (by simp at e;exact e.1)⟩⟩,⟨_,_,_,hq⟩,hq.symm⟩;have N1:(cur.toList.take (rows.length*te.size)).length=rows.length*te.size:=(by rw[Xq.length,Pl]);rw[g3,OA,b8,o8,j9,<-j9,<-Pn];have e0:rows.length*te.size+nv.length=(cur.toList.take (rows.length*te.size)++nv).length:=(by rw[b8,N1]);rw[e0,F2]
     exact((wk1 Xq).append (wk2 hn)).keep (jj hk))
   exact⟨_,_,ρ',N9,h'⟩
  ·refine grow (some ⟨b,0,none⟩) cap (cur.toList.take (rows.length*te.size)) o_ (by rw[Xq.length,Pl]) Xq ?_ rfl;refine run_firstCells_some w.drew te.size rows.length ⟨b,0,none⟩ rows.length cap _ (by rw[Xq.length,Pl]) fun j v hv=>?_;exact V125
end
section
variable {P:Program} {Γ:Env} {N B:Nat} {M:Nat->Prop} {w0:Start} {ρ:Rho} {s:F_} {a:Act} {w:World} {o:Oper} {ev:Operand->AV} {H:Id->Option AO} {K:Eff->Prop} {KV:AV->Prop}
theorem memI_iff {t:Id}{l:List Id}:mc t l=true↔t∈l:=by
 simp only[mc,B0];constructor
 ·rintro⟨x,h1,h2⟩;rw[idEq_iff]at h2;exact h2▸h1
 ·intro h;exact⟨t,h,idEq_iff.2 rfl⟩
theorem nodupI_iff:∀{l:List Id},iI l=true↔l.Nodup
 | []=>by simp[iI]
 | o::l=>by
  simp only[iI,c9,u9,E6,nodupI_iff (l:=l)];constructor
  ·rintro⟨h1,h2⟩;exact⟨fun h=>(by rw[memI_iff.2 h]at h1;cases h1),h2⟩
  ·rintro⟨h1,h2⟩;refine⟨?_,h2⟩
   cases hb:mc o l with|false=>rfl|true=>exact absurd (memI_iff.1 hb) h1
def Cells (ρ:Rho)(s:F_)(w:World)(ids:List Id)(bad:Nat->Prop)(us:List Value)(ds:List DC):Prop:=
 ∃Fp:Nat->Nat->Prop,us.length=ds.length/\(∀(p:Nat) (v:Value) (d:DC),us[p]?=some v->ds[p]?=some d->RD w (okB ρ s.H w) (Fp p) v d)/\
  (∀p c,Fp p c->(∃o x,o∈ids/\s.H o=some x/\Own ρ o c)/\¬bad c)/\∀p q c,p≠q->Fp p c->¬Fp q c
theorem Cells.mono {ids Po:List Id}{bad WY:Nat->Prop}{us:List Value}{ds:List DC}(h:Cells ρ s w ids bad us ds)(hi:∀o∈ids,o∈Po)(hb:∀c,WY c->bad c):Cells ρ s w Po WY us ds:=by
 obtain⟨Fp,h1,h2,h3,h4⟩:=h
 exact⟨Fp,h1,h2,fun p c hc=>by
  obtain⟨⟨o,x,g1,g2,g3⟩,g4⟩:=h3 p c hc
  exact⟨⟨o,x,hi o g1,g2,g3⟩,fun hx=>g4 (hb c hx)⟩,h4⟩
theorem Cells.append (hc:Conc N B M w0 ρ s a w){ids Po:List Id}{bad:Nat->Prop}{us Uo:List Value}{ds ds':List DC}(h:Cells ρ s w ids bad us ds)(h':Cells ρ s w Po bad Uo ds')(Ow:∀o∈ids,o∉Po):
  Cells ρ s w (ids++Po) bad (us++Uo) (ds++ds'):=by
 obtain⟨Fp,h1,h2,h3,h4⟩:=h;obtain⟨Fp',Wr,YU,Tj,Tk⟩:=h';refine⟨fun p c=>(p<us.length/\Fp p c)\/(us.length<=p/\Fp' (p-us.length) c),by simp[h1,Wr],fun p v d hv hd=>?_,fun p c P1=>?_,fun p q c TG hp hq=>?_⟩
 ·rcases l9 p us.length with N2|OK
  ·rw[p9 N2]at hv;rw[p9 o_]at hd;have:=h2 p v d hv hd;exact this.keep (fun b hb=>⟨rfl,hb⟩) fun b hb=>⟨rfl,.inl ⟨N2,hb⟩⟩
  ·rw[u3 OK]at hv;rw[u3 o_,<-h1]at hd;have:=YU _ v d hv hd;exact this.keep (fun b hb=>⟨rfl,hb⟩) fun b hb=>⟨rfl,.inr ⟨OK,hb⟩⟩
 ·rcases P1 with⟨_,P1⟩|⟨_,P1⟩
  ·obtain⟨⟨o,x,g1,g2,g3⟩,g4⟩:=h3 p c P1;exact⟨⟨o,x,by simp[g1],g2,g3⟩,g4⟩
  ·obtain⟨⟨o,x,g1,g2,g3⟩,g4⟩:=Tj _ c P1;exact⟨⟨o,x,by simp[g1],g2,g3⟩,g4⟩
 ·rcases hp with⟨p1,hp⟩|⟨p1,hp⟩
  ·rcases hq with⟨q1,hq⟩|⟨q1,hq⟩
   ·exact h4 p q c TG hp hq
   ·obtain⟨⟨o,x,g1,g2,g3⟩,_⟩:=h3 p c hp;obtain⟨⟨o',x',SV,Tg,Tx⟩,_⟩:=Tj _ c hq;exact hc.sep o o' x x' c g2 Tg (fun e=>Ow o g1 (e▸SV)) g3 Tx
  ·rcases hq with⟨q1,hq⟩|⟨q1,hq⟩
   ·obtain⟨⟨o,x,g1,g2,g3⟩,_⟩:=h3 q c hq;obtain⟨⟨o',x',SV,Tg,Tx⟩,_⟩:=Tj _ c hp;exact hc.sep o o' x x' c g2 Tg (fun e=>Ow o g1 (e▸SV)) g3 Tx
   ·exact Tk _ _ c o_ hp hq
theorem Cells.nil {bad:Nat->Prop}:Cells ρ s w [] bad [] []:=⟨fun _ _=>False,rfl,s_,fun _ _ h=>h.elim,fun _ _ _ _ h=>h.elim⟩
theorem FX (hc:Conc N B M w0 ρ s a w){q:Id}{fr:Bool}{sz:Nat}{rows:List (List Tr)}(hq:s.H q=some (.arr fr sz rows))(OA:flat rows):DT w (Own ρ q) (ρ q) (.lst sz rows):=by
 obtain⟨hu,g⟩:=hc.arr hq;rcases g with⟨g1,g2⟩|⟨b,cap,cur,e,fz,g1,g2,g3,g4,g5,g6,g7,g8,g9⟩
 ·subst g2;rw[g1];exact .nil _ _
 ·have hb:Own ρ q b:= .inl aai;rw[g1];refine .arr _ b _ cap sz cur e fz rows (fun _ _=>False) hb g2 g3 rfl g4 g5 g6 hu g7.length (fun _ _ h=>h.elim) (fun _ _ _ _ h=>h.elim) fun p v u hv O1=>?_;have h4:=g7.get p v u hv O1;obtain⟨row,k1,k2⟩:=E2.1 (b9 O1);have h5:=OA row k1 u k2
  cases h4 with|int=>exact .int _ _ _|bool=>exact .bool _ _|str=>exact .str _ _|emp=>exact absurd rfl (h5 _ _)|lst=>exact absurd rfl (h5 _ _)
theorem Lj (hc:Conc N B M w0 ρ s a w){q:Id}{sz:Nat}{rows:List (List Tr)}(hq:s.H q=some (.dar sz (aq rows) none)):DT w (Own ρ q) (ρ q) (.lst sz rows):=by
 obtain⟨hu,g⟩:=hc.dar hq;have N1:(aq rows).length=rows.length:=by simp[aq]
 have O1:∀r∈rows,r.length=sz:=fun r hr=>by
  have:=hu (r.map .d) (p6.2 ⟨r,hr,rfl⟩);simpa using this
 rcases g with⟨g1,g2,_⟩|⟨b,cap,cur,e,fz,Fp,g1,g2,g3,g4,g5,g6,g7,g8,g9,g10⟩
 ·have:rows=[]:=by simpa [aq]using g2
  subst this;rw[g1];exact .nil _ _
 ·have hb:Own ρ q b:= .inl aai;rw[N1]at g1 g4 g9;rw[mW]at g9;rw[g1];refine .arr _ b _ cap sz cur e fz rows Fp hb g2 g3 rfl g4 g5 g6 O1 (by rw[g9.1,d9]) (fun p c h=>⟨.inr (g7 p c h).1,(g7 p c h).2⟩) g8 fun p v u hv QT=>?_;have:=g9.2 p v (.d u) hv (by rw[l6,QT];rfl);simp only[cb]at this;exact this
theorem uc:∀(cs:List AC) (K:List DC->List Id->Prop),lf H cs K->∃ds ids,K ds ids/\∀{N B:Nat} {M:Nat->Prop} {w0:Start} {ρ:Rho} {s:F_} {a:Act} {w:World},Conc N B M w0 ρ s a w->(∀o∈ids,s.H o=H o)->ids.Nodup->
  ∀vs:List Value,RCs B ρ w (okB ρ s.H w) vs cs->Cells ρ s w ids (fun _=>False) vs ds
 | [],K,h=>⟨[],[],h,fun _ _ _ vs hv=>by
   cases vs with
   | nil=>exact Cells.nil
   | cons=>exact hv.elim⟩
 | c::r,K,h=>by
  have one:∀(d:DC) (ids0:List Id) (rest:lf H r fun cs ids=>K (d::cs) (ids0++ids)),
    (∀{N B:Nat} {M:Nat->Prop} {w0:Start} {ρ:Rho} {s:F_} {a:Act} {w:World},Conc N B M w0 ρ s a w->(∀o∈ids0,s.H o=H o)->∀v,RC B ρ w (okB ρ s.H w) v c->Cells ρ s w ids0 (fun _=>False) [v] [d])->
    ∃ds ids,K ds ids/\∀{N B:Nat} {M:Nat->Prop} {w0:Start} {ρ:Rho} {s:F_} {a:Act} {w:World},Conc N B M w0 ρ s a w->(∀o∈ids,s.H o=H o)->ids.Nodup->
     ∀vs:List Value,RCs B ρ w (okB ρ s.H w) vs (c::r)->Cells ρ s w ids (fun _=>False) vs ds:=by
   intro d ids0 rest h1;obtain⟨ds,ids,hK,SW⟩:=uc r _ rest;refine⟨d::ds,ids0++ids,hK,fun hc hH Q0 vs hv=>?_⟩
   cases vs with
   | nil=>exact hv.elim
   | cons v vs=>have g1:=h1 hc (fun o ho=>hH o aae) v hv.1;have g2:=SW hc (fun o ho=>hH o aae) (D7.1 Q0).2.1 vs hv.2;exact g1.append hc g2 fun o ho OR=>(D7.1 Q0).2.2 o ho o OR rfl
  have flatC:∀(x:Tr),(∀sz rows,x≠.lst sz rows)->∀{w:World} {ok F:Nat->Prop} {v:Value},RT w ok v x->DT w F v x:=by
   intro x hx w ok F v hv
   cases hv with|int=>exact .int _ _ _|bool=>exact .bool _ _|str=>exact .str _ _|emp=>exact absurd rfl (hx _ _)|lst=>exact absurd rfl (hx _ _)
  have plain:∀(d:DC),(∀{B:Nat} {ρ:Rho} {s:F_} {w:World} (v:Value),RC B ρ w (okB ρ s.H w) v c->RD w (okB ρ s.H w) (fun _=>False) v d)->
    ∀{N B:Nat} {M:Nat->Prop} {w0:Start} {ρ:Rho} {s:F_} {a:Act} {w:World},Conc N B M w0 ρ s a w->(∀o∈([]:List Id),s.H o=H o)->∀v,RC B ρ w (okB ρ s.H w) v c->Cells ρ s w [] (fun _=>False) [v] [d]:=by
   intro d hd N B M w0 ρ s a w hc _ v hv;refine⟨fun _ _=>False,rfl,fun p v' d' h1 h2=>?_,fun _ _ h=>h.elim,fun _ _ _ _ h=>h.elim⟩
   cases p with|zero=>simp at h1 h2;subst h1;subst h2;exact hd v hv|succ p=>simp at h1
  have owned:∀(q:Id) (t:Tr),c= .own q->(∀{N B:Nat} {M:Nat->Prop} {w0:Start} {ρ:Rho} {s:F_} {a:Act} {w:World},Conc N B M w0 ρ s a w->s.H q=H q->DT w (Own ρ q) (ρ q) t/\∃x,s.H q=some x)->
    ∀{N B:Nat} {M:Nat->Prop} {w0:Start} {ρ:Rho} {s:F_} {a:Act} {w:World},Conc N B M w0 ρ s a w->(∀o∈[q],s.H o=H o)->∀v,RC B ρ w (okB ρ s.H w) v c->Cells ρ s w [q] (fun _=>False) [v] [.d t]:=by
   intro q t hcq Se N B M w0 ρ s a w hc hH v hv;subst hcq;obtain⟨g1,x,g2⟩:=Se hc (hH q s_);obtain⟨_,rfl⟩:=hv;refine⟨fun p c=>p=0/\Own ρ q c,rfl,fun p v' d' h1 h2=>?_,fun p c h=>⟨⟨q,x,s_,g2,h.2⟩,fun h=>h⟩,fun p p' c Ow h1 h2=>Ow (h1.1.trans h2.1.symm)⟩
   cases p with
   | zero=>simp at h1 h2;subst h1;subst h2;exact g1.mono fun c hc=>⟨rfl,hc⟩
   | succ p=>simp at h1
  cases c with
  | t x=>
   simp only[lf]at h
   cases x with|lst sz rows=>exact one _ [] h (plain (.t (.lst sz rows)) fun v hv=>hv)|int k n=>exact one _ [] h (plain (.d (.int k n)) fun v hv=>flatC _ s_ hv)|bool b=>exact one _ [] h (plain (.d (.bool b)) fun v hv=>flatC _ s_ hv)|str b=>exact one _ [] h (plain (.d (.str b)) fun v hv=>flatC _ s_ hv)
  | f x=>
   simp only[lf]at h
   cases x with|lst sz rows=>exact one _ [] h (plain (.t (.lst sz rows)) fun v hv=>RT.keep (show RT _ _ v _ from hv) oY)|int k n=>exact one _ [] h (plain (.d (.int k n)) fun v hv=>flatC _ s_ hv)|bool b=>exact one _ [] h (plain (.d (.bool b)) fun v hv=>flatC _ s_ hv)|str b=>exact one _ [] h (plain (.d (.str b)) fun v hv=>flatC _ s_ hv)
  | nils sz=>
   simp only[lf]at h
   exact one _ [] h (plain (.d (.lst sz [])) fun v hv=>by
    have:v= .slice none 0 0:=hv
    subst this;exact .nil _ _)
  | own q=>
   simp only[lf]at h;split at h
   ·rename_i fr sz rows hq;exact one _ [q] h.2 (owned q _ rfl fun hc hH=>⟨FX hc (hH.trans hq) h.1,_,hH.trans hq⟩)
   ·rename_i sz rows hq;obtain⟨rows',rfl,h⟩:=h;exact one _ [q] h (owned q _ rfl fun hc hH=>⟨Lj hc (hH.trans hq),_,hH.trans hq⟩)
   ·exact h.elim
  | nilp=>simp[lf]at h
  | sub=>simp[lf]at h
  | ptr=>simp[lf]at h
  | opq=>simp[lf]at h
  | mpv=>simp[lf]at h
theorem Conc.newDar (h:Conc N B M w0 ρ s a w){d:Nat}(hd:d<N)(hU:¬s.U d)(rm:List Id){w':World}{D:Nat->Prop}(hT:Turn D w w'){b cap sz:Nat}{us:Array Value}{e:TypeId}{fz:Nat×Nat}{rows:List (List DC)}
  (hD:∀k,D k->k=b/\∃o x',o∈rm/\s.H o=some x'/\Own ρ o k) (hb:w.heap.size<=b\/∃o x',o∈rm/\s.H o=some x'/\Own ρ o b)
  (hh:w'.heap[b]?=some (.cells us e fz)) (hf:ck us.size fz) (hu:∀r∈rows,r.length=sz) (h1:rows.length<=cap) (h2:cap<=maxLen) (h3:us.size=cap*sz)
  (OE:Cells ρ s w rm (fun c=>c=b) (us.toList.take (rows.length*sz)) rows.flatten) (R:List Id):
  ∃ρ',Conc N B M w0 ρ' (s.app (some d) ⟨.r (.c (.own (d,0,0))),rm.map (fun r=>(r,none))++[((d,0,0),some (.dar sz rows none))],some d,R⟩) (a.put (some d) (.slice (some ⟨b,0,none⟩) rows.length cap)) w':=by
 have N2:b<w'.heap.size:=(D9.1 hh).1;obtain⟨Fp,c1,c2,c3,c4⟩:=OE;refine h.make hd hU (D:=D) rm hT (v:= .slice (some ⟨b,0,none⟩) rows.length cap) (fun c=>∃p,Fp p c) (fun k hk=>(hD k hk).2) (fun b' OO=>?_) (fun c hc=>by obtain⟨p,hp⟩:=hc;exact(c3 p c hp).1) (fun id N8=>by simp[AO.ids]at N8) (fun id N8=>?_) (fun ρ' ok' hk QA hρ hq hF=>⟨?_,?_⟩)
 ·injection OO with OO;subst OO;exact⟨N2,hb⟩
 ·simp[AV.ids,AR.ids,AC.ids]at N8;left;rw[N8]
 ·refine⟨hu,.inr ⟨b,cap,us,e,fz,Fp,hq,hh,hf,h1,h2,h3,fun p c hc=>⟨hF c ⟨p,hc⟩,(c3 p c hc).2⟩,c4,c1,fun p v dd hv To=>?_⟩⟩;simp only[cb];refine(c2 p v dd hv To).keep hk fun c hc=>⟨?_,hc⟩;obtain⟨⟨o,x,g1,g2,g3⟩,g4⟩:=c3 p c hc;exact hT.block c (h.rng o x c g2 g3).1 fun hDc=>g4 (hD c hDc).1
 ·exact⟨⟨_,_,_,hq⟩,hq.symm⟩
end
section
variable {P:Program} {Γ:Env} {N B:Nat} {M:Nat->Prop} {w0:Start} {ρ:Rho} {s:F_} {a:Act} {w:World} {o:Oper} {ev:Operand->AV} {H:Id->Option AO} {K:Eff->Prop} {KV:AV->Prop}
theorem FG {T U ty e:TypeId}{i:TypeInfo}{z:Value}{du:TypeDesc}(hu:P.underlying T=some (.slice e))(TO:P.underlying U=some du)(hk:jO du=none)(hi:P.info? e=some i)(hz:i.zero=some z)(R2:z.cells.size=i.size)
  (sv x:Value) (n m:Nat) (olds nv:List Value)
  (hs:(sv= .slice none 0 0/\n=0/\olds=[])\/∃b cap cur e' fz,sv= .slice (some ⟨b,0,none⟩) n cap/\w.heap[b]?=some (.cells cur e' fz)/\ck cur.size fz/\n<=cap/\cap<=maxLen/\cur.size=cap*i.size/\olds=cur.toList.take (n*i.size))
  (hl:∀w',(Builtin.lenOf x).run P w'= .ok m w') (hf:∀w',w'.heap=w.heap->(Builtin.firstCells i.size m x).run P w'= .ok nv.toArray w') (Pn:nv.length=m*i.size) (SH:∀v∈nv,v.oneCell'=true)
  (hmx:n+m<=9223372036854775807) (hby:(n+m)*i.bytes<=140737488355328):
  ∃v w',(Builtin.append_ #[T,U] ty #[sv,x]).run P w= .ok v w'/\
   ((
    v= .slice none 0 0/\w'=w/\n=0/\m=0/\sv= .slice none 0 0)\/∃b' PI OM e'' Tl D,v= .slice (some ⟨b',0,none⟩) (n+m) PI/\Turn D w w'/\w'.heap[b']?=some (.cells OM e'' Tl)/\ck OM.size Tl/\n+m<=PI/\PI<=maxLen/\OM.size=PI*i.size/\
    OM.toList.take ((n+m)*i.size)=olds++nv/\((w.heap.size<=b'/\∀k,¬D k)\/(blk sv=some b'/\∀k,D k->k=b'))):=by
 have Ut:n+m<=maxLen:=by unfold maxLen;omega
 have grow:∀(A:Option Addr) (sCap:Nat),sCap<n+m->olds.length=n*i.size->(Builtin.firstCells i.size n (.slice A n sCap)).run P w.drew= .ok olds.toArray w.drew->sv= .slice A n sCap->
   ∃v w',(Builtin.append_ #[T,U] ty #[sv,x]).run P w= .ok v w'/\
   ((
    v= .slice none 0 0/\w'=w/\n=0/\m=0/\sv= .slice none 0 0)\/∃b' PI OM e'' Tl D,v= .slice (some ⟨b',0,none⟩) (n+m) PI/\Turn D w w'/\w'.heap[b']?=some (.cells OM e'' Tl)/\ck OM.size Tl/\n+m<=PI/\PI<=maxLen/\OM.size=PI*i.size/\
    OM.toList.take ((n+m)*i.size)=olds++nv/\((w.heap.size<=b'/\∀k,¬D k)\/(blk sv=some b'/\∀k,D k->k=b'))):=by
  intro A sCap N2 QG QD Yk;have N9:=oe (w:=w) (ty:=ty) hu TO hk hi hz x A n sCap m olds nv hl (hf _ rfl) QD N2 hmx hby;have OK:=grownCap_ge w (n+m) sCap e;have OH:=grownCap_le_maxLen w (n+m) sCap e Ut;generalize grownCap w (n+m) sCap e=gc at N9 OK OH;rw[Yk];refine⟨_,_,N9,.inr ⟨w.heap.size,gc,olds.toArray++nv.toArray++Builtin.zeroCells z.cells (gc-(n+m)),e,(0,0),fun _=>False,s_,(Turn.drew _ w).trans (Turn.alloc _ _ _),heap_alloc_new w.drew _,ew _,OK,OH,?_,?_,.inl ⟨d7 _,fun _ h=>h⟩⟩⟩
  ·simp only[Array.size_append,A7,size_zeroCells,R2,QG,Pn];rw[<-o8,<-o8];congr 1;omega
  ·rw[o8,<-QG,<-Pn,<-b8];simp only[A9,j9];rw[<-j9,F2]
 rcases hs with⟨rfl,rfl,rfl⟩|⟨b,cap,cur,e',fz,rfl,hb,VU,OH,Uh,Qh,rfl⟩
 ·by_cases h0:m=0
  ·subst h0;have Wd:nv=[]:=x9 (by simpa using Pn);subst Wd;refine⟨.slice none 0 0,w,?_,.inl ⟨rfl,rfl,rfl,rfl,rfl⟩⟩;unfold Builtin.append_;simp only[D3,i8,m5,m8,run_underlying hu,run_underlying TO,i7,cI hi,p7];have QC:=hf w rfl
   cases du
   case int=>simp[jO]at hk
   all_goals simp[hl]at QC⊢;simp[QC]
  ·exact grow none 0 o_ s_ (by simp[Builtin.firstCells]) rfl
 ·have QG:(cur.toList.take (n*i.size)).length=n*i.size:=by rw[j5,G8,Qh];exact x6 (l8 _ OH)
  by_cases OW:n+m<=cap
  ·have N9:=qo (w:=w) (ty:=ty) hu TO hk hi x b n cap m nv hl (hf w rfl) OW hb VU (by rw[Pn,Qh,<-o8];exact l8 _ OW) SH;obtain⟨OM,g1,g2,g3⟩:=eX b e' fz nv (n*i.size) w cur hb (by rw[Pn,Qh,<-o8];exact l8 _ OW);refine⟨_,_,N9,.inr ⟨b,cap,OM,e',fz,fun k=>k=b,rfl,eW b nv (n*i.size) w,g1,by rw[g2];exact VU,OW,Uh,by rw[g2,Qh],?_,.inr ⟨rfl,fun _ h=>h⟩⟩⟩;rw[g3,o8,j9,<-j9,<-Pn];have e0:n*i.size+nv.length=(cur.toList.take (n*i.size)++nv).length:=(by rw[b8,QG]);rw[e0,F2]
  ·refine grow (some ⟨b,0,none⟩) cap o_ QG ?_ rfl;refine run_firstCells_some w.drew i.size n ⟨b,0,none⟩ n cap _ QG fun j v hv=>?_;exact V125
theorem RTs.cellsT {ok:Nat->Prop}{us:List Value}{ts:List Tr}{bad:Nat->Prop}(h:RTs w ok us ts)(N7:∀b,ok b->okB ρ s.H w b):Cells ρ s w [] bad us (ts.map .t):=by refine⟨fun _ _=>False,by rw[d9];exact h.length,fun p v d hv hd=>?_,fun _ _ h=>h.elim,fun _ _ _ _ h=>h.elim⟩;rw[l6,m9]at hd;obtain⟨u,hu,rfl⟩:=hd;exact(h.get p v u hv hu).keep fun b hb=>⟨rfl,N7 b hb⟩
theorem tF {esz:Nat}{x:Operand}{K2:List (List DC)->List Id->List Id->Prop}(h:Jw esz (ev x) H K2):∃news rm R,K2 news rm R/\
  ∀(N B:Nat) (M:Nat->Prop) (w0:Start) (ρ:Rho) (s:F_) (a:Act) (w:World),Conc N B M w0 ρ s a w->evL s.L x=ev x->(∀id∈rm++R,s.H id=H id)->
   ∃nv,(∀(P:Program) (w':World),(Builtin.lenOf (a.eval x)).run P w'= .ok news.length w')/\(∀(P:Program) (w':World),w'.heap=w.heap->(Builtin.firstCells esz news.length (a.eval x)).run P w'= .ok nv.toArray w')/\
    (∀r∈news,r.length=esz)/\(∀v∈nv,v.oneCell'=true)/\∀bad:Nat->Prop,(∀o x c,o∈rm->s.H o=some x->Own ρ o c->¬bad c)->Cells ρ s w rm bad nv news.flatten:=by
 have plain:∀(y:AV),ev x=y->(gG esz y H fun _ rows R=>K2 (rows.map (·.map .t)) [] R)->∃news rm R,K2 news rm R/\
  ∀(N B:Nat) (M:Nat->Prop) (w0:Start) (ρ:Rho) (s:F_) (a:Act) (w:World),Conc N B M w0 ρ s a w->evL s.L x=ev x->(∀id∈rm++R,s.H id=H id)->
   ∃nv,(∀(P:Program) (w':World),(Builtin.lenOf (a.eval x)).run P w'= .ok news.length w')/\(∀(P:Program) (w':World),w'.heap=w.heap->(Builtin.firstCells esz news.length (a.eval x)).run P w'= .ok nv.toArray w')/\
    (∀r∈news,r.length=esz)/\(∀v∈nv,v.oneCell'=true)/\∀bad:Nat->Prop,(∀o x c,o∈rm->s.H o=some x->Own ρ o c->¬bad c)->Cells ρ s w rm bad nv news.flatten:=by
  intro y hy h;rw[<-hy]at h;obtain⟨fr,rows,R,hK,PF⟩:=xB h;refine⟨_,[],R,hK,fun N B M w0 ρ s a w hc Yl hR=>?_⟩;obtain⟨nv,g1,g2,g3,g4⟩:=PF N B M w0 ρ s a w hc Yl (fun id N8=>hR id (by simpa using N8));refine⟨nv,by simpa using g1,by simpa using g2,fun r hr=>?_,g3.one,fun bad _=>?_⟩
  ·obtain⟨r',h1,rfl⟩:=p6.1 hr;simpa using g4 r' h1
  ·rw[<-H8];exact g3.cellsT fun b hb=>hb.1
 unfold Jw at h;split at h
 ·rename_i q hx;split at h
  ·rename_i sz rows hq;obtain⟨rfl,hK⟩:=h;refine⟨rows,[q],[],hK,fun N B M w0 ρ s a w hc Yl hR=>?_⟩;have Oy:s.H q=some (.dar sz rows none):=(by rw[hR q s_];exact hq);have hv:=(hc.eval x).1;rw[Yl,hx]at hv;obtain⟨_,e1⟩:=hv;obtain⟨hu,g⟩:=hc.dar Oy;rcases g with⟨g1,g2,_⟩|⟨b,cap,cur,e,fz,Fp,g1,g2,g3,g4,g5,g6,g7,g8,g9,g10⟩
   ·subst g2;rw[e1,g1];exact⟨[],fun P w'=>by simp[Builtin.lenOf],fun P w' _=>by simp[Builtin.firstCells],s_,s_,fun bad _=>Cells.nil.mono s_ (fun _ h=>h)⟩
   ·rw[e1,g1];have OA:=aY sz rows hu;refine⟨cur.toList.take (rows.length*sz),fun P w'=>by simp[Builtin.lenOf],fun P w' e=>?_,hu,fun v hv=>?_,fun bad RW=>?_⟩
    ·refine run_firstCells_some w' sz rows.length ⟨b,0,none⟩ rows.length cap _ (by rw[g9.1,OA]) fun j v hv=>?_;have:=g10 j v hv;unfold World.cell? at this⊢;rw[e];exact this
    ·obtain⟨p,hp⟩:=B7 hv
     have N2:p<rows.flatten.length:=by
      rw[<-g9.1];rcases l9 p (cur.toList.take (rows.length*sz)).length with h|h
      ·exact h
      ·rw[e9 h]at hp;cases hp
     have:=g9.2 p v _ hp (f9 N2);simp only[cb]at this;generalize rows.flatten[p]=dd at this
     cases dd with|t x=>exact RT.one this|d x=>exact DT.one this
    ·refine⟨Fp,g9.1,fun p v d hv hd=>?_,fun p c N6=>⟨⟨q,_,s_,Oy,.inr (g7 p c N6).1⟩,RW q _ c s_ Oy (.inr (g7 p c N6).1)⟩,g8⟩;have:=g9.2 p v d hv hd;simpa only[cb]using this
  ·exact plain (ev x) rfl h
 ·exact plain _ rfl h
theorem Conc.appendD (h:Conc N B M w0 ρ s a w){T U e ty:TypeId}{d:Nat}{te:Of}{ie:TypeInfo}{de du:TypeDesc}(hu:P.underlying T=some (.slice e))(fite:te.Fit P e ie de)(TO:P.underlying U=some du)(hk:jO du=none)
  (hd:d<N) (hU:¬s.U d) (rm QE:List Id) (rows news:List (List DC)) (sv x:Value) (Qg:∀r∈news,r.length=te.size) (XG:∀r∈rows,r.length=te.size) (Ow:∀o∈rm,o∉QE)
  (hs:(sv= .slice none 0 0/\rows=[])\/∃b cap cur e' fz,sv= .slice (some ⟨b,0,none⟩) rows.length cap/\w.heap[b]?=some (.cells cur e' fz)/\ck cur.size fz/\rows.length<=cap/\cap<=maxLen/\cur.size=cap*te.size/\
   Cells ρ s w rm (fun c=>c=b) (cur.toList.take (rows.length*te.size)) rows.flatten/\∃o x',o∈rm/\s.H o=some x'/\blk (ρ o)=some b)
  (nv:List Value) (hl:∀w',(Builtin.lenOf x).run P w'= .ok news.length w') (hf:∀w',w'.heap=w.heap->(Builtin.firstCells te.size news.length x).run P w'= .ok nv.toArray w') (SH:∀v∈nv,v.oneCell'=true)
  (X6:∀bad:Nat->Prop,(∀o x c,o∈QE->s.H o=some x->Own ρ o c->¬bad c)->Cells ρ s w QE bad nv news.flatten)
  (O0:fits (rows.length+news.length) te.bytes) (R:List Id):
  ∃v w' ρ',(Builtin.append_ #[T,U] ty #[sv,x]).run P w= .ok v w'/\Conc N B M w0 ρ' (s.app (some d) ⟨.r (.c (.own (d,0,0))),(rm++QE).map (fun r=>(r,none))++[((d,0,0),some (.dar te.size (rows++news) none))],some d,R⟩) (a.put (some d) v) w':=by
 obtain⟨z,hz,hm⟩:=fite.zero
 have R2:z.cells.size=te.size:=by have h1:=(eI (B:=B) (ρ:=ρ) (w:=w) (ok:=fun _=>True) hm).length;rw[fite.zlen]at h1;simpa using h1
 have Pn:nv.length=news.length*te.size:=by obtain⟨Fp,h1,_⟩:=X6 (fun _=>False) (fun _ _ _ _ _ _ h=>h);rw[h1,aY te.size news Qg]
 have OJ:∀bad:Nat->Prop,(∀c,bad c->¬∃o x,o∈QE/\s.H o=some x/\Own ρ o c)->Cells ρ s w QE bad nv news.flatten:=fun bad hb=>X6 bad fun o x c h1 h2 h3 h4=>hb c h4 ⟨o,x,h1,h2,h3⟩
 obtain⟨olds,hs⟩:∃olds,(sv= .slice none 0 0/\rows=[]/\olds=[])\/∃b cap cur e' fz,sv= .slice (some ⟨b,0,none⟩) rows.length cap/\w.heap[b]?=some (.cells cur e' fz)/\ck cur.size fz/\rows.length<=cap/\cap<=maxLen/\cur.size=cap*te.size/\
   Cells ρ s w rm (fun c=>c=b) olds rows.flatten/\(∃o x',o∈rm/\s.H o=some x'/\blk (ρ o)=some b)/\olds=cur.toList.take (rows.length*te.size):=by
  rcases hs with⟨h1,h2⟩|⟨b,cap,cur,e',fz,h1,h2,h3,h4,h5,h6,h7,h8⟩
  ·exact⟨[],.inl ⟨h1,h2,rfl⟩⟩
  ·exact⟨_,.inr ⟨b,cap,cur,e',fz,h1,h2,h3,h4,h5,h6,h7,h8,rfl⟩⟩
 obtain⟨v,w',N9,U1⟩:=FG (w:=w) (ty:=ty) hu TO hk fite.info hz (by rw[fite.size];exact R2) sv x rows.length news.length olds nv
  (by
   rcases hs with⟨h1,h2,h3⟩|⟨b,cap,cur,e',fz,h1,h2,h3,h4,h5,h6,_,_,h9⟩
   ·exact .inl ⟨h1,by rw[h2];rfl,h3⟩
   ·exact .inr ⟨b,cap,cur,e',fz,h1,h2,h3,h4,h5,by rw[fite.size];exact h6,by rw[fite.size];exact h9⟩) hl (by rw[fite.size];exact hf) (by rw[fite.size];exact Pn) SH O0.2 (by rw[fite.bytes];exact O0.1)
 refine⟨v,w',?_⟩;have XH:∀r∈rows++news,r.length=te.size:=fun r hr=>(f0.1 hr).elim (XG r) (Qg r);have OA:(rows++news).flatten=rows.flatten++news.flatten:=s_;rcases U1 with⟨rfl,rfl,hn0,hm0,_⟩|⟨b',PI,OM,e'',Tl,D,rfl,hT,g1,g2,g3,g4,g5,g6,g7⟩
 ·have e1:rows=[]:=x9 hn0;have e2:news=[]:=x9 hm0;subst e1;subst e2
  obtain⟨ρ',h'⟩:=h.make hd hU (D:=fun _=>False) (rm++QE) (Turn.refl _ w') (v:= .slice none 0 0) (vv:= .slice none 0 0) (x:= .dar te.size ([]++[]) none) (av:= .r (.c (.own (d,0,0)))) (R:=R) (fun _=>False) (fun _ h=>h.elim) (fun b hb=>by cases hb) (fun _ h=>h.elim) (fun id N8=>by simp[AO.ids]at N8)
   (fun id N8=>by simp[AV.ids,AR.ids,AC.ids]at N8;left;rw[N8]) (fun ρ' ok' hk _ hρ hq _=>⟨⟨s_,.inl ⟨hq,rfl,rfl⟩⟩,⟨_,_,_,hq⟩,hq.symm⟩)
  exact⟨ρ',N9,h'⟩
 ·rw[fite.size]at g5 g6
  have OE:∀bad:Nat->Prop,(∀c,bad c->c=b')->Cells ρ s w (rm++QE) bad (OM.toList.take ((rows++news).length*te.size)) (rows++news).flatten:=by
   intro bad RW;rw[b8,g6,OA];rcases hs with⟨h1,h2,h0⟩|⟨b,cap,cur,e',fz,h1,h2,h3,h4,h5,h6,h7,⟨o,x',k1,k2,k3⟩,h0⟩
   ·subst h1;subst h2;subst h0;rcases g7 with⟨g7,_⟩|⟨g7,_⟩
    ·refine Cells.append h (Cells.nil.mono s_ (fun _ h=>h)) (OJ bad fun c OO ⟨o1,x1,m1,m2,m3⟩=>?_) Ow;have:=(h.rng o1 x1 c m2 m3).1;rw[RW c OO]at this;omega
    ·cases g7
   ·subst h1;have Ti:blk (ρ o)=some b:=k3
    have PK:∀c,bad c->c=b\/w.heap.size<=c:=fun c hc=>by
     rw[RW c hc];rcases g7 with⟨g7,_⟩|⟨g7,_⟩
     ·exact .inr g7
     ·have:b=b':=(by simpa [blk]using g7);exact .inl this.symm
    obtain⟨Fp,c1,c2,c3,c4⟩:=h7;refine Cells.append h ⟨Fp,c1,c2,fun p c hc=>⟨(c3 p c hc).1,fun hx=>?_⟩,c4⟩ (OJ bad fun c OO ⟨o1,x1,m1,m2,m3⟩=>?_) Ow
    ·rcases PK c hx with e|e
     ·exact(c3 p c hc).2 e
     ·obtain⟨⟨o2,x2,m1,m2,m3⟩,_⟩:=c3 p c hc;have:=(h.rng o2 x2 c m2 m3).1;omega
    ·rcases PK c OO with e|e
     ·subst e;exact h.sep o o1 x' x1 c k2 m2 (fun e=>Ow o k1 (e▸m1)) (.inl k3) m3
     ·have:=(h.rng o1 x1 c m2 m3).1;omega
  obtain⟨ρ',h'⟩:=h.newDar hd hU (rm++QE) hT (b:=b') (cap:=PI) (sz:=te.size) (us:=OM) (e:=e'') (fz:=Tl) (rows:=rows++news)
   (fun k hk=>by
    rcases g7 with⟨_,g7⟩|⟨g7,g8⟩
    ·exact absurd hk (g7 k)
    ·refine⟨g8 k hk,?_⟩;rw[g8 k hk];rcases hs with⟨h1,h2,h0⟩|⟨b,cap,cur,e',fz,h1,h2,h3,h4,h5,h6,h7,⟨o,x',k1,k2,k3⟩,h0⟩
     ·subst h1;cases g7
     ·subst h1;have:b=b':=(by simpa [blk]using g7);subst this
      exact⟨o,x',by simp[k1],k2,.inl k3⟩)
   (by
    rcases g7 with⟨g7,_⟩|⟨g7,_⟩
    ·exact .inl g7
    ·rcases hs with⟨h1,h2,h0⟩|⟨b,cap,cur,e',fz,h1,h2,h3,h4,h5,h6,h7,⟨o,x',k1,k2,k3⟩,h0⟩
     ·subst h1;cases g7
     ·subst h1;have:b=b':=(by simpa [blk]using g7);subst this
      exact .inr ⟨o,x',by simp[k1],k2,.inl k3⟩) g1 g2 XH (by simpa using g3) g4 g5 (OE _ fun _ h=>h) R
  exact⟨ρ',N9,by simpa using h'⟩
theorem V83{p:Prop}(h:p:=by
 have N9:(execOp a.eval o).run P w= .ok (.value v) w':=by simp[execOp,ho,resolve,invoke,builtin,r1]
 unfold Oper.wp;rw[N9];show K (a.put o.dst _) _;rw[OP]
 exact hK _ _ ρ' r2):p:=h
theorem V121{p:Prop}(h:p:=by
 subst g2;have:k=0:=by simpa using OZ
 subst this;rw[g1]at e0;injection e0 with x1 x2 x3;subst x1;subst x3
 exact .inl ⟨e1,s_⟩):p:=h
theorem Bm {T U e:TypeId}{d:Nat}{sx x:Operand}{ti tu te:Of}(hΓ:Γ.chk P=true)(hT:Γ.get T=some ti)(hTU:Γ.get U=some tu)(he:ti.elem=some e)(hk:tu.kind=none)(hE:Γ.get e=some te)(OP:o.dst=some d)
  (ho:o.op= .call {callee:= .builtin .append,args:=#[sx,x],argTypes:=#[T,U]}) (h:ud d te.size te.bytes (ev sx) (ev x) H K):∃ef,K ef/\Good P o ev H ef:=by
 obtain⟨ii,dd,fit⟩:=Env.fit hΓ hT;obtain⟨iu,du,fitu⟩:=Env.fit hΓ hTU;obtain⟨ie,de,fite⟩:=Env.fit hΓ hE;have hd:=ox fit he;subst hd;have Oz:x∈o.op.operands.toList:=by simp[ho,Op.operands,Call.operands]
 have Wz:sx∈o.op.operands.toList:=by simp[ho,Op.operands,Call.operands]
 have R8:jO du=none:=fitu.kind.trans hk
 have fin:∀(rm:List Id) (rows news:List (List Tr)) (fr fr':Bool) (R R':List Id),
   (∀(N B:Nat) (M:Nat->Prop) (w0:Start) (ρ:Rho) (s:F_) (a:Act) (w:World),Conc N B M w0 ρ s a w->evL s.L sx=ev sx->(∀id∈R',s.H id=H id)->
    (∀r∈rows,r.length=te.size)/\((a.eval sx= .slice none 0 0/\rows=[])\/∃b cap cur e' fz,a.eval sx= .slice (some ⟨b,0,none⟩) rows.length cap/\w.heap[b]?=some (.cells cur e' fz)/\ck cur.size fz/\rows.length<=cap/\cap<=maxLen/\cur.size=cap*te.size/\
     RTs w (okF B (okB ρ s.H w) fr) (cur.toList.take (rows.length*te.size)) rows.flatten/\(fr=true->B<=b)/\∃o x',o∈rm/\s.H o=some x'/\Own ρ o b))->
   (∀(N B:Nat) (M:Nat->Prop) (w0:Start) (ρ:Rho) (s:F_) (a:Act) (w:World),Conc N B M w0 ρ s a w->evL s.L x=ev x->(∀id∈R,s.H id=H id)->
    ∃nv,(∀(P:Program) (w':World),(Builtin.lenOf (a.eval x)).run P w'= .ok news.length w')/\(∀(P:Program) (w':World),w'.heap=w.heap->(Builtin.firstCells te.size news.length (a.eval x)).run P w'= .ok nv.toArray w')/\
    RTs w (okF B (okB ρ s.H w) fr') nv news.flatten/\∀r∈news,r.length=te.size)->fits (rows.length+news.length) te.bytes->(∀id∈R,id∈R')->
   Good P o ev H ⟨.r (.c (.own (d,0,0))),rm.map (fun r=>(r,none))++[((d,0,0),some (.arr (fr&&fr') te.size (rows++news)))],some d,R'⟩:=by
  intro rm rows news fr fr' R R' h1 h2 O0 OY N B M w0 ρ s a w Q K hc N4 hR OQ hd hK;rw[OP]at hd hK;obtain⟨g1,g2⟩:=h1 N B M w0 ρ s a w hc (N4 sx Wz) hR;obtain⟨nv,f1,f2,f3,f4⟩:=h2 N B M w0 ρ s a w hc (N4 x Oz) (fun id N8=>hR id (OY id N8));obtain⟨v,w',ρ',r1,r2⟩:=hc.append fit.und fite fitu.und R8 (hd d rfl) (OQ d rfl) rm rows news fr fr' o.type (a.eval sx) (a.eval x) f4 g1 g2 nv (f1 P) (f2 P) f3 O0 R' (i:=ii);exact V83
 have finD:∀(rm QE:List Id) (rows news:List (List DC)) (R R':List Id),(∀o∈rm,o∉QE)->
   (∀(N B:Nat) (M:Nat->Prop) (w0:Start) (ρ:Rho) (s:F_) (a:Act) (w:World),Conc N B M w0 ρ s a w->evL s.L sx=ev sx->(∀id∈R',s.H id=H id)->
    (∀r∈rows,r.length=te.size)/\((a.eval sx= .slice none 0 0/\rows=[])\/∃b cap cur e' fz,a.eval sx= .slice (some ⟨b,0,none⟩) rows.length cap/\w.heap[b]?=some (.cells cur e' fz)/\ck cur.size fz/\rows.length<=cap/\cap<=maxLen/\cur.size=cap*te.size/\
     Cells ρ s w rm (fun c=>c=b) (cur.toList.take (rows.length*te.size)) rows.flatten/\∃o x',o∈rm/\s.H o=some x'/\blk (ρ o)=some b))->
   (∀(N B:Nat) (M:Nat->Prop) (w0:Start) (ρ:Rho) (s:F_) (a:Act) (w:World),Conc N B M w0 ρ s a w->evL s.L x=ev x->(∀id∈QE++R,s.H id=H id)->
    ∃nv,(∀(P:Program) (w':World),(Builtin.lenOf (a.eval x)).run P w'= .ok news.length w')/\(∀(P:Program) (w':World),w'.heap=w.heap->(Builtin.firstCells te.size news.length (a.eval x)).run P w'= .ok nv.toArray w')/\
    (∀r∈news,r.length=te.size)/\(∀v∈nv,v.oneCell'=true)/\∀bad:Nat->Prop,(∀o x c,o∈QE->s.H o=some x->Own ρ o c->¬bad c)->Cells ρ s w QE bad nv news.flatten)->fits (rows.length+news.length) te.bytes->(∀id∈QE++R,id∈R')->
   Good P o ev H ⟨.r (.c (.own (d,0,0))),(rm++QE).map (fun r=>(r,none))++[((d,0,0),some (.dar te.size (rows++news) none))],some d,R'⟩:=by
  intro rm QE rows news R R' Ow h1 h2 O0 OY N B M w0 ρ s a w Q K hc N4 hR OQ hd hK;rw[OP]at hd hK;obtain⟨g1,g2⟩:=h1 N B M w0 ρ s a w hc (N4 sx Wz) hR;obtain⟨nv,f1,f2,f3,f4,f5⟩:=h2 N B M w0 ρ s a w hc (N4 x Oz) (fun id N8=>hR id (OY id N8));obtain⟨v,w',ρ',r1,r2⟩:=hc.appendD (ty:=o.type) fit.und fite fitu.und R8 (hd d rfl) (OQ d rfl) rm QE rows news (a.eval sx) (a.eval x) f3 g1 Ow g2 nv (f1 P) (f2 P) f4 f5 O0 R';exact V83
 unfold ud at h;split at h
 ·rename_i sz hs;split at h
  ·obtain⟨news,rm,R,⟨O0,hK⟩,PF⟩:=tF h;refine⟨_,hK,?_⟩;have:=finD [] rm [] news R (rm++R) s_ (fun N B M w0 ρ s a w hc N4 _=>⟨s_,.inl ⟨by have:=(hc.eval sx).1;rw[N4,hs]at this;exact this,rfl⟩⟩) PF (by simpa using O0) (fun _ h=>h);simpa using this
  ·obtain⟨fr',news,R,⟨O0,hK⟩,PF⟩:=xB h;refine⟨_,hK,?_⟩;have:=fin [] [] news true fr' R R (fun N B M w0 ρ s a w hc N4 _=>⟨s_,.inl ⟨by have:=(hc.eval sx).1;rw[N4,hs]at this;exact this,rfl⟩⟩) PF (by simpa using O0) (fun _ h=>h);simpa using this
 ·rename_i q hs;split at h
  ·rename_i fr sz rows hq;obtain⟨rfl,h⟩:=h;obtain⟨fr',news,R,⟨O0,Px,hK⟩,PF⟩:=xB h;refine⟨_,hK,?_⟩
   have:=fin [q] rows news fr fr' R (q::R) (fun N B M w0 ρ s a w hc N4 hR=>by
    have hv:=(hc.eval sx).1;rw[N4,hs]at hv;obtain⟨_,e1⟩:=hv;have Oy:s.H q=some (.arr fr te.size rows):=(by rw[hR q s_];exact hq);obtain⟨hu,g⟩:=hc.arr Oy;refine⟨hu,?_⟩;rcases g with⟨g1,g2⟩|⟨b,cap,cur,e,fz,g1,g2,g3,g4,g5,g6,g7,g8,g9⟩
    ·exact .inl ⟨e1.trans g1,g2⟩
    ·exact .inr ⟨b,cap,cur,e,fz,e1.trans g1,g2,g3,g4,g5,g6,g7,g9,q,_,s_,Oy,.inl aai⟩) PF O0 (fun id N8=>by simp[N8])
   simpa using this
  ·rename_i sz rows hq;obtain⟨rfl,h⟩:=h;obtain⟨news,rm,R,⟨O0,Px,hK⟩,PF⟩:=tF h;refine⟨_,hK,?_⟩;have Vg:q∉rm++R:=fun hm=>by rw[memI_iff.2 hm]at Px;cases Px
   have:=finD [q] rm rows news R (q::(rm++R)) (by simpa using fun h=>Vg aaI) (fun N B M w0 ρ s a w hc N4 hR=>by
    have hv:=(hc.eval sx).1;rw[N4,hs]at hv;obtain⟨_,e1⟩:=hv;have Oy:s.H q=some (.dar te.size rows none):=(by rw[hR q s_];exact hq);obtain⟨hu,g⟩:=hc.dar Oy;refine⟨hu,?_⟩;rcases g with⟨g1,g2,_⟩|⟨b,cap,cur,e,fz,Fp,g1,g2,g3,g4,g5,g6,g7,g8,g9,g10⟩
    ·exact .inl ⟨e1.trans g1,g2⟩
    ·refine .inr ⟨b,cap,cur,e,fz,e1.trans g1,g2,g3,g4,g5,g6,⟨Fp,g9.1,fun p v d hv hd=>?_,fun p c N6=>⟨⟨q,_,s_,Oy,.inr (g7 p c N6).1⟩,(g7 p c N6).2⟩,g8⟩,q,_,s_,Oy,by rw[g1];rfl⟩;have:=g9.2 p v d hv hd
     simpa only[cb]using this) PF O0 (fun id N8=>by simp only[d6];exact .inr N8)
   simpa using this
  ·exact h.elim
 ·rename_i q k hs;split at h
  ·rename_i fr sz rows hq;obtain⟨rfl,OZ,h⟩:=h;obtain⟨fr',news,R,⟨O0,Px,hK⟩,PF⟩:=xB h;refine⟨_,hK,?_⟩;have Uj:(rows.take k).length=k:=by rw[j5];omega
   have:=fin [q] (rows.take k) news fr fr' R (q::R) (fun N B M w0 ρ s a w hc N4 hR=>by
    have hv:=(hc.eval sx).1;rw[N4,hs]at hv;obtain⟨A,n,c,e0,e1,e2⟩:=hv;have Oy:s.H q=some (.arr fr te.size rows):=(by rw[hR q s_];exact hq);obtain⟨hu,g⟩:=hc.arr Oy;refine⟨fun r hr=>hu r (u6 hr),?_⟩;rcases g with⟨g1,g2⟩|⟨b,cap,cur,e,fz,g1,g2,g3,g4,g5,g6,g7,g8,g9⟩
    ·exact V121
    ·rw[g1]at e0;injection e0 with x1 x2 x3;subst x1;subst x2;subst x3;have OA:(rows.take k).flatten=rows.flatten.take (k*te.size):=(iv te.size rows k hu OZ).symm;have Qv:=g7.take (k*te.size);rw[<-OA,E0]at Qv;have UW:min (k*te.size) (rows.length*te.size)=k*te.size:=x6 (l8 _ OZ);rw[UW]at Qv
     exact .inr ⟨b,cap,cur,e,fz,by rw[Uj];exact e1,g2,g3,o_,g5,g6,by rw[Uj];exact Qv,g9,q,_,s_,Oy,.inl aai⟩) PF (by rw[Uj];exact O0) (fun id N8=>by simp[N8])
   simpa using this
  ·rename_i sz rows hq;obtain⟨rfl,OZ,h⟩:=h;obtain⟨news,rm,R,⟨O0,Px,hK⟩,PF⟩:=tF h;refine⟨_,hK,?_⟩;have Vg:q∉rm++R:=fun hm=>by rw[memI_iff.2 hm]at Px;cases Px
   have Uj:(rows.take k).length=k:=by rw[j5];omega
   have:=finD [q] rm (rows.take k) news R (q::(rm++R)) (by simpa using fun h=>Vg aaI) (fun N B M w0 ρ s a w hc N4 hR=>by
    have hv:=(hc.eval sx).1;rw[N4,hs]at hv;obtain⟨A,n,c,e0,e1,e2⟩:=hv;have Oy:s.H q=some (.dar te.size rows none):=(by rw[hR q s_];exact hq);obtain⟨hu,g⟩:=hc.dar Oy;refine⟨fun r hr=>hu r (u6 hr),?_⟩;rcases g with⟨g1,g2,_⟩|⟨b,cap,cur,e,fz,Fp,g1,g2,g3,g4,g5,g6,g7,g8,g9,g10⟩
    ·exact V121
    ·rw[g1]at e0;injection e0 with x1 x2 x3;subst x1;subst x2;subst x3;have OA:(rows.take k).flatten=rows.flatten.take (k*te.size):=(iv te.size rows k hu OZ).symm;have UW:min (k*te.size) (rows.length*te.size)=k*te.size:=x6 (l8 _ OZ);have VK:cur.toList.take (k*te.size)=(cur.toList.take (rows.length*te.size)).take (k*te.size):=(by rw[E0,UW]);refine .inr ⟨b,cap,cur,e,fz,by rw[Uj];exact e1,g2,g3,o_,g5,g6,⟨Fp,?_,fun p v d hv hd=>?_,fun p c N6=>⟨⟨q,_,s_,Oy,.inr (g7 p c N6).1⟩,(g7 p c N6).2⟩,g8⟩,q,_,s_,Oy,by rw[g1];rfl⟩
     ·rw[Uj,VK,OA,j5,g9.1,j5]
     ·rw[Uj,VK,l4]at hv;rw[OA,l4]at hd;split at hv
      ·rename_i hp;rw[d5 hp]at hd;have:=g9.2 p v d hv hd;simpa only[cb]using this
      ·cases hv) PF (by rw[Uj];exact O0) (fun id N8=>by simp only[d6];exact .inr N8)
   simpa using this
  ·exact h.elim
 ·exact h.elim
theorem rJ (z:Array Value)(n:Nat)(h:0<z.size):(madeCells z (n*z.size)).toList=(List.replicate n z.toList).flatten:=by
 apply C2;intro p
 have hl:(List.replicate n z.toList).flatten.length=n*z.size:=by rw[aY z.size _ (by intro r hr;rw[(D0.1 hr).2];simp)];simp
 by_cases hp:p<n*z.size
 ·have h1:(madeCells z (n*z.size)).toList[p]?=some (z[p%z.size]'(Nat.mod_lt _ h)):=by simp[madeCells,hp];rw[getElem!_pos z _ (Nat.mod_lt _ h)]
  rw[h1];have Yj:p=(p/z.size)*z.size+p%z.size:=by rw[H0];exact(Nat.div_add_mod p z.size).symm
  have N2:p/z.size<n:=(Nat.div_lt_iff_lt_mul h).2 hp;have:=lJ z.size (List.replicate n z.toList) (p/z.size) (p%z.size) z.toList (by intro r hr;rw[(D0.1 hr).2];simp) (by simp[N2]) (Nat.mod_lt _ h);rw[<-Yj]at this;rw[this];simp[Nat.mod_lt _ h]
 ·rw[e9 (by simp[madeCells];omega),e9 (by rw[hl];omega)]
theorem RTs.replicate {ok:Nat->Prop}{vs:List Value}{ts:List Tr}(h:RTs w ok vs ts):∀n:Nat,RTs w ok (List.replicate n vs).flatten (List.replicate n ts).flatten
 | 0=>trivial
 | n+1=>by simp only[List.replicate_succ,t6];exact h.append (RTs.replicate h n)
theorem wg {ok':Nat->Prop}:∀{vs:List Value} {cs:List AC} {ts:List Tr} {fr:Bool} {ids:List Id},cM vs cs=true->frz (fun _=>none) cs=some (ts,fr,ids)->RTs w ok' vs ts
 | [],[],ts,fr,ids,_,h=>by simp only[frz,Option.some.injEq,Prod.mk.injEq]at h;obtain⟨rfl,_⟩:=h;trivial
 | v::vs,c::cs,ts,fr,ids,hm,h=>by
  have VJ:=eI (B:=0) (ρ:=⟨fun _=>default,fun _ _=>False,fun _=>True⟩) (w:=w) (ok:=ok') hm;simp only[cM,c9]at hm
  cases c with
  | t x=>
   simp only[frz]at h
   cases hf:frz (fun _=>none) cs with
   | none=>rw[hf]at h;simp at h
   | some p=>
    obtain⟨Sj,fr',Po⟩:=p;rw[hf]at h;have ih:=wg (ok':=ok') hm.2 hf
    cases x<;>(simp only[Option.some.injEq,Prod.mk.injEq]at h;obtain⟨rfl,rfl,rfl⟩:=h;exact⟨VJ.1,ih⟩)
  | nils sz=>
   simp only[frz]at h
   cases hf:frz (fun _=>none) cs with
   | none=>rw[hf]at h;simp at h
   | some p=>
    obtain⟨Sj,fr',Po⟩:=p;rw[hf]at h;simp only[Option.some.injEq,Prod.mk.injEq]at h;obtain⟨rfl,rfl,rfl⟩:=h;have hx:v= .slice none 0 0:=VJ.1;subst hx
    exact⟨.emp _ _ _ (v4 _),wg hm.2 hf⟩
  | f=>simp[xN]at hm
  | own=>simp[frz]at h
  | nilp=>simp[frz]at h
  | sub=>simp[frz]at h
  | ptr=>simp[frz]at h
  | opq=>simp[frz]at h
  | mpv=>simp[frz]at h
 | [],_::_,_,_,_,hm,_=>by simp[cM]at hm
 | _::_,[],_,_,_,hm,_=>by simp[cM]at hm
theorem MD:∀{vs:List Value} {cs:List AC} {ts:List Tr} {fr:Bool} {ids:List Id},cM vs cs=true->frz (fun _=>none) cs=some (ts,fr,ids)->∀(w:World) (F:Nat->Prop) (p:Nat) (v:Value) (t:Tr),vs[p]?=some v->ts[p]?=some t->DT w F v t
 | [],[],ts,fr,ids,_,_,w,F,p,v,t,hv,_=>by simp at hv
 | v0::vs,c::cs,ts,fr,ids,hm,h,w,F,p,v,t,hv,ht=>by
  simp only[cM,c9]at hm
  have head:∀(t0:Tr) (rest:List Tr),ts=t0::rest->DT w F v0 t0->(∀(q:Nat) (v:Value) (t:Tr),vs[q]?=some v->rest[q]?=some t->DT w F v t)->DT w F v t:=by
   intro t0 rest e h0 hr;subst e
   cases p with|zero=>simp at hv ht;subst hv;subst ht;exact h0|succ p=>exact hr p v t (by simpa using hv) (by simpa using ht)
  have h1:=hm.1
  cases hf:frz (fun _=>none) cs with
  | none=>cases c<;>simp[frz,hf]at h
  | some q=>
   obtain⟨Sj,fr',Po⟩:=q;have O9:=fun q v t=>MD hm.2 hf w F q v t;unfold xN at h1;split at h1
   ·simp only[c9,j7]at h1;obtain⟨rfl,rfl⟩:=h1;simp only[frz,hf,Option.some.injEq,Prod.mk.injEq]at h;exact head _ _ h.1.symm (.int _ _ _) O9
   ·simp only[x7]at h1;subst h1;simp only[frz,hf,Option.some.injEq,Prod.mk.injEq]at h;exact head _ _ h.1.symm (.bool _ _) O9
   ·rename_i s l;simp only[c9,C7]at h1;obtain⟨h2,rfl⟩:=h1
    have:s=⟨#[]⟩:=by obtain⟨d⟩:=s;have:d=#[]:=(by simpa using h2);rw[this]
    subst this;simp only[frz,hf,Option.some.injEq,Prod.mk.injEq]at h;exact head _ _ h.1.symm (.str _ []) O9
   ·simp only[frz,hf,Option.some.injEq,Prod.mk.injEq]at h;exact head _ _ h.1.symm (.nil _ _) O9
   ·simp[frz]at h
   ·simp[frz]at h
   ·simp[frz]at h
   ·simp[frz]at h
   ·cases h1
 | [],_::_,_,_,_,hm,_,_,_,_,_,_,_,_=>by simp[cM]at hm
 | _::_,[],_,_,_,hm,_,_,_,_,_,_,_,_=>by simp[cM]at hm
theorem Cells.replicate (hc:Conc N B M w0 ρ s a w){bad:Nat->Prop}{vs:List Value}{ds:List DC}(h:Cells ρ s w [] bad vs ds):∀n:Nat,Cells ρ s w [] bad (List.replicate n vs).flatten (List.replicate n ds).flatten
 | 0=>Cells.nil
 | n+1=>by
  simp only[List.replicate_succ,t6];exact Cells.append hc h (Cells.replicate hc h n) s_
theorem Gl {T e:TypeId}{d:Nat}{l c:Operand}{ti te:Of}(hΓ:Γ.chk P=true)(hT:Γ.get T=some ti)(he:ti.elem=some e)(hE:Γ.get e=some te)(OP:o.dst=some d)
  (ho:o.op= .makeSlice T l c) (h:Cm d te.size te.bytes te.zero (ev l) (ev c) K):∃ef,K ef/\Good P o ev H ef:=by
 obtain⟨ii,dd,fit⟩:=Env.fit hΓ hT;obtain⟨ie,de,fite⟩:=Env.fit hΓ hE;have hd:=ox fit he;subst hd;obtain⟨z,hz,hm⟩:=fite.zero;unfold Cm at h;split at h
 ·rename_i k n k' m zt _ _ hl N6 Zc;obtain⟨j,rfl,rfl,hj,hb,hK⟩:=h;split at hK
  ·refine⟨_,hK,?_⟩;intro N B M w0 ρ s a w Q K hc N4 hR OQ hd hK;rw[OP]at hd hK;have RJ:=(hc.eval l).1;have T3:=(hc.eval c).1;rw[N4 l aaa,hl]at RJ;rw[N4 c aaa,N6]at T3;have e1:=cS RJ;have e2:=cS T3;have WE:=eI (B:=B) (ρ:=ρ) (w:=w) (ok:=okB ρ s.H w) hm;have R2:z.cells.size=te.size:=(by have h1:=WE.length;rw[fite.zlen]at h1;simpa using h1);have TM:∀ok':Nat->Prop,RTs w ok' z.cells.toList zt:=fun ok'=>wg hm Zc
   have Re:(ie.bytes:Int)*(j:Int)<=281474976710656:=by rw[fite.bytes,Int.mul_comm];omega
   have N9:=run_make (P:=P) w T e ie z fit.und fite.info hz k k' (j:Int) (j:Int) o_ (v7 _) Re o_;simp only[e8,fite.size]at N9;have Xy:=rJ z.cells j (by have:=fite.pos;omega);rw[R2]at Xy
   have O8:(execOp a.eval o).run P w= .ok (.value (.slice (some ⟨w.heap.size,0,none⟩) j j)) (w.alloc (.cells (madeCells z.cells (j*te.size)) e)):=by simp[execOp,ho,e1,e2,N9]
   have X8:zt.length=te.size:=by have:=(TM fun _=>True).length;rw[<-this];simpa using R2
   obtain⟨ρ',h'⟩:=hc.newArr (hd d rfl) (OQ d rfl) [] (w':=w.alloc (.cells (madeCells z.cells (j*te.size)) e)) (Turn.alloc _ _ _) (b:=w.heap.size) (cap:=j) (sz:=te.size) (us:=madeCells z.cells (j*te.size)) (e:=e) (fz:=(0,0)) (rows:=List.replicate j zt) (fr:=true)
    (d7 _) (mE _ _) (ew _) (by intro r hr;rw[(D0.1 hr).2];exact X8) s_ (by unfold maxLen;omega) aaG
    (fun ok' _ _=>by rw[gt aaG,Xy];exact(TM _).replicate j) []
   simp only[G0,A4,p8]at h';unfold Oper.wp;rw[O8];show K (a.put o.dst _) _;rw[OP];exact hK _ _ ρ' h'
  ·refine⟨_,hK,?_⟩;intro N B M w0 ρ s a w Q K hc N4 hR OQ hd hK;rw[OP]at hd hK;have RJ:=(hc.eval l).1;have T3:=(hc.eval c).1;rw[N4 l aaa,hl]at RJ;rw[N4 c aaa,N6]at T3;have e1:=cS RJ;have e2:=cS T3;have WE:=eI (B:=B) (ρ:=ρ) (w:=w) (ok:=okB ρ s.H w) hm;have R2:z.cells.size=te.size:=(by have h1:=WE.length;rw[fite.zlen]at h1;simpa using h1);have TM:∀ok':Nat->Prop,RTs w ok' z.cells.toList zt:=fun ok'=>wg hm Zc
   have Re:(ie.bytes:Int)*(j:Int)<=281474976710656:=by rw[fite.bytes,Int.mul_comm];omega
   have N9:=run_make (P:=P) w T e ie z fit.und fite.info hz k k' (j:Int) (j:Int) o_ (v7 _) Re o_;simp only[e8,fite.size]at N9;have Xy:=rJ z.cells j (by have:=fite.pos;omega);rw[R2]at Xy
   have O8:(execOp a.eval o).run P w= .ok (.value (.slice (some ⟨w.heap.size,0,none⟩) j j)) (w.alloc (.cells (madeCells z.cells (j*te.size)) e)):=by simp[execOp,ho,e1,e2,N9]
   have X8:zt.length=te.size:=by have:=(TM fun _=>True).length;rw[<-this];simpa using R2
   obtain⟨ρ',h'⟩:=hc.newDar (hd d rfl) (OQ d rfl) [] (w':=w.alloc (.cells (madeCells z.cells (j*te.size)) e)) (D:=fun _=>False) (Turn.alloc _ _ _) (b:=w.heap.size) (cap:=j) (sz:=te.size) (us:=madeCells z.cells (j*te.size)) (e:=e) (fz:=(0,0)) (rows:=List.replicate j (zt.map .d))
    (fun _ h=>h.elim) (.inl (d7 _)) (mE _ _) (ew _) (by intro r hr;rw[(D0.1 hr).2,d9];exact X8) s_ (by unfold maxLen;omega) aaG
    (by
     rw[G0,gt aaG,Xy];refine Cells.replicate hc ⟨fun _ _=>False,by rw[d9,X8];simpa using R2,fun p v dd hv To=>?_,fun _ _ h=>h.elim,fun _ _ _ _ h=>h.elim⟩ j;rw[l6,m9]at To;obtain⟨t,ht,rfl⟩:=To
     exact MD hm Zc w _ p v t hv ht) []
   simp only[G0,A4,p8]at h';unfold Oper.wp;rw[O8];show K (a.put o.dst _) _;rw[OP];exact hK _ _ ρ' h'
 ·exact h.elim
theorem xS {ti:Of}(hΓ:Γ.chk P=true)(h:wk Γ ti=true):∃e te ie de,ti.elem=some e/\Γ.get e=some te/\te.Fit P e ie de/\de= .int .u8:=by
 unfold wk at h;split at h
 ·rename_i e he;split at h
  ·rename_i te hE;obtain⟨ie,de,fite⟩:=Env.fit hΓ hE;split at h
   ·rename_i hk;refine⟨e,te,ie,de,he,hE,fite,?_⟩;have:=fite.kind;rw[hk]at this
    cases de<;>simp[jO]at this
    rw[this]
   ·cases h
  ·cases h
 ·cases h
theorem sW (bs:List UInt8):(bs.map aZ).flatten=bs.map fun u=>Tr.int .u8 u.toNat:=by
 induction bs with
 | nil=>rfl
 | cons b bs ih=>simp[aZ,<-ih]
theorem uN {ok:Nat->Prop}:∀bs:List UInt8,RTs w ok (bs.map fun u=>Value.int .u8 u.toNat) (bs.map fun u=>Tr.int .u8 u.toNat)
 | []=>trivial
 | _::bs=>⟨.int _ _,uN bs⟩
theorem zR {ok:Nat->Prop}:∀{vs:List Value} {bs:List UInt8},RTs w ok vs (bs.map fun u=>Tr.int .u8 u.toNat)->vs=bs.map fun u=>Value.int .u8 u.toNat
 | [],[],_=>rfl
 | v::vs,b::bs,h=>by
  have h1:RT w ok v (.int .u8 b.toNat):=h.1;have:v= .int .u8 b.toNat:=by cases h1;rfl
  rw[this,zR h.2]
  rfl
 | [],_::_,h=>h.elim
 | _::_,[],h=>h.elim
theorem HM {esz:Nat}{y:AV}{K2:Bool->List (List Tr)->List Id->Prop}{ok:Nat->Prop}{v:Value}(h:gG esz y H K2)(hn:∀t,y≠tS t)(hv:RV B ρ w ok v y):∃A n c,v= .slice A n c:=by
 unfold gG at h;split at h
 ·rename_i b;exact absurd rfl (hn b)
 ·exact⟨_,_,_,hv⟩
 ·have hv:RT w ok v (.lst _ _):=hv;obtain⟨A,c,e,_⟩:=hv.slice_inv;exact⟨_,_,_,e⟩
 ·have hv:RT w (okF B ok true) v (.lst _ _):=hv;obtain⟨A,c,e,_⟩:=hv.slice_inv;exact⟨_,_,_,e⟩
 ·obtain⟨⟨A,n,c,e⟩,e1⟩:=hv;exact⟨_,_,_,e1.trans e⟩
 ·obtain⟨A,n,c,_,e1,_⟩:=hv;exact⟨_,_,_,e1⟩
 ·exact h.elim
theorem zu {Ts Td:TypeId}{d:Nat}{x:Operand}{ts td:Of}(hΓ:Γ.chk P=true)(hTs:Γ.get Ts=some ts)(hTd:Γ.get Td=some td)(OP:o.dst=some d)
  (ho:o.op= .convert Ts Td x) (h:rz Γ ts td d (ev x) H K):∃ef,K ef/\Good P o ev H ef:=by
 obtain⟨is,ds,fits⟩:=Env.fit hΓ hTs;obtain⟨id,dd,fitd⟩:=Env.fit hΓ hTd;have Oz:x∈o.op.operands.toList:=by simp[ho,Op.operands]
 unfold rz at h;split at h
 ·rename_i k n hx;split at h
  ·rename_i k' hk;have hd:dd= .int k':=(by have:=fitd.kind;rw[hk]at this;cases dd<;>simp[jO]at this;rw[this]);subst hd;refine⟨_,h,aF fun N B M w0 ρ s a w hc N4 hR=>?_⟩;have hv:=(hc.eval x).1;rw[N4 x Oz,hx]at hv;have e1:=cS hv;refine⟨.int k' (k'.wrap n),?_,.int _ _,by simp[AV.ids,AR.ids,AC.ids]⟩
   have:(convert Ts Td (.int k n)).run P w= .ok (.int k' (k'.wrap n)) w:=by
    simp only[convert,m8,run_underlying fits.und,run_underlying fitd.und,i7]
    cases ds<;>simp[Conv.intToInt]
   simp only[execOp,ho,e1,m8,this,i7,p7]
  ·exact h.elim
 ·rename_i t hx;split at h
  ·rename_i hs;have hd:dd= .string:=(by have:=fitd.str;rw[hs]at this;cases dd<;>simp[zB]at this⊢);subst hd;refine⟨_,h,aF fun N B M w0 ρ s a w hc N4 hR=>?_⟩;have hv:=(hc.eval x).1;rw[N4 x Oz,hx]at hv;have e1:=gj hv;refine⟨.string ⟨t.toArray⟩,?_,.str _,by simp[AV.ids,AR.ids,AC.ids]⟩
   have:(convert Ts Td (.string ⟨t.toArray⟩)).run P w= .ok (.string ⟨t.toArray⟩) w:=by
    simp only[convert,m8,run_underlying fits.und,run_underlying fitd.und,i7]
    cases ds<;>simp
   simp only[execOp,ho,e1,m8,this,i7,p7]
  ·split at h
   ·rename_i Vt;simp only[c9]at Vt;obtain⟨hss,Vt⟩:=Vt;obtain⟨e,te,ie,de,he,hE,fite,rfl⟩:=xS hΓ Vt;have hsd:ds= .string:=(by have:=fits.str;rw[hss]at this;cases ds<;>simp[zB]at this⊢);subst hsd;have hd:=ox fitd he;subst hd;obtain⟨N1,hK⟩:=h;refine⟨_,hK,?_⟩;intro N B M w0 ρ s a w Q K hc N4 hR OQ hd hK;rw[OP]at hd hK;have hv:=(hc.eval x).1;rw[N4 x Oz,hx]at hv;have e1:=gj hv;have PG:(⟨t.toArray⟩:ByteArray).size=t.length:=(by simp[ByteArray.size]);have hr:=run_bytes_of_string w Ts Td e ⟨t.toArray⟩ fits.und fitd.und fite.und;have OK:=grownCap_ge w (⟨t.toArray⟩:ByteArray).size 0 e;have OH:=grownCap_le_maxLen w (⟨t.toArray⟩:ByteArray).size 0 e (by rw[PG];unfold maxLen;omega);generalize grownCap w (⟨t.toArray⟩:ByteArray).size 0 e=gc at hr OK OH;rw[PG]at hr OK
    have O8:(execOp a.eval o).run P w= .ok (.value (.slice (some ⟨w.heap.size,0,none⟩) t.length gc)) (w.drew.alloc (.cells (bytesRow ⟨t.toArray⟩ gc) e ((bytesRow ⟨t.toArray⟩ gc).size,(bytesRow ⟨t.toArray⟩ gc).size+1))):=by simp only[execOp,ho,e1,m8,hr,i7,p7]
    have VO:(bytesRow ⟨t.toArray⟩ gc).size=gc:=by simp[bytesRow,ByteArray.size];omega
    have Pl:(bytesRow ⟨t.toArray⟩ gc).toList.take t.length=t.map fun u=>Value.int .u8 u.toNat:=by simp only[bytesRow,A9];rw[x8 s_];rw[gt s_];simp
    obtain⟨ρ',h'⟩:=hc.newArr (hd d rfl) (OQ d rfl) [] (w':=w.drew.alloc (.cells (bytesRow ⟨t.toArray⟩ gc) e ((bytesRow ⟨t.toArray⟩ gc).size,(bytesRow ⟨t.toArray⟩ gc).size+1))) ((Turn.drew _ w).trans (Turn.alloc _ _ _)) (b:=w.heap.size) (cap:=gc) (sz:=1)
     (us:=bytesRow ⟨t.toArray⟩ gc) (e:=e) (fz:=((bytesRow ⟨t.toArray⟩ gc).size,(bytesRow ⟨t.toArray⟩ gc).size+1)) (rows:=t.map aZ) (fr:=true) (d7 _) (heap_alloc_new w.drew _) (fun p hp h=>o_) (by intro r hr;obtain⟨u,_,rfl⟩:=p6.1 hr;rfl) (by simpa using OK) OH
     (by rw[VO];omega) (fun ok' _ _=>by
      simp only[d9,Nat.mul_one];rw[Pl,sW]
      exact uN t) []
    simp only[d9,A4,p8]at h';unfold Oper.wp;rw[O8];show K (a.put o.dst _) _;rw[OP];exact hK _ _ ρ' h'
   ·exact h.elim
 ·rename_i VE SM;split at h
  ·rename_i hs Vt;obtain⟨e,te,ie,de,he,hE,fite,rfl⟩:=xS hΓ Vt;have hd:=ox fits he;subst hd;have hd:dd= .string:=(by have:=fitd.str;rw[hs]at this;cases dd<;>simp[zB]at this⊢);subst hd;obtain⟨_,rows,R,⟨bs,rfl,hK⟩,PF⟩:=xB h;refine⟨_,hK,aF fun N B M w0 ρ s a w hc N4 hR=>?_⟩;obtain⟨nv,f1,f2,f3,f4⟩:=PF N B M w0 ρ s a w hc (N4 x Oz) hR;rw[sW]at f3;have Wd:=zR f3;subst Wd;refine⟨.string ⟨bs.toArray⟩,?_,.str _,by simp[AV.ids,AR.ids,AC.ids]⟩;have hv:=(hc.eval x).1;rw[N4 x Oz]at hv;obtain⟨A,n,c,e1⟩:=HM h (fun t ht=>SM t ht) hv;have N1:=f1 P w;rw[e1]at N1;simp only[Builtin.lenOf,p7,Result.ok.injEq,and_true,d9]at N1;subst N1;have OE:=f2 P w rfl;rw[e1]at OE
   have WK:(convert Ts Td (.slice A bs.length c)).run P w= .ok (.string ⟨bs.toArray⟩) w:=by
    cases A with
    | none=>
     simp only[Builtin.firstCells,p7,Result.ok.injEq,and_true]at OE
     have:bs=[]:=by have:=congrArg Array.size OE;simp at this;exact x9 this.symm
     subst this;rw[run_convert_bytes_string w Ts Td e none _ c fits.und fite.und fitd.und];simp[Conv.bytesToString]
     rfl
    | some ad=>simp only[Builtin.firstCells,d9,Nat.mul_one]at OE;rw[run_convert_bytes_string w Ts Td e (some ad) _ c fits.und fite.und fitd.und];rw[run_bytesToString w ad bs.length c (bs.map fun u=>(u.toNat:Int)) (by rw[OE];simp),foldl_push_byteCells];simp
   simp only[execOp,ho,e1,m8,WK,i7,p7]
  ·exact h.elim
theorem DU {T ft:TypeId}{x:Operand}{f off sz:Nat}{ti to:Of}(hΓ:Γ.chk P=true)(hT:Γ.get T=some ti)(hf:ti.fields[f]?=some (off,sz,ft))(UG:Γ.get ft=some to)
  (ho:o.op= .field T x f) (h:zf off to (ev x) KV):∃v,KV v/\Good P o ev H (.val v []):=by
 obtain⟨i,d,fit⟩:=Env.fit hΓ hT;obtain⟨fs,F,rfl,h1,h2,h3,_⟩:=fit.field hf;subst h3;obtain⟨io,dO,fito⟩:=Env.fit hΓ UG;have Oz:x∈o.op.operands.toList:=by simp[ho,Op.operands]
 unfold zf at h;split at h
 ·rename_i cs hx
  have base:∀(N B:Nat) (M:Nat->Prop) (w0:Start) (ρ:Rho) (s:F_) (a:Act) (w:World),Conc N B M w0 ρ s a w->(∀x∈o.op.operands.toList,evL s.L x=ev x)->
    ∃us,a.eval x= .agg us/\RCs B ρ w (okB ρ s.H w) us.toList cs/\∀id∈cs.flatMap AC.ids,s.U id.1:=by
   intro N B M w0 ρ s a w hc N4;have hv:=hc.eval x;rw[N4 x Oz,hx]at hv;obtain⟨⟨us,e1,e2⟩,e3⟩:=hv;exact⟨us,e1,e2,e3⟩
  split at h
  ·rename_i OV;split at h
   ·rename_i xs OI;obtain⟨g1,g2⟩:=fZ OI;refine⟨_,h,aF fun N B M w0 ρ s a w hc N4 hR=>?_⟩;obtain⟨us,e1,e2,e3⟩:=base N B M w0 ρ s a w hc N4;refine⟨.agg (us.extract off (off+to.size)),?_,⟨_,rfl,?_⟩,?_⟩
    ·simp[execOp,ho,e1,Instr.field,run_underlying fit.und,h1,asAgg,part,kl fito.und,fito.agg,OV,cI fito.info,fito.size,h2]
    ·rw[g2];have:=(e2.drop off).take to.size;simpa [F1]using this
    ·rw[g2];exact lZ e3 off to.size
   ·exact h.elim
  ·rename_i OV;split at h
   ·rename_i c OI;obtain⟨g1,g2⟩:=fZ OI;refine⟨_,h,aF fun N B M w0 ρ s a w hc N4 hR=>?_⟩;obtain⟨us,e1,e2,e3⟩:=base N B M w0 ρ s a w hc N4
    have Qw:cs[off]?=some c:=by have:((cs.drop off).take 1)[0]?=some c:=(by rw[<-g2];rfl);simpa using this
    obtain⟨u,hu,Ty⟩:=e2.get off c Qw;have O1:us[off]?=some u:=(by simpa using hu);refine⟨u,?_,Ty,fun id N8=>e3 id (u5.2 ⟨c,b9 Qw,N8⟩)⟩;simp[execOp,ho,e1,Instr.field,run_underlying fit.und,h1,asAgg,part,kl fito.und,fito.agg,OV,h2,O1]
   ·exact h.elim
 ·exact h.elim
theorem EH (places:Nat->Option (Nat×Nat)){B:Nat}{ρ:Rho}{w:World}{ok:Nat->Prop}{f:Operand->Value}{fs:List (Nat×Nat×TypeId)}(hp:∀i off sz ft,fs[i]?=some (off,sz,ft)->places i=some (off,sz)):
  ∀(parts:List (Nat×Operand)) (zero:List AC) (cells:Array Value) (K:List AC->Prop),(∀p∈parts,RV B ρ w ok (f p.2) (ev p.2))->RCs B ρ w ok cells.toList zero->
   eT fs zero (parts.map fun p=>(p.1,ev p.2)) K->∃cs out,K cs/\Instr.fill places cells (parts.map fun p=>(p.1,f p.2))=some out/\RCs B ρ w ok out.toList cs
 | [],zero,cells,K,_,hr,h=>⟨zero,cells,h,by simp[Instr.fill],hr⟩
 |(i,x)::parts,zero,cells,K,hv,hr,h=>by
  simp only[n9,eT]at h
  cases hx:ev x with
  | r ar=>
   rw[hx]at h;simp only[eT]at h;split at h
   ·rename_i off sz ft QK;split at h
    ·rename_i z hbq QM;have hs:ar.cells.length=sz:=(by simpa using hbq);have Pw:=hp i off sz ft QK;obtain⟨g1,g2⟩:=jl QM;have QV:=hv (i,x) s_;simp only at QV;rw[hx]at QV;have OE:=RR.cells QV;have OJ:=OE.length;have Pl:=hr.length
     have Sx:(f x).cells.zipIdx.foldl (fun cs (y:Value×Nat)=>cs.setIfInBounds (off+y.2) y.1) cells=(cells.toList.take off++(f x).cells.toList++cells.toList.drop (off+(f x).cells.toList.length)).toArray:=by
      have key:∀(vs:List Value) (k:Nat) (cells:Array Value),off+k+vs.length<=cells.size->
        (vs.zipIdx k).foldl (fun(cs:Array Value) (y:Value×Nat)=>cs.setIfInBounds (off+y.2) y.1) cells=(cells.toList.take (off+k)++vs++cells.toList.drop (off+k+vs.length)).toArray:=by
       intro vs
       induction vs with
       | nil=>intro k cells _;simp
       | cons u vs ih=>
        intro k cells hl;simp only[c7]at hl;simp only[List.zipIdx_cons,B5];rw[ih (k+1) _ aab];have N2:off+k<cells.toList.length:=by simp;omega
        have e1:(cells.toList.set (off+k) u).take (off+(k+1))=cells.toList.take (off+k)++[u]:=by rw[show off+(k+1)=off+k+1 by omega,B9 aab];simp[G9]
        have e2:(cells.toList.set (off+k) u).drop (off+(k+1)+vs.length)=cells.toList.drop (off+k+(vs.length+1)):=by rw[List.drop_set_of_lt o_];congr 1;omega
        simp only[Array.toList_setIfInBounds,c7,e1,e2];simp
      have:=key (f x).cells.toList 0 cells (by rw[OJ];simp at Pl;omega);rw[<-Array.foldl_toList,Array.toList_zipIdx];simpa using this
     have TX:RCs B ρ w ok (cells.toList.take off++(f x).cells.toList++cells.toList.drop (off+(f x).cells.toList.length)) z:=by rw[g2,OJ];exact((hr.take off).append OE).append (hr.drop _)
     obtain⟨cs,out,k1,k2,k3⟩:=EH places hp parts z (cells.toList.take off++(f x).cells.toList++cells.toList.drop (off+(f x).cells.toList.length)).toArray K (fun p Ra=>hv p (by simp[Ra])) TX h;refine⟨cs,out,k1,?_,k3⟩;simp only[n9,Instr.fill,Pw];have QW:(f x).cells.size=sz:=(by rw[<-hs,<-OJ];simp);rw[c8 (by simp at Pl;simp[QW];omega),Sx];exact k2
    ·exact h.elim
   ·exact h.elim
  | tup=>rw[hx]at h;exact h.elim
  | el=>rw[hx]at h;exact h.elim
  | ro=>rw[hx]at h;exact h.elim
  | unk=>rw[hx]at h;exact h.elim
theorem EU {α β:Type}(g:α->Sem β)(g':α->β)(w:World):∀l:List α,(∀x∈l,(g x).run P w= .ok (g' x) w)->(l.mapM g).run P w= .ok (l.map g') w
 | [],_=>s_
 | x::l,h=>by
  simp only[List.mapM_cons,m8,h x s_,i7,EU g g' w l (fun y hy=>h y aao),p7,n9]
theorem CY {T:TypeId}{parts:Array (Nat×Operand)}{ti:Of}(hΓ:Γ.chk P=true)(hT:Γ.get T=some ti)(ho:o.op= .build T parts)(Ow:ti.fields≠[])
  (h:eT ti.fields ti.zero (parts.toList.map fun p=>(p.1,ev p.2)) fun cs=>K (.val (.r (.agg cs)) [])):∃ef,K ef/\Good P o ev H ef:=by
 obtain⟨i,d,fit⟩:=Env.fit hΓ hT;obtain⟨z,hz,hm⟩:=fit.zero
 have TB:∃fs,d= .struct fs/\fs.toList.map (fun f=>(f.offset,P.cellsOf f.type,f.type))=ti.fields/\∀F∈fs.toList,P.cellsOf F.type≠0:=by
  have ho:=fit.fields
  cases d<;>simp only[lA]at ho<;>try(rw[C7]at ho;exact absurd ho Ow)
  rename_i fs;simp only[c9,j7,q7,u9]at ho;refine⟨fs,rfl,ho.1,fun F hF e=>?_⟩;have:=ho.2 (F.offset,P.cellsOf F.type,F.type) (by rw[<-ho.1];exact p6.2 ⟨F,hF,rfl⟩);simp only[e]at this;simp at this
 obtain⟨fs,rfl,QH,Pp⟩:=TB
 have TD:∀w:World,(fs.mapM (fun f:Field=>(do pure (f.offset,<-sizeOf f.type):Sem (Nat×Nat)))).run P w= .ok (fs.map fun f:Field=>(f.offset,P.cellsOf f.type)) w:=by
  intro w;rw[Array.mapM_eq_mapM_toList]
  have:=EU (P:=P) (fun f:Field=>(do pure (f.offset,<-sizeOf f.type):Sem (Nat×Nat))) (fun f:Field=>(f.offset,P.cellsOf f.type)) w fs.toList (fun F hF=>by
   have:=Pp F hF;unfold Program.cellsOf at this⊢
   cases hi:P.info? F.type with
   | none=>rw[hi]at this;simp at this
   | some j=>simp[cI hi])
  rw[Sem.run_map,this,i7];congr 1;apply Array.ext';simp
 have Pw:∀(i off sz:Nat) (ft:TypeId),ti.fields[i]?=some (off,sz,ft)->(fs.map fun f:Field=>(f.offset,P.cellsOf f.type))[i]?=some (off,sz):=by
  intro i off sz ft hi;rw[<-QH,l6,m9]at hi;obtain⟨F,g1,g2⟩:=hi;simp only[Prod.mk.injEq]at g2;have:fs[i]?=some F:=by simpa using g1
  simp[this,g2.1,g2.2.1]
 have key:∀(B:Nat) (ρ:Rho) (w:World) (ok:Nat->Prop) (f:Operand->Value) (K2:List AC->Prop),(∀p∈parts.toList,RV B ρ w ok (f p.2) (ev p.2))->eT ti.fields ti.zero (parts.toList.map fun p=>(p.1,ev p.2)) K2->
   ∃cs out,K2 cs/\Instr.fill (fun i=>(fs.map fun f:Field=>(f.offset,P.cellsOf f.type))[i]?) z.cells (parts.toList.map fun p=>(p.1,f p.2))=some out/\RCs B ρ w ok out.toList cs:=by
  intro B ρ w ok f K2 hv h;exact EH _ Pw parts.toList ti.zero z.cells K2 hv (eI hm) h
 have det:∀(l:List (Nat×AV)) (zero:List AC) (K1:List AC->Prop),eT ti.fields zero l K1->∃cs,K1 cs/\∀K2:List AC->Prop,K2 cs->eT ti.fields zero l K2:=by
  intro l
  induction l with
  | nil=>intro zero K1 h;exact⟨zero,h,fun K2 h=>h⟩
  | cons p l ih=>
   intro zero K1 h;obtain⟨i,v⟩:=p
   cases v with
   | r ar=>
    simp only[eT]at h⊢;split at h
    ·rename_i off sz ft hf;split at h
     ·rename_i z' h1 h2;obtain⟨cs,g1,g2⟩:=ih _ _ h;exact⟨cs,g1,fun K2 hk=>g2 K2 hk⟩
     ·exact h.elim
    ·exact h.elim
   | tup=>exact h.elim
   | el=>exact h.elim
   | ro=>exact h.elim
   | unk=>exact h.elim
 obtain⟨cs,hK,VR⟩:=det _ _ _ h;refine⟨_,hK,aF fun N B M w0 ρ s a w hc N4 hR=>?_⟩
 have Pt:∀p∈parts.toList,RV B ρ w (okB ρ s.H w) (a.eval p.2) (ev p.2)/\∀id∈(ev p.2).ids,s.U id.1:=fun p hp=>by
  have:=hc.eval p.2;rwa [N4 p.2 (by simp only[ho,Op.operands];exact p6.2 ⟨p,hp,rfl⟩)]at this
 obtain⟨cs',out,rfl,g2,g3⟩:=key B ρ w (okB ρ s.H w) a.eval (fun x=>x=cs) (fun p hp=>(Pt p hp).1) (VR _ rfl);refine⟨.agg out,?_,⟨out,rfl,g3⟩,?_⟩
 ·have:(Instr.build T (parts.map fun p=>(p.1,a.eval p.2))).run P w= .ok (.agg out) w:=by simp only[Instr.build,m8,fT fit.info hz,i7,run_underlying fit.und,TD,H9];simp only[Array.getElem?_map]at g2⊢;rw[g2];rfl
  simp only[execOp,ho,m8,this,i7,p7]
 ·
  have idsb:∀(l:List (Nat×AV)) (zero cs:List AC),(∀id∈zero.flatMap AC.ids,s.U id.1)->(∀p∈l,∀id∈p.2.ids,s.U id.1)->eT ti.fields zero l (fun x=>x=cs)->∀id∈cs.flatMap AC.ids,s.U id.1:=by
   intro l
   induction l with
   | nil=>intro zero cs hz _ h;cases h;exact hz
   | cons p l ih=>
    intro zero cs hz hl h;obtain⟨i,v⟩:=p
    cases v with
    | r ar=>
     simp only[eT]at h;split at h
     ·split at h
      ·rename_i z' h1 h2;refine ih z' cs (fun id N8=>?_) (fun p hp=>hl p (by simp[hp])) h;obtain⟨_,g⟩:=jl h2;rw[g]at N8;simp only[List.flatMap_append,f0]at N8;rcases N8 with(N8|N8)|N8
       ·obtain⟨c,c1,c2⟩:=u5.1 N8;exact hz id (u5.2 ⟨c,u6 c1,c2⟩)
       ·refine hl (i,.r ar) s_ id ?_
        cases ar with|c x=>simpa [AR.cells,AV.ids,AR.ids]using N8|agg xs=>exact N8
       ·obtain⟨c,c1,c2⟩:=u5.1 N8;exact hz id (u5.2 ⟨c,A5 c1,c2⟩)
      ·exact h.elim
     ·exact h.elim
    | tup=>exact h.elim
    | el=>exact h.elim
    | ro=>exact h.elim
    | unk=>exact h.elim
  exact idsb _ _ _ (by rw[tk hm];simp) (fun p hp=>by
   obtain⟨q,hq,rfl⟩:=p6.1 hp
   exact(Pt q hq).2) (VR _ rfl)
end
section
variable {P:Program} {Γ:Env} {N B:Nat} {M:Nat->Prop} {w0:Start} {ρ:Rho} {s:F_} {a:Act} {w:World} {o:Oper} {ev:Operand->AV} {H:Id->Option AO} {K:Eff->Prop} {KV:AV->Prop}
theorem qp:∀(parts:List (Nat×Operand)) (n:Nat) (K:List (List DC)->List Id->Prop),mq H n (parts.map fun p=>(p.1,ev p.2)) K->
  ∃rows ids,K rows ids/\rows.length=parts.length/\(∀(j:Nat) (p:Nat×Operand),parts[j]?=some p->p.1=n+j)/\
   ∀(N B:Nat) (M:Nat->Prop) (w0:Start) (ρ:Rho) (s:F_) (a:Act) (w:World),Conc N B M w0 ρ s a w->(∀o∈ids,s.H o=H o)->ids.Nodup->
    (∀p∈parts,RV B ρ w (okB ρ s.H w) (a.eval p.2) (ev p.2))->Cells ρ s w ids (fun _=>False) ((parts.map fun p=>(a.eval p.2).cells.toList).flatten) rows.flatten/\
     ∀(j:Nat) (p:Nat×Operand) (row:List DC),parts[j]?=some p->rows[j]?=some row->(a.eval p.2).cells.size=row.length
 | [],n,K,h=>⟨[],[],h,rfl,s_,fun N B M w0 ρ s a w _ _ _ _=>⟨Cells.nil,s_⟩⟩
 |(i,x)::parts,n,K,h=>by
  simp only[n9,mq]at h
  cases hx:ev x with
  | r ar=>
   rw[hx]at h;simp only[mq]at h;split at h
   ·rename_i hn;have hin:i=n:=(by simpa using hn);obtain⟨ds,ids0,h0,YT⟩:=uc _ _ h;obtain⟨rows,ids,h1,h2,h3,h4⟩:=qp parts (n+1) _ h0;refine⟨ds::rows,ids0++ids,h1,by simp[h2],fun j p hj=>?_,fun N B M w0 ρ s a w hc hH Q0 hf=>?_⟩
    ·cases j with|zero=>simp at hj;subst hj;simpa using hin|succ j=>have:=h3 j p aax;omega
    ·have hv:=hf (i,x) s_;simp only at hv;rw[hx]at hv;have c1:=YT hc (fun o ho=>hH o aae) (D7.1 Q0).1 _ (RR.cells hv);obtain⟨c2,c3⟩:=h4 N B M w0 ρ s a w hc (fun o ho=>hH o aae) (D7.1 Q0).2.1 (fun p hp=>hf p (by simp[hp]));refine⟨?_,fun j p row hj hr=>?_⟩
     ·simp only[n9,t6];exact Cells.append hc c1 c2 fun o ho OR=>(D7.1 Q0).2.2 o ho o OR rfl
     ·cases j with
      | zero=>
       simp at hj hr;subst hj;subst hr;obtain⟨_,g,_⟩:=c1
       simpa using g
      | succ j=>exact c3 j p row aax aaL
   ·exact h.elim
  | tup=>rw[hx]at h;exact h.elim
  | el=>rw[hx]at h;exact h.elim
  | ro=>rw[hx]at h;exact h.elim
  | unk=>rw[hx]at h;exact h.elim
 termination_by parts=>parts.length
theorem sY {T e:TypeId}{d n:Nat}{parts:Array (Nat×Operand)}{ti te:Of}(hΓ:Γ.chk P=true)(hT:Γ.get T=some ti)(he:ti.elem=some e)(hE:Γ.get e=some te)(OP:o.dst=some d)(ho:o.op= .buildSlice T n parts)
  (hn:parts.toList.length=n)
  (h:mq H 0 (parts.toList.map fun p=>(p.1,ev p.2)) fun rows ids=>(∀r∈rows,r.length=te.size)/\n*te.size<=16777216/\iI ids=true/\K ⟨.r (.c (.own (d,0,0))),ids.map (fun r=>(r,none))++[((d,0,0),some (.dar te.size rows none))],some d,ids⟩):
  ∃ef,K ef/\Good P o ev H ef:=by
 obtain⟨ii,dd,fit⟩:=Env.fit hΓ hT;obtain⟨ie,de,fite⟩:=Env.fit hΓ hE;have hd:=ox fit he;subst hd;obtain⟨z,hz,hm⟩:=fite.zero;obtain⟨rows,ids,⟨hu,PG,Q0,hK⟩,Pl,Uw,Ql⟩:=qp parts.toList 0 _ h;refine⟨_,hK,?_⟩;intro N B M w0 ρ s a w Q K hc N4 hR OQ hd hK;rw[OP]at hd hK
 have Pt:∀p∈parts.toList,RV B ρ w (okB ρ s.H w) (a.eval p.2) (ev p.2):=fun p hp=>by
  exact V136
 let vss:List (List Value):=parts.toList.map fun p=>(a.eval p.2).cells.toList
 have TR:vss.length=rows.length:=by simp[vss,Pl]
 obtain⟨OE,Qh⟩:=Ql N B M w0 ρ s a w hc hR (nodupI_iff.1 Q0) Pt
 have Ox:∀(j:Nat) (p:Nat×Operand),parts.toList[j]?=some p->p.1=j/\(a.eval p.2).cells.size=te.size:=by
  intro j p hj
  have Pg:j<parts.toList.length:=by exact V134
  have UF:rows[j]?=some (rows[j]'o_):=f9 o_;have:=Qh j p _ hj UF;rw[hu _ (b9 UF)]at this;exact⟨by simpa using Uw j p hj,this⟩
 let init:Array Value:=(Array.range (n*te.size)).map (fun i=>(if n*te.size=0 then #[]else z.cells)[i%(if n*te.size=0 then #[]else z.cells).size]!)
 have Uf:init.size=n*te.size:=by simp[init]
 have Ug:Instr.fill (fun i=>some (i*te.size,te.size)) init ((parts.map fun p=>(p.1,a.eval p.2)).toList)=some vss.flatten.toArray:=by exact V24
 have N9:(execOp a.eval o).run P w= .ok (.value (.slice (some ⟨w.heap.size,0,none⟩) n n)) (w.alloc (.cells vss.flatten.toArray e)):=by exact V59
 have N1:rows.length=n:=by rw[Pl,hn]
 have S3:n<=maxLen:=by have:=fite.pos;have h1:n*1<=n*te.size:=A2 _ o_;unfold maxLen;omega
 have OA:vss.flatten.length=n*te.size:=by obtain⟨_,g,_⟩:=OE;rw[show vss.flatten.length=rows.flatten.length from g,aY te.size rows hu,N1]
 obtain⟨ρ',h'⟩:=hc.newDar (hd d rfl) (OQ d rfl) ids (w':=w.alloc (.cells vss.flatten.toArray e)) (D:=fun _=>False) (Turn.alloc _ _ _) (b:=w.heap.size) (cap:=n) (sz:=te.size) (us:=vss.flatten.toArray) (e:=e) (fz:=(0,0)) (rows:=rows)
  (fun _ h=>h.elim) (.inl (d7 _)) (mE _ _) (ew _) hu o_ S3 (by simp only[A7,OA]) (by
   rw[N1,gt (by simp only[OA];omega)];obtain⟨Fp,c1,c2,c3,c4⟩:=OE;refine⟨Fp,c1,c2,fun p c P1=>⟨(c3 p c P1).1,fun e=>?_⟩,c4⟩;obtain⟨⟨o1,x1,m1,m2,m3⟩,_⟩:=c3 p c P1;have:=(hc.rng o1 x1 c m2 m3).1
   omega) ids
 rw[N1]at h';unfold Oper.wp;rw[N9];show K (a.put o.dst _) _;rw[OP];exact hK _ _ ρ' h'
end
section
variable {P:Program} {Γ:Env} {N B:Nat} {M:Nat->Prop} {w0:Start} {ρ:Rho} {s:F_} {a:Act} {w:World} {o:Oper} {ev:Operand->AV} {H:Id->Option AO} {K:Eff->Prop} {KV:AV->Prop}
theorem Conc.upd (h:Conc N B M w0 ρ s a w){q:Id}{x x':AO}(hq:s.H q=some x){b:Nat}(hb:blk (ρ q)=some b)(rm:List Id)(YA:q∉rm)(F:Nat->Prop)(hF:∀c,F c->∃o x,o∈rm/\s.H o=some x/\Own ρ o c){w':World}(hT:Turn (fun k=>k=b) w w')(S7:∀id∈x'.ids,s.U id.1)
  (OT:∀(ρ':Rho) (ok':Nat->Prop),(∀o,ρ' o=ρ o)->(∀c,ρ.fp q c\/F c->ρ'.fp q c)->(∀c,okB ρ s.H w c->w'.heap[c]?=w.heap[c]?/\ok' c)->(∀o x c,o∈rm->s.H o=some x->Own ρ o c->¬F c->w'.heap[c]?=w.heap[c]?/\ok' c)->
   (∀c,F c->w'.heap[c]?=w.heap[c]?/\c≠b)->(∀c,ρ.fp q c->c≠b->w'.heap[c]?=w.heap[c]?)->RO B ρ' w' ok' q x') {dst:Option Nat} (hd:∀d,dst=some d->d<N) (vv:Value) (R:List Id):
  ∃ρ',Conc N B M w0 ρ' (s.app dst ⟨.unk,rm.map (fun r=>(r,none))++[(q,some x')],none,R⟩) (a.put dst vv) w':=by
 let ρ':Rho:=⟨ρ.val,fun o c=>ρ.fp o c\/(o=q/\F c),ρ.al⟩
 have OG:∀o c,Own ρ' o c↔(Own ρ o c\/(o=q/\F c)):=fun o c=>by
  show(blk (ρ o)=some c\/(ρ.fp o c\/(o=q/\F c)))↔_;unfold Own;rw[or_assoc]
 have Tm:Own ρ q b:= .inl hb;have hr:=h.rng q x b hq Tm;have SS:=Cp rm s.H q (some x')
 have hFb:∀c,F c->c≠b:=fun c hc e=>by
  obtain⟨o,x1,g1,g2,g3⟩:=hF c hc;subst e;exact h.sep o q x1 x c g2 hq (fun e=>YA (e▸g1)) g3 Tm
 have QA:∀o x1 c,o∈rm->s.H o=some x1->Own ρ o c->¬F c->w'.heap[c]?=w.heap[c]?/\okB ρ' (bP s.H (rm.map (fun r=>(r,none))++[(q,some x')])) w' c:=by
  intro o x1 c h1 h2 h3 hnF;have N2:=(h.rng o x1 c h2 h3).1;have Ow:c≠b:=fun e=>by subst e;exact h.sep o q x1 x c h2 hq (fun e=>YA (e▸h1)) h3 Tm
  refine⟨hT.block c N2 Ow,⟨y8 N2 hT.size,h.alw c (h.rng o x1 c h2 h3).2⟩,fun o1 x2 h5 h6=>?_⟩;rw[SS]at h5;rw[OG]at h6;rcases h6 with h6|⟨_,h6⟩
  ·by_cases e:o1=q
   ·subst e;exact h.sep o o1 x1 x c h2 hq (fun e3=>YA (e3▸h1)) h3 h6
   ·simp only[c8 e]at h5;by_cases e2:o1∈rm
    ·simp[e2]at h5
    ·simp only[c8 e2]at h5;exact h.sep o o1 x1 x2 c h2 h5 (fun e3=>e2 (e3▸h1)) h3 h6
  ·exact hnF h6
 refine⟨ρ',?_⟩
 have:=h.step (fun k=>k=b) (q::rm) (w':=w') (ρ':=ρ') (H':=bP s.H (rm.map (fun r=>(r,none))++[(q,some x')])) (U':=s.U) (a':=a.put dst vv) (L':=nC s.L dst .unk) hT aaH aaE
  (fun _ _=>rfl) (fun o x1 ho _=>by
   funext c;have:o≠q:=fun e=>ho (by simp[e])
   exact propext ⟨fun hc=>hc.elim id fun hc=>absurd hc.1 this,.inl⟩) rfl (fun o ho=>by
   rw[SS];simp only[d6,not_or]at ho
   simp only[c8 ho.1,c8 ho.2]) (fun _ h=>h)
  (fun c hc e=>by subst e;exact hc.2 q x hq Tm)
  (fun o x1 c h1 h2 h3 e=>by subst e;exact h.sep o q x1 x c h1 hq (fun e=>h2 (by simp[e])) h3 Tm)
  (fun c hc hM e=>by
   subst e;rcases hr.2 with g|g
   ·omega
   ·exact hM g)
  (fun o x1 c h1 h2 h3=>by
   rw[SS]at h2;by_cases e:o=q
   ·subst e;rw[OG]at h3;rcases h3 with h3|⟨_,h3⟩
    ·have:=h.rng o x c hq h3;exact⟨y8 this.1 hT.size,this.2,.inr ⟨o,x,hq,s_,h3⟩⟩
    ·obtain⟨o',x2,g1,g2,g3⟩:=hF c h3;have:=h.rng o' x2 c g2 g3;exact⟨y8 this.1 hT.size,this.2,.inr ⟨o',x2,g2,by simp[g1],g3⟩⟩
   ·simp only[d6,e,false_or]at h1;simp only[c8 e,d5 h1]at h2
    cases h2)
  (fun o o' x1 x2 c h1 h2 h3 h4 Ow=>by
   rw[SS]at h3 h4;exfalso;by_cases e:o=q
   ·exact V116
   ·simp only[d6,e,false_or]at h1;simp only[c8 e,d5 h1]at h3
    cases h3)
  (fun hk o x1 h1 h2=>by
   rw[SS]at h2;by_cases e:o=q
   ·subst e;simp only[if_true,Option.some.injEq]at h2;subst h2;refine⟨OT ρ' _ (fun _=>rfl) (fun c hc=>hc.elim .inl fun hc=> .inr ⟨rfl,hc⟩) hk QA (fun c hc=>?_) (fun c hc Ow=>hT.block c (h.rng o x c hq (.inr hc)).1 Ow),(h.usedH o x hq).1,S7⟩;obtain⟨o',x2,g1,g2,g3⟩:=hF c hc;exact⟨hT.block c (h.rng o' x2 c g2 g3).1 (hFb c hc),hFb c hc⟩
   ·simp only[d6,e,false_or]at h1;simp only[c8 e,d5 h1]at h2
    cases h2)
  (fun hk t=>h.slots hd (av:= .unk) trivial aaO t)
 exact this.congr (fun _=>rfl) (fun _=>rfl) (fun n=>by simp[F_.app])
theorem ou {T:TypeId}{ti:Of}{i:TypeInfo}{d:TypeDesc}(fit:ti.Fit P T i d)(b off:Nat)(v:Value)(hl:v.cells.size=ti.size){cur:Array Value}{e:TypeId}{fz:Nat×Nat}(hb:w.heap[b]?=some (.cells cur e fz))(hz:ck cur.size fz)
  (O0:off+ti.size<=cur.size) (h1:∀u∈v.cells.toList,u.oneCell'=true):(Instr.storeAt T (.pointer (some ⟨b,off,none⟩)) v).run P w= .ok () (w.setCells b off v.cells.toList):=by
 have PO:v.cells.toList.length=ti.size:=by simpa using hl
 have O4:=run_storeCells_cells (P:=P) b off v.cells.toList 0 w (fun j hj=>by
   rw[cell_of_row w b _ cur e fz hb];simp only[w9]
   rw[w6 o_];rfl) (fun j hj=>by
   simp only[World.frozen?,hb,w9];have:=hz (off+j) o_;simp only[z8,n7,Nat.not_le,Nat.not_lt]
   omega) h1
 simp only[w9]at O4;simp[Instr.storeAt,Instr.sureAddr,storeVar,cI fit.info,fit.size,hl,O4]
theorem Ma {U:Nat->Prop}{off:Nat}{xs l l':List AC}(h:lay off xs l=some l')(h1:∀id∈xs.flatMap AC.ids,U id.1)(h2:∀id∈l.flatMap AC.ids,U id.1):∀id∈l'.flatMap AC.ids,U id.1:=by
 obtain⟨_,rfl⟩:=jl h;intro id N8;simp only[List.flatMap_append,f0]at N8;rcases N8 with(N8|N8)|N8
 ·obtain⟨c,c1,c2⟩:=u5.1 N8;exact h2 id (u5.2 ⟨c,u6 c1,c2⟩)
 ·exact h1 id N8
 ·obtain⟨c,c1,c2⟩:=u5.1 N8;exact h2 id (u5.2 ⟨c,A5 c1,c2⟩)
theorem Nt {ar:AR}:∀id∈ar.cells.flatMap AC.ids,id∈(AV.r ar).ids:=by
 intro id N8
 cases ar with|c x=>simpa [AR.cells,AV.ids,AR.ids]using N8|agg xs=>exact N8
theorem lz {α:Type}{sz off:Nat}{row row' ts:List α}(l1:off+ts.length<=row.length)(l2:row'=row.take off++ts++row.drop (off+ts.length)):∀(rows:List (List α)) (i:Nat),(∀r∈rows,r.length=sz)->rows[i]?=some row->
  (rows.set i row').flatten=rows.flatten.take (i*sz+off)++ts++rows.flatten.drop (i*sz+off+ts.length)
 | [],i,_,h=>by simp at h
 | r::rows,0,hu,h=>by
  simp at h;subst h;simp only[C9,t6,Nat.zero_mul,q8];rw[x8 o_,l2];rw[List.drop_append_of_le_length o_]
  simp
 | r::rows,i+1,hu,h=>by
  have hr:=hu r s_;simp only[List.set_cons_succ,t6];rw[lz l1 l2 rows i (fun r hr=>hu r aaw) aac];have e1:(i+1)*sz+off=r.length+(i*sz+off):=by rw[o8,hr];omega
  rw[e1,List.take_length_add_append,C4 r.length,List.drop_length_add_append];simp
theorem yi {α:Type}{A ys:List α}{k:Nat}(h:k+ys.length<=A.length)(p:Nat):(A.take k++ys++A.drop (k+ys.length))[p]?=if p<k then A[p]? else if p<k+ys.length then ys[p-k]? else A[p]?:=by
 have hk:(A.take k).length=k:=by rw[j5];omega
 have Pb:(A.take k++ys).length=k+ys.length:=by rw[b8,hk]
 split
 ·rw[p9 o_,p9 o_,l4];simp_all
 ·split
  ·rw[p9 o_,u3 o_,hk]
  ·rw[u3 o_,Pb,r9];congr 1;omega
theorem zX {T:TypeId}{x y:Operand}{ti:Of}{i:TypeInfo}{d:TypeDesc}(fit:ti.Fit P T i d)(ho:o.op= .store T x y)(Oz:x∈o.op.operands.toList)(RN:y∈o.op.operands.toList){ar:AR}{q:Id}{sz i' off:Nat}{rows:List (List DC)}{hole:Option (Nat×Nat×Id)}{row:List DC}
  (hy:ev y= .r ar) (hx:ev x= .el q sz i' off) (hq:H q=some (.dar sz rows hole)) (N1:ar.cells.length=ti.size) (OB:rows[i']?=some row) (hh:∀p,(p<i'*sz+off\/i'*sz+off+ti.size<=p)->cb sz hole p=none)
  (h:lf H ar.cells fun cs ids=>iI (q::ids)=true/\(match lay off cs row with
   | some row'=>K ⟨.unk,ids.map (fun r=>(r,none))++[(q,some (.dar sz (rows.set i' row') none))],none,q::ids⟩
   | none=>False)):∃e,K e/\Good P o ev H e:=by
 obtain⟨ds,ids,⟨Q0,h⟩,YT⟩:=uc _ _ h;rw[nodupI_iff]at Q0;obtain⟨Yb,Q0⟩:=E6.1 Q0;split at h
 rotate_left
 ·exact h.elim
 rename_i row' QM;refine⟨_,h,?_⟩;intro N B M w0 ρ s a w Q K hc N4 hR OQ hd hK;have Oy:s.H q=some (.dar sz rows hole):=by rw[hR q s_];exact hq
 obtain⟨hu,g⟩:=hc.dar Oy;have QV:=(hc.eval x).1;rw[N4 x Oz,hx]at QV;obtain⟨b',n,c,e1,e2,e3⟩:=QV;have Tz:=hc.eval y;rw[N4 y RN,hy]at Tz;have P9:=RR.cells Tz.1;obtain⟨Fn,f1,f2,f3,f4⟩:=YT hc (fun o ho=>hR o aae) Q0 _ P9;have OJ:(a.eval y).cells.size=ti.size:=by rw[<-N1,<-P9.length];simp
 obtain⟨l1,l2⟩:=jl QM;have Pl:row.length=sz:=hu row (b9 OB)
 have O3:i'<rows.length:=by
  rcases l9 i' rows.length with h'|h'
  ·exact h'
  ·rw[e9 h']at OB;cases OB
 rcases g with⟨g1,g2,_⟩|⟨b,cap,cur,e,fz,Fp,g1,g2,g3,g4,g5,g6,g7,g8,g9,g10⟩
 ·subst g2;simp at O3
 ·rw[g1]at e1;injection e1 with e1 XQ e1'';injection e1 with e1;injection e1 with e1;subst e1;have aaU:(a.eval y).cells.toList.length=ti.size:=by simpa using OJ
  have TK:(i'+1)*sz<=cap*sz:=l8 _ o_;have Xv:(i'+1)*sz=i'*sz+sz:=by rw[o8];omega
  have N9:=ou (w:=w) fit b (i'*sz+off) (a.eval y) OJ g2 g3 o_ P9.one;obtain⟨OM,c1,c2,c3⟩:=eX b e fz (a.eval y).cells.toList (i'*sz+off) w cur g2 (by simp[OJ];omega);have Rd:row'.length=sz:=by rw[l2];simp;omega
  have Pi:=lz l1 l2 rows i' hu OB;have UY:=aY sz rows hu;have Qs:(i'+1)*sz<=rows.length*sz:=l8 _ O3;have ab8:rows.length*sz<=cap*sz:=l8 _ g4;have aas:cur.toList.length=cap*sz:=by simpa using g6
  let Fq:Nat->Nat->Prop:=fun p c=>if p<i'*sz+off then Fp p c else if p<i'*sz+off+ds.length then Fn (p-(i'*sz+off)) c else Fp p c
  have hqo:Own ρ q b:= .inl aai
  have Fq_cases:∀p c,Fq p c->(Fp p c/\¬(i'*sz+off<=p/\p<i'*sz+off+ds.length))\/(Fn (p-(i'*sz+off)) c/\i'*sz+off<=p/\p<i'*sz+off+ds.length):=by
   intro p c So;simp only[Fq]at So;split at So
   ·exact .inl ⟨So,o_⟩
   ·split at So
    ·exact .inr ⟨So,o_,o_⟩
    ·exact .inl ⟨So,o_⟩
  have apart:∀p p' c,Fp p c->¬Fn p' c:=by intro p p' c h1 h2;obtain⟨⟨o,x1,k1,k2,k3⟩,_⟩:=f3 p' c h2;exact hc.sep o q x1 _ c k2 Oy (fun e=>Yb (e▸k1)) k3 (.inr (g7 p c h1).1)
  obtain⟨ρ',this⟩:=hc.upd Oy (x':= .dar sz (rows.set i' row') none) (b:=b) aai ids Yb (fun c=>∃p,Fn p c) (fun c P1=>by obtain⟨p,hp⟩:=P1;exact(f3 p c hp).1) (eW b _ (i'*sz+off) w) aaP (fun ρ' ok' hρ Sh hk QA hkF hkq=>by
   refine⟨fun r hr=>?_,.inr ⟨b,cap,OM,e,fz,Fq,by rw[hρ,g1,s7],c1,by rw[c2];exact g3,by rw[s7];exact g4,g5,by rw[c2];exact g6,fun p c So=>?_,fun p p' c Ow h1 h2=>?_,?_,fun p v d hv hd=>?_⟩⟩
   ·rcases v5 hr with h'|h'
    ·exact hu r h'
    ·rw[h'];exact Rd
   ·rcases Fq_cases p c So with⟨h1,_⟩|⟨h1,_⟩
    ·exact⟨Sh c (.inl (g7 p c h1).1),(g7 p c h1).2⟩
    ·exact⟨Sh c (.inr ⟨_,h1⟩),(hkF c ⟨_,h1⟩).2⟩
   ·rcases Fq_cases p c h1 with⟨h1,m1⟩|⟨h1,m1⟩<;>rcases Fq_cases p' c h2 with⟨h2,m2⟩|⟨h2,m2⟩
    ·exact g8 p p' c Ow h1 h2
    ·exact apart _ _ _ h1 h2
    ·exact apart _ _ _ h2 h1
    ·exact f4 _ _ c o_ h1 h2
   ·rw[s7,Pi,c3];simp only[b8,j5,t8];rw[<-f1];omega
   ·simp only[cb];rw[Pi,yi o_]at hd;rw[s7,l4,c3,yi o_,f1]at hv;split at hv
    rotate_left
    ·cases hv
    rename_i hp;by_cases q1:p<i'*sz+off
    ·rw[d5 q1]at hv hd;have:=g9.2 p v d (by rw[l4,d5 hp];exact hv) hd;rw[hh p (.inl q1)]at this;refine this.keep hk fun c N6=>⟨hkq c (g7 p c N6).1 (g7 p c N6).2,?_⟩;simp only[Fq,d5 q1];exact N6
    ·rw[c8 q1]at hv hd;by_cases q2:p<i'*sz+off+ds.length
     ·rw[d5 q2]at hv hd;refine(f2 _ v d hv hd).keep hk fun c N6=>⟨(hkF c ⟨_,N6⟩).1,?_⟩;simp only[Fq,c8 q1,d5 q2];exact N6
     ·rw[c8 q2]at hv hd;have:=g9.2 p v d (by rw[l4,d5 hp];exact hv) hd;rw[hh p (.inr o_)]at this;refine this.keep hk fun c N6=>⟨hkq c (g7 p c N6).1 (g7 p c N6).2,?_⟩
      simp only[Fq,c8 q1,c8 q2];exact N6) hd undef (q::ids)
  have O8:(execOp a.eval o).run P w= .ok .skip (w.setCells b (i'*sz+off) (a.eval y).cells.toList):=by exact V146
  unfold Oper.wp;rw[O8];exact hK _ _ ρ' this
theorem DZ {T:TypeId}{x y:Operand}{ti:Of}(hΓ:Γ.chk P=true)(hT:Γ.get T=some ti)(ho:o.op= .store T x y)(h:xH ti (ev x) (ev y) H K):∃e,K e/\Good P o ev H e:=by
 obtain⟨i,d,fit⟩:=Env.fit hΓ hT;have Oz:x∈o.op.operands.toList:=by simp[ho,Op.operands]
 have RN:y∈o.op.operands.toList:=by simp[ho,Op.operands]
 unfold xH at h;split at h
 ·rename_i ar hy;split at h
  ·rename_i N1;have N1:ar.cells.length=ti.size:=(by simpa using N1);split at h
   ·rename_i q off hx;split at h
    ·rename_i cells hq;split at h
     ·rename_i Rk QM;refine⟨_,h,?_⟩;intro N B M w0 ρ s a w Q K hc N4 hR OQ hd hK;have Oy:s.H q=some (.box cells):=(by rw[hR q s_];exact hq);obtain⟨b,us,t,fz,g1,g2,g3,g4,g5⟩:=hc.box Oy;have QV:=(hc.eval x).1;rw[N4 x Oz,hx]at QV;obtain⟨b',e1,e2⟩:=QV;rw[g1]at e1;injection e1 with e1;injection e1 with e1;injection e1 with e1;subst e1;have Tz:=hc.eval y;rw[N4 y RN,hy]at Tz;have P9:=RR.cells Tz.1;have OJ:(a.eval y).cells.size=ti.size:=(by rw[<-N1,<-P9.length];simp);obtain⟨l1,l2⟩:=jl QM;have P8:us.size=cells.length:=(by have:=g4.length;simpa using this);have N9:=ou (w:=w) fit b off (a.eval y) OJ g2 g3 o_ P9.one;obtain⟨OM,c1,c2,c3⟩:=eX b t fz (a.eval y).cells.toList off w us g2 (by simp[OJ];omega)
      obtain⟨ρ',this⟩:=hc.upd Oy (x':= .box Rk) (b:=b) aai [] s_ (fun _=>False) (fun _ h=>h.elim) (eW b _ off w) (Ma QM (fun id N8=>Tz.2 id (Nt id N8)) (hc.usedH q _ Oy).2) (fun ρ' ok' hρ _ hk _ _ _=>by
       refine⟨b,OM,t,fz,by rw[hρ];exact g1,c1,by rw[c2];exact g3,?_⟩;rw[c3,l2];have Zl:(a.eval y).cells.toList.length=ar.cells.length:=P9.length;rw[Zl]
       exact(((g4.take off).append P9).append (g4.drop _)).keep hk fun o _=>hρ o) hd undef [q]
      have O8:(execOp a.eval o).run P w= .ok .skip (w.setCells b off (a.eval y).cells.toList):=by simp only[execOp,ho,e2,m8,N9,i7,p7]
      unfold Oper.wp;rw[O8];exact hK _ _ ρ' this
     ·exact h.elim
    ·exact h.elim
   ·rename_i q OD i' off hx;split at h
    ·rename_i fr sz rows hq;split at h
     rotate_left
     ·exact h.elim
     rename_i ts fr' ids Qv;obtain⟨rfl,Yb,row,OB,h⟩:=h;split at h
     ·rename_i row' QM;refine⟨_,h,?_⟩;intro N B M w0 ρ s a w Q K hc N4 hR OQ hd hK;have Oy:s.H q=some (.arr fr sz rows):=(by rw[hR q s_];exact hq);obtain⟨hu,g⟩:=hc.arr Oy;have QV:=(hc.eval x).1;rw[N4 x Oz,hx]at QV;obtain⟨b',n,c,e1,e2,e3⟩:=QV;have Tz:=hc.eval y;rw[N4 y RN,hy]at Tz;have P9:=RR.cells Tz.1
      have Vr:∀ok':Nat->Prop,(∀c,okB ρ s.H w c->ok' c)->(∀o x c,o∈ids->s.H o=some x->Own ρ o c->ok' c)->RTs w (okF B ok' fr') (a.eval y).cells.toList ts:=
       fun ok' N7 hb=>nh hc N7 Qv (fun o ho=>hR o aae) P9 hb
      have Vy:ts.length=ti.size:=(by rw[<-(Vr (fun _=>True) (fun _ _=>trivial) (fun _ _ _ _ _ _=>trivial)).length,P9.length,N1]);have OJ:(a.eval y).cells.size=ti.size:=(by rw[<-N1,<-P9.length];simp);obtain⟨l1,l2⟩:=jl QM;have Pl:row.length=sz:=hu row (b9 OB)
      have O3:i'<rows.length:=by
       rcases l9 i' rows.length with h'|h'
       ·exact h'
       ·rw[e9 h']at OB;cases OB
      rcases g with⟨g1,g2⟩|⟨b,cap,cur,e,fz,g1,g2,g3,g4,g5,g6,g7,g8,g9⟩
      ·subst g2;simp at O3
      ·rw[g1]at e1;injection e1 with e1 XQ e1'';injection e1 with e1;injection e1 with e1;subst e1;have TK:(i'+1)*sz<=cap*sz:=l8 _ o_;have Xv:(i'+1)*sz=i'*sz+sz:=(by rw[o8];omega);have N9:=ou (w:=w) fit b (i'*sz+off) (a.eval y) OJ g2 g3 o_ P9.one;obtain⟨OM,c1,c2,c3⟩:=eX b e fz (a.eval y).cells.toList (i'*sz+off) w cur g2 (by simp[OJ];omega);have Rd:row'.length=sz:=(by rw[l2];simp;omega);have SY:(a.eval y).cells.toList.length=ts.length:=(Vr (fun _=>True) (fun _ _=>trivial) (fun _ _ _ _ _ _=>trivial)).length
       have Pi:(rows.set i' row').flatten=rows.flatten.take (i'*sz+off)++ts++rows.flatten.drop (i'*sz+off+ts.length):=by exact lz l1 l2 rows i' hu OB
       have UY:=aY sz rows hu;have Qs:(i'+1)*sz<=rows.length*sz:=l8 _ O3
       obtain⟨ρ',this⟩:=hc.upd Oy (x':= .arr (fr&&fr') sz (rows.set i' row')) (b:=b) aai ids Yb (fun _=>False) (fun _ h=>h.elim) (eW b _ (i'*sz+off) w) aaP (fun ρ' ok' hρ _ hk Yq _ _=>by
        have QA:=fun o x c h1 h2 h3=>Yq o x c h1 h2 h3 (fun h=>h);refine⟨fun r hr=>?_,.inr ⟨b,cap,OM,e,fz,by rw[hρ,g1,s7],c1,by rw[c2];exact g3,by rw[s7];exact g4,g5,by rw[c2];exact g6,?_,fun e=>g9 (by simp at e;exact e.1)⟩⟩
        ·rcases v5 hr with h'|h'
         ·exact hu r h'
         ·rw[h'];exact Rd
        ·rw[s7,Pi,c3,SY]
         have e1:(cur.toList.take (i'*sz+off)++(a.eval y).cells.toList++cur.toList.drop (i'*sz+off+ts.length)).take (rows.length*sz)=
           (cur.toList.take (rows.length*sz)).take (i'*sz+off)++(a.eval y).cells.toList++(cur.toList.take (rows.length*sz)).drop (i'*sz+off+ts.length):=by
          rw[E0,x6 o_]
          have SC:(cur.toList.take (i'*sz+off)++(a.eval y).cells.toList).length=i'*sz+off+ts.length:=by rw[b8,SY,j5];simp;omega
          rw[I0,gt (by rw[SC];omega),SC];congr 1;rw[F1]
         rw[e1]
         have SQ:∀c,okB ρ s.H w c\/(∃o x,o∈ids/\s.H o=some x/\Own ρ o c)->(w.setCells b (i'*sz+off) (a.eval y).cells.toList).heap[c]?=w.heap[c]?/\ok' c:=by
          rintro c (N6|⟨o,x,k1,k2,k3⟩)
          ·exact hk c N6
          ·exact QA o x c k1 k2 k3
         have UV:=(Vr (fun c=>okB ρ s.H w c\/(∃o x,o∈ids/\s.H o=some x/\Own ρ o c)) (fun c h=> .inl h) (fun o x c k1 k2 k3=> .inr ⟨o,x,k1,k2,k3⟩)).keep (jj (B:=B) SQ);have U7:=UV.keep (gY (B:=B) (ok:=ok') (w:=w.setCells b (i'*sz+off) (a.eval y).cells.toList) (fr':=fr&&fr') fun e=>by simp at e;exact e.2);have h71:=(g7.keep (jj (B:=B) hk)).keep (gY (B:=B) (ok:=ok') (w:=w.setCells b (i'*sz+off) (a.eval y).cells.toList) (fr':=fr&&fr') fun e=>by simp at e;exact e.1)
         exact((h71.take _).append U7).append (h71.drop _)) hd undef (q::ids)
       have O8:(execOp a.eval o).run P w= .ok .skip (w.setCells b (i'*sz+off) (a.eval y).cells.toList):=by exact V146
       unfold Oper.wp;rw[O8];exact hK _ _ ρ' this
     ·exact h.elim
    ·rename_i sz rows hq;obtain⟨rfl,row,OB,h⟩:=h;exact zX fit ho Oz RN hy hx hq N1 OB (fun _ _=>rfl) h
    ·rename_i sz rows i2 off2 n2 hq;obtain⟨rfl,rfl,rfl,h1,row,OB,h⟩:=h;refine zX fit ho Oz RN hy hx hq N1 OB (fun p hp=>?_) h;simp only[cb];rw[c8 o_]
    ·exact h.elim
   ·exact h.elim
  ·exact h.elim
 ·exact h.elim
end
end Go.Sim
