import Derived.Test.YtoglejgmjeojoaaGreatGb
namespace Go.Sim
open Go.RowKit
section
variable {P:Program} {Γ:Env} {N B:Nat} {M:Nat->Prop} {w0:Start} {ρ:Rho} {s:F_} {a:Act} {w:World} {o:Oper} {ev:Operand->AV} {H:Id->Option AO} {K:Eff->Prop}
theorem Hr (x y:List UInt8):((⟨x.toArray⟩:ByteArray)==⟨y.toArray⟩)=(x==y):=by
 cases h:(x==y)with
 | true=>
  have e:x=y:=by simpa using h
  subst e
  exact(Go.MapKept.bytes_beq _ _).2 rfl
 | false=>
  cases h2:((⟨x.toArray⟩:ByteArray)==⟨y.toArray⟩)with
  | false=>rfl
  | true=>have e:=(Go.MapKept.bytes_beq _ _).1 h2;injection e with e;have:x=y:=(by simpa using e);subst this;simp at h
theorem jQ {d:TypeDesc}{kk:Option IntKind}(hd:(∃k,d= .int k/\kk=some k)\/(d= .string/\kk=none)){x y:Tr}(hx:dn kk x)(hy:dn kk y):
  Instr.sameNow d (jK x) (jK y)=some (qC x y)/\Go.MapKept.IsKey d (jK x):=by
 rcases hd with⟨k,rfl,rfl⟩|⟨rfl,rfl⟩
 ·cases x<;>simp only[dn]at hx
  cases y<;>simp only[dn]at hy
  subst hx;subst hy;simp[jK,Instr.sameNow,qC,Go.MapKept.IsKey]
 ·cases x<;>simp only[dn]at hx
  cases y<;>simp only[dn]at hy
  refine⟨?_,trivial⟩;show some _=some _;rw[Hr];rfl
theorem xp {kk:Option IntKind}{x y:Tr}(hx:dn kk x)(hy:dn kk y)(h:qC x y=true):jK x=jK y:=by
 cases kk with
 | some k=>
  cases x<;>simp only[dn]at hx
  cases y<;>simp only[dn]at hy
  subst hx;subst hy;simp only[qC,w8]at h
  rw[h]
 | none=>
  cases x<;>simp only[dn]at hx
  cases y<;>simp only[dn]at hy
  simp only[qC,w8]at h;rw[h]
theorem qu {d:TypeDesc}{kk:Option IntKind}(hd:(∃k,d= .int k/\kk=some k)\/(d= .string/\kk=none)){key:Tr}(hk:dn kk key):∀(l:List MapEntry) (es:List (Tr×Int)) (i:Nat),l.map (fun e=>(e.key,e.val))=es.map Bi->(∀p∈es,dn kk p.1)->
  (Instr.findNow d (jK key) l i=some none/\jC es key=none/\(∀v,nZ es key v=es++[(key,v)])/\ov es key=es)\/
  ∃j e q n,Instr.findNow d (jK key) l i=some (some (i+j,.int .i64 n))/\l[j]?=some e/\e.key=jK key/\jC es key=some n/\es[j]?=some (q,n)/\jK q=jK key/\(∀v,nZ es key v=es.set j (q,v))/\ov es key=es.eraseIdx j
 | [],[],i,_,_=> .inl ⟨rfl,rfl,fun _=>rfl,rfl⟩
 | [],_::_,_,h,_=>by simp at h
 | _::_,[],_,h,_=>by simp at h
 | e::l,(q,n)::es,i,h,hf=>by
  simp only[p7,List.cons.injEq,Bi,Prod.mk.injEq]at h;obtain⟨⟨h1,h2⟩,h3⟩:=h;obtain⟨hs,_⟩:=jQ hd hk (hf (q,n) s_);have hq:=hf (q,n) s_
  cases hb:qC key q with
  | true=>
   rw[hb]at hs;refine .inr ⟨0,e,q,n,?_,rfl,?_,?_,rfl,(xp hk hq hb).symm,fun v=>?_,?_⟩
   ·simp only[Instr.findNow,h1,hs,h2,z4]
   ·rw[h1];exact(xp hk hq hb).symm
   ·simp[jC,vB,hb]
   ·simp[nZ,BA,hb]
   ·simp[ov,Bk,hb]
  | false=>
   rw[hb]at hs;rcases qu hd hk l es (i+1) h3 (fun p hp=>hf p (by simp[hp]))with⟨g1,g2,g3,g4⟩|⟨j,e',q',n',g1,g2,g3,g4,g5,g6,g7,g8⟩
   ·refine .inl ⟨?_,?_,fun v=>?_,?_⟩
    ·simp only[Instr.findNow,h1,hs,g1]
    ·have QR:=g2;unfold jC at QR;simp[jC,vB,hb,QR]
    ·have QW:=g3 v;unfold nZ at QW;simp[nZ,BA,hb,QW]
    ·have Sk:=g4;unfold ov at Sk;simp[ov,Bk,hb,Sk]
   ·refine .inr ⟨j+1,e',q',n',?_,by simpa using g2,g3,?_,by simpa using g5,g6,fun v=>?_,?_⟩
    ·simp only[Instr.findNow,h1,hs,g1];congr 3;omega
    ·have Sk:=g4;unfold jC at Sk;simp[jC,vB,hb,Sk]
    ·have Yb:=g7 v;unfold nZ at Yb;simp[nZ,BA,hb,Yb]
    ·have XN:=g8;unfold ov at XN;simp[ov,Bk,hb,XN]
theorem kp {α β:Type}(f:α->β):∀(l:List α) (j:Nat),(l.eraseIdx j).map f=(l.map f).eraseIdx j
 | [],_=>rfl
 | _::_,0=>rfl
 | x::l,j+1=>by simp[kp f l j]
theorem me (hΓ:Γ.chk P=true){T:TypeId}{kk:Option IntKind}(h:nP Γ T=some kk):∃kt et d i,P.underlying T=some (.map kt et)/\P.underlying kt=some d/\((∃k,d= .int k/\kk=some k)\/(d= .string/\kk=none))/\P.info? et=some i/\i.zero=some (.int .i64 0):=by
 unfold nP at h
 cases hT:Γ.get T with
 | none=>rw[hT]at h;cases h
 | some ti=>
  rw[hT]at h;dsimp only at h;obtain⟨ii,d,fit⟩:=Env.fit hΓ hT;have hm:=fit.map;rw[h]at hm
  cases d<;>simp only[GH]at hm<;>try(cases hm;done)
  rename_i kt et;split at hm
  ·rename_i i hi;split at hm
   ·rename_i n hz;split at hm
    ·rename_i k h1 h2;injection hm with hm;have:n=0:=f0 h1;subst this;exact⟨kt,et,_,i,fit.und,h2,.inl ⟨k,rfl,hm.symm⟩,hi,hz⟩
    ·rename_i h1 h2;injection hm with hm;have:n=0:=f0 h1;subst this;exact⟨kt,et,_,i,fit.und,h2,.inr ⟨rfl,hm.symm⟩,hi,hz⟩
    ·cases hm
   ·cases hm
  ·cases hm
theorem Conc.mp (hc:Conc N B M w0 ρ s a w){q:Id}{kk:Option IntKind}{es:List (Tr×Int)}(h:s.H q=some (.mp kk es)):∃b ents clock,ρ q= .map (some b)/\w.heap[b]?=some (.map ents clock)/\ents.toList.map (fun e=>(e.key,e.val))=es.map Bi/\∀p∈es,dn kk p.1:=hc.obj q _ h
theorem Turn.setBlock (w:World)(b:Nat){ents:Array MapEntry}{clock:Nat}(hb:w.heap[b]?=some (.map ents clock))(x:Obj):Turn (fun k=>k=b) w (Go.ChangeMaps.setBlock w b x):=
 ⟨rfl,rfl,rfl,by simp[Go.ChangeMaps.setBlock],fun k _ hk=>Go.ChangeMaps.heap_setBlock_other hb x hk⟩
theorem yK {ok:Nat->Prop}{v:Value}{x:Tr}{kk:Option IntKind}(hk:dn kk x)(h:RT w ok v x):v=jK x:=by
 cases x with
 | lst=>cases kk<;>exact hk.elim
 | bool=>cases kk<;>exact hk.elim
 | int k n=>cases h;rfl
 | str b=>cases h;rfl
theorem wU {T:TypeId}{d:Nat}{kk:Option IntKind}(MU:o.dst=some d)(ho:o.op= .makeMap T none):
  Good P o ev H ⟨.r (.c (.mpv (d,0,0))),[((d,0,0),some (.mp kk []))],some d,[]⟩:=by
 intro N B M w0 ρ s a w Q K hc Mx hR hn hd hK;rw[MU]at hd hK
 obtain⟨ρ',h'⟩:=hc.make (hd d rfl) (hn d rfl) (D:=fun _=>False) [] (Turn.alloc _ _ (.map #[] 0)) (v:= .map (some w.heap.size)) (vv:= .map (some w.heap.size)) (x:= .mp kk []) (av:= .r (.c (.mpv (d,0,0)))) (R:=[]) (fun _=>False) (fun _ h=>h.elim) (fun b hb=>by
   injection hb with hb;subst hb;exact⟨s_,.inl (d8 _)⟩) (fun _ h=>h.elim) aaL (fun id MD=>by
   simp[AV.ids,AR.ids,AC.ids]at MD;left;rw[MD]) (fun ρ' ok' hk _ hρ hq _=>⟨⟨w.heap.size,#[],0,hq,kP w _,rfl,s_⟩,⟨_,hq⟩,hq.symm⟩)
 have ME:(execOp a.eval o).run P w= .ok (.value (.map (some w.heap.size))) (w.alloc (.map #[] 0)):=by simp[execOp,ho,Instr.makeMap]
 exact V112
theorem yI {T:TypeId}{x k:Operand}{c:Bool}(hΓ:Γ.chk P=true)(ho:o.op= .lookup T x k c)(h:si Γ T (ev x) (ev k) c H K):∃e,K e/\Good P o ev H e:=by
 have MG:x∈o.op.operands.toList:=by simp[ho,Op.operands]
 have Qt:k∈o.op.operands.toList:=by simp[ho,Op.operands]
 unfold si at h;split at h
 ·rename_i q key hx Su;split at h
  ·rename_i kk es hq;obtain⟨hm,hf,h⟩:=h;obtain⟨kt,et,d,i,u1,u2,hd,hi,hz⟩:=me hΓ hm
   have base:∀(N B:Nat) (M:Nat->Prop) (w0:Start) (ρ:Rho) (s:F_) (a:Act) (w:World),Conc N B M w0 ρ s a w->(∀x∈o.op.operands.toList,evL s.L x=ev x)->s.H q=H q->
     (Instr.lookup T (a.eval x) (a.eval k) c).run P w= .ok (if c then .tuple #[.int .i64 (uL (jC es key)),.bool (jC es key).isSome]else .int .i64 (uL (jC es key))) w:=by
    intro N B M w0 ρ s a w hc Mx hR;obtain⟨b,ents,clock,g1,g2,g3,g4⟩:=hc.mp (hR.trans hq);have OK:=(hc.eval x).1;rw[Mx x MG,hx]at OK;have X1:=(hc.eval k).1;rw[Mx k Qt,Su]at X1;have ex:a.eval x= .map (some b):=(by rw[<-g1];exact OK.2);have ek:a.eval k=jK key:=yK hf X1;have OC:=(jQ hd hf hf).2;rw[ex,ek];have T5:=fv (w:=w) hi hz;rcases qu hd hf ents.toList es 0 g3 g4 with⟨f1,f2,_,_⟩|⟨j,e,q',n,f1,_,_,f4,_⟩
    ·rw[f2]
     cases c<;>simp[Instr.lookup,run_underlying u1,Go.MapKept.run_getObj_map g2,Go.MapKept.run_checkKey u2 OC,Go.MapKept.run_findKey u2 f1,T5,Result.andThen,uL]
    ·rw[f4]
     cases c<;>simp[Instr.lookup,run_underlying u1,Go.MapKept.run_getObj_map g2,Go.MapKept.run_checkKey u2 OC,Go.MapKept.run_findKey u2 f1,Result.andThen,uL]
   cases c with
   | true=>
    refine⟨_,h,aD fun N B M w0 ρ s a w hc Mx hR=>?_⟩;have:=base N B M w0 ρ s a w hc Mx (hR q s_)
    exact⟨_,by simp only[execOp,ho,m8,this,i9,o9];rfl,⟨#[.int .i64 (uL (jC es key)),.bool (jC es key).isSome],rfl,(show RRs _ _ _ _ [_,_] [_,_] from⟨RT.int _ _,RT.bool _,trivial⟩)⟩,by simp[AV.ids,AR.ids,AC.ids]⟩
   | false=>refine⟨_,h,aD fun N B M w0 ρ s a w hc Mx hR=>?_⟩;have:=base N B M w0 ρ s a w hc Mx (hR q s_);exact⟨_,by simp only[execOp,ho,m8,this,i9,o9];rfl,RT.int _ _,by simp[AV.ids,AR.ids,AC.ids]⟩
  ·exact h.elim
 ·exact h.elim
theorem zA {T:TypeId}{x k v:Operand}(hΓ:Γ.chk P=true)(ho:o.op= .mapUpdate T x k v\/o.op= .insert T x k v)(h:rE Γ T (ev x) (ev k) (ev v) H K):∃e,K e/\Good P o ev H e:=by
 have MG:x∈o.op.operands.toList:=by rcases ho with ho|ho<;>simp[ho,Op.operands]
 have Qt:k∈o.op.operands.toList:=by rcases ho with ho|ho<;>simp[ho,Op.operands]
 have VS:v∈o.op.operands.toList:=by rcases ho with ho|ho<;>simp[ho,Op.operands]
 unfold rE at h;split at h
 ·rename_i q key n hx Su OK;split at h
  ·rename_i kk es hq;obtain⟨hm,hf,h⟩:=h;obtain⟨kt,et,d,i,u1,u2,hd,hi,hz⟩:=me hΓ hm;refine⟨_,h,?_⟩;intro N B M w0 ρ s a w Q K hc Mx hR MQ Rx hK;have MH:s.H q=some (.mp kk es):=(by rw[hR q s_];exact hq);obtain⟨b,ents,clock,g1,g2,g3,g4⟩:=hc.mp MH;have e1:=(hc.eval x).1;rw[Mx x MG,hx]at e1;have e2:=(hc.eval k).1;rw[Mx k Qt,Su]at e2;have e3:=(hc.eval v).1;rw[Mx v VS,OK]at e3;have ex:a.eval x= .map (some b):=(by rw[<-g1];exact e1.2);have ek:a.eval k=jK key:=yK hf e2;have evv:a.eval v= .int .i64 n:=cC e3;have OC:=(jQ hd hf hf).2
   have fin:∀(Nm:Array MapEntry) (N6:Nat) (NY:List (Tr×Int)),(Instr.mapUpdate T (.map (some b)) (jK key) (.int .i64 n)).run P w= .ok () (Go.ChangeMaps.setBlock w b (.map Nm N6))->Nm.toList.map (fun e=>(e.key,e.val))=NY.map Bi->(∀p∈NY,dn kk p.1)->NY=nZ es key n->o.wp P a w K Q:=by
    intro Nm N6 NY ME k1 k2 k3;subst k3;obtain⟨ρ',this⟩:=hc.upd MH (x':= .mp kk (nZ es key n)) (b:=b) aah [] s_ (fun _=>False) (fun _ h=>h.elim) (Turn.setBlock w b g2 (.map Nm N6)) aaL (fun ρ' ok' hρ _ hk _ _ _=>⟨b,Nm,N6,by rw[hρ];exact g1,Go.ChangeMaps.heap_setBlock_same g2 _,k1,k2⟩) Rx undef [q]
    have Nb:(execOp a.eval o).run P w= .ok .skip (Go.ChangeMaps.setBlock w b (.map Nm N6)):=by rcases ho with ho|ho<;>simp only[execOp,ho,ex,ek,evv,m8,ME,i9,o9]
    unfold Oper.wp;rw[Nb];exact hK _ _ ρ' this
   rcases qu hd hf ents.toList es 0 g3 g4 with⟨f1,f2,f3,_⟩|⟨j,e,q',n',f1,f2,f3,f4,f5,f6,f7,_⟩
   ·refine fin (ents.push {key:=jK key,val:= .int .i64 n,born:=clock}) (clock+1) (es++[(key,n)]) ?_ ?_ ?_ (f3 n).symm
    ·simp[Instr.mapUpdate,run_underlying u1,Go.MapKept.run_getObj_map g2,Go.MapKept.run_checkKey u2 OC,Go.MapKept.run_findKey u2 f1,Go.MapKept.run_setObj_map _ g2,Result.andThen,Go.ChangeMaps.setBlock]
    ·simp[g3,Bi]
    ·intro p hp;rcases d9.1 hp with hp|hp
     ·exact g4 p hp
     ·rw[t7.1 hp];exact hf
   ·have Sh:ents[j]?=some e:=(by simpa using f2);refine fin (ents.modify j fun e=>{e with key:=jK key,val:= .int .i64 n}) clock (es.set j (q',n)) ?_ ?_ ?_ (f7 n).symm
    ·have Qe:(((ents[j]?).map (·.key)).getD (jK key))=jK key:=(by rw[Sh];simpa using f3);simp[Instr.mapUpdate,run_underlying u1,Go.MapKept.run_getObj_map g2,Go.MapKept.run_checkKey u2 OC,Go.MapKept.run_findKey u2 f1,Qe,Go.MapKept.run_keyThatStays OC,Go.MapKept.run_setObj_map _ g2,Result.andThen,Go.ChangeMaps.setBlock]
    ·apply List.ext_getElem?
     intro m;have gm:=congrArg (·[m]?) g3;simp only[p6,Array.getElem?_toList,Array.getElem?_modify,List.getElem?_set]at gm⊢;by_cases XQ:j=m
     ·subst XQ;have Mz:j<es.length:=(by rcases m7 j es.length with h|h;exact h;rw[e9 h]at f5;cases f5);simp[Sh,Mz,Bi,f6]
     ·simp[XQ]at gm⊢;exact gm
    ·intro p hp;rcases u6 hp with hp|rfl
     ·exact g4 p hp
     ·exact g4 (q',n') (c9 f5)
  ·exact h.elim
 ·exact h.elim
theorem V50{p:Prop}(h:p:=by
 simp[Builtin.delete_,run_underlying u1,Go.MapKept.run_getObj_map g2,Go.MapKept.run_checkKey u2 OC,Go.MapKept.run_findKey u2 f1,Go.MapKept.run_setObj_map _ g2,Result.andThen,Go.ChangeMaps.setBlock]):p:=h
theorem zB {T T2:TypeId}{x k:Operand}(hΓ:Γ.chk P=true)(ho:o.op= .call {callee:= .builtin .delete,args:=⟨[x,k]⟩,argTypes:=⟨[T,T2]⟩})(h:se Γ T (ev x) (ev k) H K):∃e,K e/\Good P o ev H e:=by
 have MG:x∈o.op.operands.toList:=by simp[ho,Op.operands,Call.operands]
 have Qt:k∈o.op.operands.toList:=by simp[ho,Op.operands,Call.operands]
 unfold se at h;split at h
 ·rename_i q key hx Su;split at h
  ·rename_i kk es hq;obtain⟨hm,hf,h⟩:=h;obtain⟨kt,et,d,i,u1,u2,hd,hi,hz⟩:=me hΓ hm;refine⟨_,h,?_⟩;intro N B M w0 ρ s a w Q K hc Mx hR MQ Rx hK;have MH:s.H q=some (.mp kk es):=(by rw[hR q s_];exact hq);obtain⟨b,ents,clock,g1,g2,g3,g4⟩:=hc.mp MH;have e1:=(hc.eval x).1;rw[Mx x MG,hx]at e1;have e2:=(hc.eval k).1;rw[Mx k Qt,Su]at e2;have ex:a.eval x= .map (some b):=(by rw[<-g1];exact e1.2);have ek:a.eval k=jK key:=yK hf e2;have OC:=(jQ hd hf hf).2
   have fin:∀(Nm:Array MapEntry) (NY:List (Tr×Int)),(Builtin.delete_ #[T,T2] o.type #[.map (some b),jK key]).run P w= .ok (.tuple #[]) (Go.ChangeMaps.setBlock w b (.map Nm clock))->Nm.toList.map (fun e=>(e.key,e.val))=NY.map Bi->(∀p∈NY,dn kk p.1)->NY=ov es key->o.wp P a w K Q:=by
    intro Nm NY ME k1 k2 k3;subst k3;obtain⟨ρ',this⟩:=hc.upd MH (x':= .mp kk (ov es key)) (b:=b) aah [] s_ (fun _=>False) (fun _ h=>h.elim) (Turn.setBlock w b g2 (.map Nm clock)) aaL (fun ρ' ok' hρ _ hk _ _ _=>⟨b,Nm,clock,by rw[hρ];exact g1,Go.ChangeMaps.heap_setBlock_same g2 _,k1,k2⟩) Rx (.tuple #[]) [q]
    have Nb:(execOp a.eval o).run P w= .ok (.value (.tuple #[])) (Go.ChangeMaps.setBlock w b (.map Nm clock)):=by simp only[execOp,ho,resolve,invoke,builtin,List.map_toArray,p7,C5,ex,ek,m8,o9,ME,i9]
    unfold Oper.wp;rw[Nb];exact hK _ _ ρ' this
   rcases qu hd hf ents.toList es 0 g3 g4 with⟨f1,f2,f3,f4⟩|⟨j,e,q',n',f1,f2,f3,_,f5,f6,_,f8⟩
   ·refine fin ents es ?_ g3 g4 f4.symm;exact V50
   ·refine fin (ents.eraseIdxIfInBounds j) (es.eraseIdx j) ?_ ?_ ?_ f8.symm
    ·exact V50
    ·have Mz:j<ents.size:=by
      rcases m7 j ents.size with h|h
      ·exact h
      ·have:ents.toList[j]?=none:=(by rw[e9];simpa using h);rw[this]at f2;cases f2
     rw[Array.eraseIdxIfInBounds,dif_pos Mz,Array.toList_eraseIdx,kp,g3,<-kp]
    ·exact fun p hp=>g4 p (List.mem_of_mem_eraseIdx hp)
  ·exact h.elim
 ·exact h.elim
end
section
variable {P:Program} {Γ:Env} {N B:Nat} {M:Nat->Prop} {w0:Start} {ρ ρ':Rho} {s:F_} {a:Act} {w w':World} {o:Oper} {ev:Operand->AV} {H:Id->Option AO} {K:Eff->Prop}
def ext (θ θ':List (Id×Id)):Prop:=∀q o,lkI θ q=some o->lkI θ' q=some o
theorem ext.refl (θ:List (Id×Id)):ext θ θ:=fun _ _ h=>h
theorem ext.trans {θ θ' θ'':List (Id×Id)}(h:ext θ θ')(h':ext θ' θ''):ext θ θ'':=fun q o hq=>h' q o (h q o hq)
theorem zq {α:Type}(x y:Id)(A C:α):(bif fj x y then A else C)=if x=y then A else C:=by
 cases hb:fj x y with
 | true=>rw[idEq_iff]at hb;simp[hb]
 | false=>
  have:¬x=y:=fun e=>by rw[idEq_iff.2 e]at hb;cases hb
  simp[this]
theorem ut (i x:Id)(θ:List (Id×Id))(o:Id):lkI ((i,x)::θ) o=if o=i then some x else lkI θ o:=by rw[lkI,zq]
theorem ph {θ:List (Id×Id)}{q o:Id}{K:List (Id×Id)->Prop}(h:BS θ q o K):∃θ',K θ'/\ext θ θ'/\lkI θ' q=some o:=by
 unfold BS at h;split at h
 ·rename_i o' hq;obtain⟨h1,h2⟩:=h;rw[idEq_iff]at h1;exact⟨θ,h2,ext.refl _,by rw[h1];exact hq⟩
 ·rename_i hq;refine⟨_,h,fun q' o' h'=>?_,by rw[ut,c7 rfl]⟩;rw[ut];split
  ·rename_i e;subst e;rw[hq]at h';cases h'
  ·exact h'
def relC (H:Id->Option AO)(θ:List (Id×Id))(bw:List Id)(x y:AC):Prop:=
 (∃o q,x= .own o/\y= .own q/\lkI θ q=some o)\/(∃o q n,x= .ptr o n/\y= .ptr q n/\lkI θ q=some o)\/(x= .nilp/\y= .nilp)\/(∃n m,x= .nils n/\y= .nils m)\/(∃o q,x= .mpv o/\y= .mpv q/\lkI θ q=some o)\/
  y= .opq\/∃t,y= .t t/\cu H x t/\∀o∈x.ids,o∈bw
theorem relC.mono {θ θ':List (Id×Id)}{bw Ns:List Id}{x y:AC}(h:relC H θ bw x y)(h1:ext θ θ')(h2:∀o∈bw,o∈Ns):relC H θ' Ns x y:=by
 rcases h with⟨o,q,rfl,rfl,h⟩|⟨o,q,n,rfl,rfl,h⟩|⟨rfl,rfl⟩|⟨n,m,rfl,rfl⟩|⟨o,q,rfl,rfl,h⟩|rfl|⟨t,rfl,h3,h4⟩
 ·exact .inl ⟨o,q,rfl,rfl,h1 _ _ h⟩
 ·exact .inr (.inl ⟨o,q,n,rfl,rfl,h1 _ _ h⟩)
 ·exact .inr (.inr (.inl ⟨rfl,rfl⟩))
 ·exact .inr (.inr (.inr (.inl ⟨n,m,rfl,rfl⟩)))
 ·exact .inr (.inr (.inr (.inr (.inl ⟨o,q,rfl,rfl,h1 _ _ h⟩))))
 ·exact .inr (.inr (.inr (.inr (.inr (.inl rfl)))))
 ·exact .inr (.inr (.inr (.inr (.inr (.inr ⟨t,rfl,h3,fun o ho=>h2 o (h4 o ho)⟩)))))
theorem V70{p:Prop}(h:p:=by
 exact⟨θ,_,h.2,ext.refl _,fun o ho=>z9 _ ho,.inr (.inr (.inr (.inr (.inr (.inr ⟨_,rfl,h.1,fun o ho=>by simp[AC.ids]at ho;simp[ho]⟩)))))⟩):p:=h
theorem Ay {θ:List (Id×Id)}{bw:List Id}{x y:AC}{K:List (Id×Id)->List Id->Prop}(h:maC H θ bw x y K):∃θ' Ns,K θ' Ns/\ext θ θ'/\(∀o∈bw,o∈Ns)/\relC H θ' Ns x y:=by
 unfold maC at h;split at h
 ·obtain⟨θ',h1,h2,h3⟩:=ph h;exact⟨θ',bw,h1,h2,fun _ h=>h,.inl ⟨_,_,rfl,rfl,h3⟩⟩
 ·obtain⟨rfl,h⟩:=h;obtain⟨θ',h1,h2,h3⟩:=ph h;exact⟨θ',bw,h1,h2,fun _ h=>h,.inr (.inl ⟨_,_,_,rfl,rfl,h3⟩)⟩
 ·exact⟨θ,bw,h,ext.refl _,fun _ h=>h,.inr (.inr (.inl ⟨rfl,rfl⟩))⟩
 ·obtain⟨θ',h1,h2,h3⟩:=ph h;exact⟨θ',bw,h1,h2,fun _ h=>h,.inr (.inr (.inr (.inr (.inl ⟨_,_,rfl,rfl,h3⟩))))⟩
 ·exact⟨θ,bw,h,ext.refl _,fun _ h=>h,.inr (.inr (.inr (.inl ⟨_,_,rfl,rfl⟩)))⟩
 ·exact V70
 ·exact V70
 ·rename_i h1 h2;refine⟨θ,_,h.2,ext.refl _,fun _ h=>h,.inr (.inr (.inr (.inr (.inr (.inr ⟨_,rfl,h.1,fun o ho=>?_⟩)))))⟩;have ht:=h.1
  cases x with|own o=>exact absurd rfl (h1 o)|sub o k=>exact absurd rfl (h2 o k)|ptr o k=>exact ht.elim|t x=>simp[AC.ids]at ho|f x=>simp[AC.ids]at ho|nils n=>simp[AC.ids]at ho|nilp=>simp[AC.ids]at ho|opq=>simp[AC.ids]at ho|mpv o=>exact ht.elim
 ·exact⟨θ,bw,h,ext.refl _,fun _ h=>h,.inr (.inr (.inr (.inr (.inr (.inl rfl)))))⟩
 ·exact h.elim
def relCs (H:Id->Option AO)(θ:List (Id×Id))(bw:List Id):List AC->List AC->Prop
 | [],[]=>True
 | x::xs,y::ys=>relC H θ bw x y/\relCs H θ bw xs ys
 | _,_=>False
theorem relCs.mono {θ θ':List (Id×Id)}{bw Ns:List Id}:∀{xs ys:List AC},relCs H θ bw xs ys->ext θ θ'->(∀o∈bw,o∈Ns)->relCs H θ' Ns xs ys
 | [],[],_,_,_=>trivial
 | _::_,_::_,h,h1,h2=>⟨h.1.mono h1 h2,relCs.mono h.2 h1 h2⟩
 | [],_::_,h,_,_=>h.elim
 | _::_,[],h,_,_=>h.elim
theorem rF:∀{xs ys:List AC} {θ:List (Id×Id)} {bw:List Id} {K:List (Id×Id)->List Id->Prop},IF H θ bw xs ys K->∃θ' Ns,K θ' Ns/\ext θ θ'/\(∀o∈bw,o∈Ns)/\relCs H θ' Ns xs ys
 | [],[],_,_,_,h=>⟨_,_,h,ext.refl _,fun _ h=>h,trivial⟩
 | x::xs,y::ys,_,_,_,h=>by
  obtain⟨θ1,bw1,h1,h2,h3,h4⟩:=Ay h;obtain⟨θ2,bw2,h5,h6,h7,h8⟩:=rF h1
  exact⟨θ2,bw2,h5,h2.trans h6,fun o ho=>h7 o (h3 o ho),h4.mono h6 h7,h8⟩
 | [],_::_,_,_,_,h=>h.elim
 | _::_,[],_,_,_,h=>h.elim
def relV (H:Id->Option AO)(θ:List (Id×Id))(bw:List Id):AV->AV->Prop
 | .r (.c x),.r (.c y)=>relC H θ bw x y
 | .r (.agg xs),.r (.agg ys)=>relCs H θ bw xs ys
 | _,_=>False
theorem relV.mono {θ θ':List (Id×Id)}{bw Ns:List Id}{x y:AV}(h:relV H θ bw x y)(h1:ext θ θ')(h2:∀o∈bw,o∈Ns):relV H θ' Ns x y:=by
 unfold relV at h⊢;split at h
 ·exact relC.mono h h1 h2
 ·exact relCs.mono h h1 h2
 ·exact h.elim
theorem Hf {θ:List (Id×Id)}{bw:List Id}{x y:AV}{K:List (Id×Id)->List Id->Prop}(h:maV H θ bw x y K):∃θ' Ns,K θ' Ns/\ext θ θ'/\(∀o∈bw,o∈Ns)/\relV H θ' Ns x y:=by
 unfold maV at h;split at h
 ·exact Ay h
 ·exact rF h
 ·exact h.elim
def relVs (H:Id->Option AO)(θ:List (Id×Id))(bw:List Id):List AV->List AV->Prop
 | [],[]=>True
 | x::xs,y::ys=>relV H θ bw x y/\relVs H θ bw xs ys
 | _,_=>False
theorem relVs.mono {θ θ':List (Id×Id)}{bw Ns:List Id}:∀{xs ys:List AV},relVs H θ bw xs ys->ext θ θ'->(∀o∈bw,o∈Ns)->relVs H θ' Ns xs ys
 | [],[],_,_,_=>trivial
 | _::_,_::_,h,h1,h2=>⟨h.1.mono h1 h2,relVs.mono h.2 h1 h2⟩
 | [],_::_,h,_,_=>h.elim
 | _::_,[],h,_,_=>h.elim
theorem xM:∀{xs ys:List AV} {θ:List (Id×Id)} {bw:List Id} {K:List (Id×Id)->List Id->Prop},Hh H θ bw xs ys K->∃θ' Ns,K θ' Ns/\ext θ θ'/\(∀o∈bw,o∈Ns)/\relVs H θ' Ns xs ys
 | [],[],_,_,_,h=>⟨_,_,h,ext.refl _,fun _ h=>h,trivial⟩
 | x::xs,y::ys,_,_,_,h=>by
  obtain⟨θ1,bw1,h1,h2,h3,h4⟩:=Hf h;obtain⟨θ2,bw2,h5,h6,h7,h8⟩:=xM h1
  exact⟨θ2,bw2,h5,h2.trans h6,fun o ho=>h7 o (h3 o ho),h4.mono h6 h7,h8⟩
 | [],_::_,_,_,_,h=>h.elim
 | _::_,[],_,_,_,h=>h.elim
def relO (H:Id->Option AO)(θ:List (Id×Id))(bw:List Id)(x y:AO):Prop:=
 (∃cs ds,x= .box cs/\y= .box ds/\relCs H θ bw cs ds)\/(∃fr sz rows,x= .arr fr sz rows/\y= .arr false sz rows)\/(∃sz rows,x= .dar sz rows none/\y= .dar sz rows none)\/∃kk es,x= .mp kk es/\y= .mp kk es
theorem relO.mono {θ θ':List (Id×Id)}{bw Ns:List Id}{x y:AO}(h:relO H θ bw x y)(h1:ext θ θ')(h2:∀o∈bw,o∈Ns):relO H θ' Ns x y:=by
 rcases h with⟨cs,ds,rfl,rfl,h⟩|h|h
 ·exact .inl ⟨cs,ds,rfl,rfl,h.mono h1 h2⟩
 ·exact .inr (.inl h)
 ·exact .inr (.inr h)
theorem Af:∀{l:List (Id×AO)} {θ:List (Id×Id)} {bw:List Id} {K:List (Id×Id)->List Id->Prop},maO H θ bw l K->∃θ' Ns,K θ' Ns/\ext θ θ'/\(∀o∈bw,o∈Ns)/\∀p∈l,∃o x,lkI θ' p.1=some o/\H o=some x/\relO H θ' Ns x p.2
 | [],_,_,_,h=>⟨_,_,h,ext.refl _,fun _ h=>h,s_⟩
 |(q,y)::l,θ,bw,K,h=>by
  simp only[maO]at h;split at h
  ·rename_i o hq
   have one:∀{θ1:List (Id×Id)} {bw1:List Id} {x:AO},maO H θ1 bw1 l K->ext θ θ1->(∀o∈bw,o∈bw1)->H o=some x->relO H θ1 bw1 x y->
     ∃θ' Ns,K θ' Ns/\ext θ θ'/\(∀o∈bw,o∈Ns)/\∀p∈(q,y)::l,∃o x,lkI θ' p.1=some o/\H o=some x/\relO H θ' Ns x p.2:=by
    intro θ1 bw1 x h1 h2 h3 h4 h5;obtain⟨θ2,bw2,k1,k2,k3,k4⟩:=Af h1;refine⟨θ2,bw2,k1,h2.trans k2,fun o ho=>k3 o (h3 o ho),fun p hp=>?_⟩;rcases d6.1 hp with rfl|hp
    ·exact⟨o,x,k2 _ _ (h2 _ _ hq),h4,h5.mono k2 k3⟩
    ·exact k4 p hp
   split at h
   ·rename_i cs hx;split at h
    ·rename_i ds;obtain⟨θ1,bw1,h1,h2,h3,h4⟩:=rF h;exact one h1 h2 h3 hx (.inl ⟨cs,ds,rfl,rfl,h4⟩)
    ·exact h.elim
   ·rename_i fr sz rows hx;split at h
    ·rename_i fr' MS rows';obtain⟨rfl,rfl,rfl,h⟩:=h;exact one h (ext.refl _) (fun _ h=>h) hx (.inr (.inl ⟨fr,_,_,rfl,rfl⟩))
    ·exact h.elim
   ·rename_i sz rows hx;split at h
    ·obtain⟨rfl,rfl,h⟩:=h;exact one h (ext.refl _) (fun _ h=>h) hx (.inr (.inr (.inl ⟨_,_,rfl,rfl⟩)))
    ·exact h.elim
   ·rename_i kk es hx;split at h
    ·obtain⟨rfl,rfl,h⟩:=h;exact one h (ext.refl _) (fun _ h=>h) hx (.inr (.inr (.inr ⟨_,_,rfl,rfl⟩)))
    ·exact h.elim
   ·exact h.elim
  ·exact h.elim
theorem ig {l:List (Id×AO)}{q:Id}{y:AO}(h:lkH l q=some y):(q,y)∈l:=by
 induction l with
 | nil=>cases h
 | cons p l ih=>
  obtain⟨i,x⟩:=p;rw[lkH,zq]at h;split at h
  ·rename_i e;injection h with h;subst e;subst h;simp
  ·exact z9 _ (ih h)
theorem vL {l:List (Id×AO)}(hn:(l.map (·.1)).Nodup){q:Id}{y:AO}(h:(q,y)∈l):lkH l q=some y:=by
 induction l with
 | nil=>cases h
 | cons p l ih=>
  obtain⟨i,x⟩:=p;rw[lkH,zq];simp only[p7,F0]at hn;rcases d6.1 h with h|h
  ·injection h with h1 h2;subst h1;subst h2;simp
  ·have:q≠i:=fun e=>hn.1 (by rw[<-e];exact n7.2 ⟨_,h,rfl⟩);rw[b8 this];exact ih hn.2 h
theorem Cm {l:List (Id×AO)}{q:Id}(h:q∈l.map (·.1)):(lkH l q).isSome=true:=by
 induction l with
 | nil=>cases h
 | cons p l ih=>
  obtain⟨i,x⟩:=p;rw[lkH,zq];split
  ·rfl
  ·rename_i MF;simp only[p7,d6]at h;exact ih (h.resolve_left MF)
theorem ik {θ:List (Id×Id)}{q o:Id}(h:lkI θ q=some o):(q,o)∈θ:=by
 induction θ with
 | nil=>cases h
 | cons p l ih=>
  obtain⟨i,x⟩:=p;rw[ut]at h;split at h
  ·rename_i e;injection h with h;subst e;subst h;simp
  ·exact z9 _ (ih h)
theorem Ft {θ:List (Id×Id)}(hn:(θ.map (·.2)).Nodup){q q' o:Id}(h:(q,o)∈θ)(h':(q',o)∈θ):q=q':=by
 induction θ with
 | nil=>cases h
 | cons p l ih=>
  simp only[p7,F0]at hn;rcases d6.1 h with e|h1
  ·rcases d6.1 h' with e'|To
   ·rw[<-e]at e';injection e' with e';exact e'.symm
   ·exact absurd (n7.2 ⟨_,To,by rw[<-e]⟩) hn.1
  ·rcases d6.1 h' with e'|To
   ·exact absurd (n7.2 ⟨_,h1,by rw[<-e']⟩) hn.1
   ·exact ih hn.2 h1 To
theorem relC.congr {H':Id->Option AO}{θ:List (Id×Id)}{bw:List Id}{x y:AC}(hH:∀o∈bw,H' o=H o)(h:relC H θ bw x y):relC H' θ bw x y:=by
 rcases h with h|h|h|h|h|rfl|⟨t,rfl,h3,h4⟩
 ·exact .inl h
 ·exact .inr (.inl h)
 ·exact .inr (.inr (.inl h))
 ·exact .inr (.inr (.inr (.inl h)))
 ·exact .inr (.inr (.inr (.inr (.inl h))))
 ·exact .inr (.inr (.inr (.inr (.inr (.inl rfl)))))
 ·exact .inr (.inr (.inr (.inr (.inr (.inr ⟨t,rfl,lH (fun o ho=>hH o (h4 o ho)) h3,h4⟩)))))
theorem relCs.congr {H':Id->Option AO}{θ:List (Id×Id)}{bw:List Id}(hH:∀o∈bw,H' o=H o):∀{xs ys:List AC},relCs H θ bw xs ys->relCs H' θ bw xs ys
 | [],[],_=>trivial
 | _::_,_::_,h=>⟨h.1.congr hH,relCs.congr hH h.2⟩
 | [],_::_,h=>h.elim
 | _::_,[],h=>h.elim
theorem relV.congr {H':Id->Option AO}{θ:List (Id×Id)}{bw:List Id}(hH:∀o∈bw,H' o=H o){x y:AV}(h:relV H θ bw x y):relV H' θ bw x y:=by
 unfold relV at h⊢;split at h
 ·exact relC.congr hH h
 ·exact relCs.congr hH h
 ·exact h.elim
theorem relVs.congr {H':Id->Option AO}{θ:List (Id×Id)}{bw:List Id}(hH:∀o∈bw,H' o=H o):∀{xs ys:List AV},relVs H θ bw xs ys->relVs H' θ bw xs ys
 | [],[],_=>trivial
 | _::_,_::_,h=>⟨h.1.congr hH,relVs.congr hH h.2⟩
 | [],_::_,h=>h.elim
 | _::_,[],h=>h.elim
theorem relO.congr {H':Id->Option AO}{θ:List (Id×Id)}{bw:List Id}(hH:∀o∈bw,H' o=H o){x y:AO}(h:relO H θ bw x y):relO H' θ bw x y:=by
 rcases h with⟨cs,ds,rfl,rfl,h⟩|h
 ·exact .inl ⟨cs,ds,rfl,rfl,h.congr hH⟩
 ·exact .inr h
def Jx (ρ:Rho)(θ:List (Id×Id))(al:Nat->Prop):Rho:=⟨fun q=>match lkI θ q with|some o=>ρ o|none=> .tuple #[],fun q c=>match lkI θ q with|some o=>ρ.fp o c|none=>False,al⟩
theorem eN {θ:List (Id×Id)}{al:Nat->Prop}{q o:Id}(h:lkI θ q=some o):Jx ρ θ al q=ρ o:=by show(match lkI θ q with|some o=>ρ o|none=> .tuple #[])=ρ o;rw[h]
theorem Ep {θ:List (Id×Id)}{al:Nat->Prop}{q o:Id}(h:lkI θ q=some o)(c:Nat):(Jx ρ θ al).fp q c↔ρ.fp o c:=by show(match lkI θ q with|some o=>ρ.fp o c|none=>False)↔_;rw[h]
theorem kC {θ:List (Id×Id)}{al:Nat->Prop}{q o:Id}(h:lkI θ q=some o)(b:Nat):Own (Jx ρ θ al) q b↔Own ρ o b:=by unfold Own;rw[eN h,Ep h]
structure Bound (s:F_) (θ:List (Id×Id)) (bw:List Id) (h0:List (Id×AO)):Prop where
 vals:(θ.map (·.2)).Nodup
 keys:∀p∈θ,p.1∈h0.map (·.1)/\p.2∉bw
 obj:∀p∈h0,∃o x,lkI θ p.1=some o/\s.H o=some x/\relO s.H θ bw x p.2
theorem Bound.get {θ:List (Id×Id)}{bw:List Id}{h0:List (Id×AO)}(hb:Bound s θ bw h0){q o:Id}(h:lkI θ q=some o):∃x,s.H o=some x:=by obtain⟨h1,_⟩:=hb.keys _ (ik h);obtain⟨p,hp,e⟩:=n7.1 h1;obtain⟨o',x,g1,g2,_⟩:=hb.obj p hp;simp only at e;rw[e,h]at g1;injection g1 with g1;exact⟨x,by rw[g1];exact g2⟩
theorem Bound.inj {θ:List (Id×Id)}{bw:List Id}{h0:List (Id×AO)}(hb:Bound s θ bw h0){q q' o:Id}(h:lkI θ q=some o)(h':lkI θ q'=some o):q=q':=Ft hb.vals (ik h) (ik h')
def alC (ρ:Rho)(s:F_)(w:World)(θ:List (Id×Id))(bw:List Id)(b:Nat):Prop:=
 okB ρ s.H w b\/(∃o x,o∈bw/\s.H o=some x/\Own ρ o b)\/(∃q o x,lkI θ q=some o/\s.H o=some x/\Own ρ o b)\/w.heap.size<=b
abbrev lw (ρ:Rho)(s:F_)(w:World)(θ:List (Id×Id))(bw:List Id):Rho:=Jx ρ θ (alC ρ s w θ bw)
theorem yG {θ:List (Id×Id)}{bw:List Id}{h0:List (Id×AO)}(hb:Bound s θ bw h0){b:Nat}(h:okB ρ s.H w b):okB (lw ρ s w θ bw) (lkH h0) w b:=by refine⟨⟨h.1.1,.inl h⟩,fun q y hq ho=>?_⟩;obtain⟨o,x,g1,g2,_⟩:=hb.obj _ (ig hq);rw[kC g1]at ho;exact h.2 o x g2 ho
theorem GX (hc:Conc N B M w0 ρ s a w){θ:List (Id×Id)}{bw:List Id}{h0:List (Id×AO)}(hb:Bound s θ bw h0){b:Nat}{o:Id}{x:AO}(h1:o∈bw)(h2:s.H o=some x)(h3:Own ρ o b):okB (lw ρ s w θ bw) (lkH h0) w b:=by refine⟨⟨(hc.rng o x b h2 h3).1,.inr (.inl ⟨o,x,h1,h2,h3⟩)⟩,fun q y hq ho=>?_⟩;obtain⟨o',x',g1,g2,_⟩:=hb.obj _ (ig hq);rw[kC g1]at ho;have:=(hb.keys _ (ik g1)).2;exact hc.sep o o' x x' b h2 g2 (fun e=>this (e▸h1)) h3 ho
theorem EF (hc:Conc N B M w0 ρ s a w){θ:List (Id×Id)}{bw:List Id}{h0:List (Id×AO)}(hb:Bound s θ bw h0){B':Nat}{v:Value}{x y:AC}(h:relC s.H θ bw x y)(hv:RC B ρ w (okB ρ s.H w) v x):RC B' (lw ρ s w θ bw) w (okB (lw ρ s w θ bw) (lkH h0) w) v y:=by
 rcases h with⟨o,q,rfl,rfl,h⟩|⟨o,q,n,rfl,rfl,h⟩|⟨rfl,rfl⟩|⟨n,m,rfl,rfl⟩|⟨o,q,rfl,rfl,h⟩|rfl|⟨t,rfl,h3,h4⟩
 ·rw[RC,eN h];exact hv
 ·rw[RC,eN h];exact hv
 ·exact hv
 ·exact hv
 ·rw[RC,eN h];exact hv
 ·exact⟨RC.one hv,RC.cells1 hv⟩
 ·exact jA hc (fun b ML=>yG hb ML) (fun q hq x b hx ho=>GX hc hb (h4 q hq) hx ho) hv h3
theorem wE (hc:Conc N B M w0 ρ s a w){θ:List (Id×Id)}{bw:List Id}{h0:List (Id×AO)}(hb:Bound s θ bw h0){B':Nat}:∀{vs:List Value} {xs ys:List AC},relCs s.H θ bw xs ys->RCs B ρ w (okB ρ s.H w) vs xs->RCs B' (lw ρ s w θ bw) w (okB (lw ρ s w θ bw) (lkH h0) w) vs ys
 | [],[],[],_,_=>trivial
 | _::_,_::_,_::_,h,hv=>⟨EF hc hb h.1 hv.1,wE hc hb h.2 hv.2⟩
 | [],_::_,_,_,hv=>hv.elim
 | _::_,[],_,_,hv=>hv.elim
 | [],[],_::_,h,_=>h.elim
 | _::_,_::_,[],h,_=>h.elim
theorem Jw (hc:Conc N B M w0 ρ s a w){θ:List (Id×Id)}{bw:List Id}{h0:List (Id×AO)}(hb:Bound s θ bw h0){B':Nat}{v:Value}{x y:AV}(h:relV s.H θ bw x y)(hv:RV B ρ w (okB ρ s.H w) v x):RV B' (lw ρ s w θ bw) w (okB (lw ρ s w θ bw) (lkH h0) w) v y:=by
 unfold relV at h;split at h
 ·exact EF hc hb h hv
 ·obtain⟨us,e,hv⟩:=hv;exact⟨us,e,wE hc hb h hv⟩
 ·exact h.elim
theorem BH (hc:Conc N B M w0 ρ s a w){θ:List (Id×Id)}{bw:List Id}{h0:List (Id×AO)}(hb:Bound s θ bw h0){B':Nat}:∀{xs:List Operand} {ys:List AV},relVs s.H θ bw (xs.map ev) ys->(∀x∈xs,evL s.L x=ev x)->RVs B' (lw ρ s w θ bw) w (okB (lw ρ s w θ bw) (lkH h0) w) (xs.map a.eval) ys
 | [],[],_,_=>trivial
 | x::xs,y::ys,h,hx=>by
  refine⟨Jw hc hb h.1 ?_,BH hc hb h.2 fun z hz=>hx z (by simp[hz])⟩;have:=(hc.eval x).1
  rwa [hx x s_]at this
 | [],_::_,h,_=>h.elim
 | _::_,[],h,_=>h.elim
theorem JM (hc:Conc N B M w0 ρ s a w){θ:List (Id×Id)}{bw:List Id}{h0:List (Id×AO)}(hb:Bound s θ bw h0){B':Nat}{q o:Id}{x y:AO}(hq:lkI θ q=some o)(h:relO s.H θ bw x y)(hv:RO B ρ w (okB ρ s.H w) o x):RO B' (lw ρ s w θ bw) w (okB (lw ρ s w θ bw) (lkH h0) w) q y:=by
 rcases h with⟨cs,ds,rfl,rfl,h⟩|⟨fr,sz,rows,rfl,rfl⟩|⟨sz,rows,rfl,rfl⟩|⟨kk,es,rfl,rfl⟩
 ·obtain⟨b,cur,t,fz,h1,h2,h3,h4⟩:=hv;exact⟨b,cur,t,fz,by rw[eN hq];exact h1,h2,h3,wE hc hb h h4⟩
 ·obtain⟨hu,hv⟩:=hv;refine⟨hu,?_⟩;rcases hv with hv|⟨b,cap,cur,e,fz,h1,h2,h3,h4,h5,h6,h7,h8⟩
  ·exact .inl (by rw[eN hq];exact hv)
  ·exact .inr ⟨b,cap,cur,e,fz,by rw[eN hq];exact h1,h2,h3,h4,h5,h6,h7.keep (fun c MB=>⟨rfl,yG hb MB.1,fun e=>by cases e⟩),fun e=>by cases e⟩
 ·obtain⟨hu,hv⟩:=hv;refine⟨hu,?_⟩;rcases hv with⟨hv,h2⟩|⟨b,cap,cur,e,fz,Fp,h1,h2,h3,h4,h5,h6,h7,h8,h9⟩
  ·exact .inl ⟨by rw[eN hq];exact hv,h2⟩
  ·exact .inr ⟨b,cap,cur,e,fz,Fp,by rw[eN hq];exact h1,h2,h3,h4,h5,h6,fun p c MB=>⟨(Ep hq c).2 (h7 p c MB).1,(h7 p c MB).2⟩,h8,h9.keep (fun c MB=>⟨rfl,yG hb MB⟩) (fun p c MB=>⟨rfl,MB⟩) fun _ _ _ e=>by cases e⟩
 ·obtain⟨b,ents,clock,h1,h2,h3⟩:=hv;exact⟨b,ents,clock,by rw[eN hq];exact h1,h2,h3⟩
theorem Fo (hc:Conc N B M w0 ρ s a w){θ:List (Id×Id)}{bw:List Id}{h0:List (Id×AO)}(hb:Bound s θ bw h0):Lies w.heap.size (lw ρ s w θ bw) w h0:=by
 refine⟨fun q y hq=>?_,fun q q' y y' b hq MH MF ho MX=>?_,fun q y b hq ho=>?_⟩
 ·obtain⟨o,x,g1,g2,g3⟩:=hb.obj _ (ig hq);exact JM hc hb g1 g3 (hc.obj o x g2)
 ·obtain⟨o,x,g1,g2,_⟩:=hb.obj _ (ig hq);obtain⟨o',x',Qd,QR,_⟩:=hb.obj _ (ig MH);rw[kC g1]at ho;rw[kC Qd]at MX;exact hc.sep o o' x x' b g2 QR (fun e=>MF (hb.inj g1 (by rw[e];exact Qd))) ho MX
 ·obtain⟨o,x,g1,g2,_⟩:=hb.obj _ (ig hq);rw[kC g1]at ho;exact(hc.rng o x b g2 ho).1
theorem nF {θ:List (Id×Id)}{bw:List Id}{h0:List (Id×AO)}(hb:Bound s θ bw h0){b:Nat}(h:Ms (lw ρ s w θ bw) h0 b):∃q o x,lkI θ q=some o/\s.H o=some x/\Own ρ o b:=by obtain⟨q,y,hq,ho⟩:=h;obtain⟨o,x,g1,g2,_⟩:=hb.obj _ (ig hq);rw[kC g1]at ho;exact⟨q,o,x,g1,g2,ho⟩
def kI (ρ ρ2:Rho)(θ:List (Id×Id))(nm:Nat):Rho:=
 ⟨fun o=>if o.1=nm then ρ2 (1,o.2)else ρ o,fun o c=>(o.1=nm/\ρ2.fp (1,o.2) c)\/(o.1≠nm/\((∃q,lkI θ q=some o/\ρ2.fp q c)\/((¬∃q,lkI θ q=some o)/\ρ.fp o c))),ρ.al⟩
structure Back (B:Nat) (ρ ρ2:Rho) (s:F_) (w w':World) (θ:List (Id×Id)) (bw:List Id) (nm:Nat) (h0 h1:List (Id×AO)):Prop where
 bound:Bound s θ bw h0
 h0n:∀p∈h0,p.1.1=0
 h1n:(h1.map (·.1)).Nodup
 h1k:∀p∈h1,okN h0 p.1=true/\vc p.2=true/\∀id∈p.2.ids,okN h0 id=true
 new:¬s.U nm
 used:∀o x,s.H o=some x->s.U o.1
 keep:∀o,(lkH h0 o).isSome=true->ρ2 o=lw ρ s w θ bw o
 al:ρ2.al=(lw ρ s w θ bw).al
 lies:Lies w.heap.size ρ2 w' h1
 own:∀o x b,lkH h1 o=some x->Own ρ2 o b->w.heap.size<=b\/Ms (lw ρ s w θ bw) h0 b
 size:w.heap.size<=w'.heap.size
 base:B<=w.heap.size
section
variable {ρ2:Rho} {θ:List (Id×Id)} {bw:List Id} {nm:Nat} {h0 h1:List (Id×AO)}
theorem Back.name (hk:Back B ρ ρ2 s w w' θ bw nm h0 h1){q:Id}(hq:okN h0 q=true):(∃o x,lkI θ q=some o/\s.H o=some x/\o.1≠nm/\reI θ nm q=o)\/(lkI θ q=none/\q.1=1/\reI θ nm q=(nm,q.2)):=by
 cases h:lkI θ q with
 | some o=>
  obtain⟨x,hx⟩:=hk.bound.get h
  exact .inl ⟨o,x,rfl,hx,fun e=>hk.new (by rw[<-e];exact hk.used o x hx),by unfold reI;rw[h]⟩
 | none=>
  right;refine⟨rfl,?_,by unfold reI;rw[h]⟩;unfold okN at hq;rw[w5,memI_iff]at hq;rcases hq with hq|hq
  ·obtain⟨p,hp,e⟩:=n7.1 hq;obtain⟨o,x,g,_⟩:=hk.bound.obj p hp;rw[e,h]at g;cases g
  ·simpa using hq
theorem Back.val (hk:Back B ρ ρ2 s w w' θ bw nm h0 h1){q:Id}(hq:okN h0 q=true):kI ρ ρ2 θ nm (reI θ nm q)=ρ2 q:=by
 rcases hk.name hq with⟨o,x,g1,g2,g3,g4⟩|⟨g1,g2,g3⟩
 ·rw[g4];show(if o.1=nm then _ else ρ o)=_;rw[b8 g3,hk.keep q (Cm (hk.bound.keys _ (ik g1)).1),eN g1]
 ·rw[g3];show(if nm=nm then ρ2 (1,q.2)else _)=_;rw[c7 rfl,<-g2]
theorem Back.fp (hk:Back B ρ ρ2 s w w' θ bw nm h0 h1){q:Id}(hq:okN h0 q=true)(c:Nat):(kI ρ ρ2 θ nm).fp (reI θ nm q) c↔ρ2.fp q c:=by
 rcases hk.name hq with⟨o,x,g1,g2,g3,g4⟩|⟨g1,g2,g3⟩
 ·rw[g4];constructor
  ·rintro(⟨e,_⟩|⟨_,⟨q',e1,e2⟩|⟨e1,_⟩⟩)
   ·exact absurd e g3
   ·rw[hk.bound.inj g1 e1];exact e2
   ·exact absurd ⟨q,g1⟩ e1
  ·exact fun h=> .inr ⟨g3,.inl ⟨q,g1,h⟩⟩
 ·rw[g3];constructor
  ·rintro(⟨_,h⟩|⟨e,_⟩)
   ·rw[<-g2]at h;exact h
   ·exact absurd rfl e
  ·intro h;left;refine⟨rfl,?_⟩;rw[<-g2];exact h
theorem Back.owned (hk:Back B ρ ρ2 s w w' θ bw nm h0 h1){q:Id}(hq:okN h0 q=true)(c:Nat):Own (kI ρ ρ2 θ nm) (reI θ nm q) c↔Own ρ2 q c:=by unfold Own;rw[hk.val hq,hk.fp hq]
theorem Back.inj (hk:Back B ρ ρ2 s w w' θ bw nm h0 h1){q q':Id}(hq:okN h0 q=true)(MH:okN h0 q'=true)(e:reI θ nm q=reI θ nm q'):q=q':=by
 rcases hk.name hq with⟨o,x,g1,g2,g3,g4⟩|⟨g1,g2,g3⟩<;>rcases hk.name MH with⟨o',x',k1,k2,k3,k4⟩|⟨k1,k2,k3⟩
 ·rw[g4,k4]at e;subst e;exact hk.bound.inj g1 k1
 ·rw[g4,k3]at e;subst e;exact absurd rfl g3
 ·rw[g3,k4]at e;subst e;exact absurd rfl k3
 ·rw[g3,k3]at e;have:q.2=q'.2:=congrArg (·.2) e;exact Prod.ext (g2.trans k2.symm) this
theorem Back.oldv (hk:Back B ρ ρ2 s w w' θ bw nm h0 h1){o:Id}(ho:s.U o.1):kI ρ ρ2 θ nm o=ρ o:=b8 fun e:o.1=nm=>hk.new aaM
theorem Back.oldf (hk:Back B ρ ρ2 s w w' θ bw nm h0 h1){o:Id}(ho:s.U o.1)(hn:o∉θ.map (·.2))(c:Nat):(kI ρ ρ2 θ nm).fp o c↔ρ.fp o c:=by
 have h1:o.1≠nm:=fun e=>hk.new aaM;have h2:¬∃q,lkI θ q=some o:=fun⟨q,h⟩=>hn (n7.2 ⟨_,ik h,rfl⟩);constructor
 ·rintro(⟨e,_⟩|⟨_,h|⟨_,h⟩⟩)
  ·exact absurd e h1
  ·exact absurd (h.elim fun q h=>⟨q,h.1⟩) h2
  ·exact h
 ·exact fun h=> .inr ⟨h1,.inr ⟨h2,h⟩⟩
theorem DQ (H:Id->Option AO){o:Id}{x:AO}(h:bP H (usG θ nm h1) o=some x):(∃q y,(q,y)∈h1/\o=reI θ nm q/\x=y.re θ nm)\/(o∉(θ.map (·.2))++h1.map (fun p=>reI θ nm p.1)/\H o=some x):=by
 rw[usG,nj]at h;have h':bP (bP H (θ.map fun p=>(p.2,none))) ((h1.map fun p=>(reI θ nm p.1,p.2.re θ nm)).map fun p=>(p.1,some p.2)) o=some x:=by rw[G6];exact h
 rcases ri _ _ o x h' with h2|⟨h2,h3⟩
 ·obtain⟨p,hp,e⟩:=n7.1 h2;injection e with e1 e2;exact .inl ⟨p.1,p.2,hp,e1.symm,e2.symm⟩
 ·have WM:o∉h1.map fun p=>reI θ nm p.1:=by simpa [G6]using h2
  have nonek:∀(l:List Id) (H:Id->Option AO),bP H (l.map fun r=>(r,none)) o=some x->o∉l/\H o=some x:=by
   intro l
   induction l with
   | nil=>intro H h;exact⟨s_,h⟩
   | cons r l ih=>
    intro H h;simp only[p7,bP]at h;obtain⟨g1,g2⟩:=ih _ h;by_cases e:o=r
    ·rw[c7 e]at g2;cases g2
    ·rw[b8 e]at g2;exact⟨by simp[e,g1],g2⟩
  have PB:bP H ((θ.map (·.2)).map fun r=>(r,none)) o=some x:=by rw[G6];exact h3
  obtain⟨g1,g2⟩:=nonek _ _ PB;refine .inr ⟨fun hm=>?_,g2⟩;rcases d9.1 hm with hm|hm
  ·exact g1 hm
  ·exact WM hm
theorem Back.ok (hk:Back B ρ ρ2 s w w' θ bw nm h0 h1)(hc:Conc N B M w0 ρ s a w){b:Nat}(hb:okB ρ2 (lkH h1) w' b)(hf:bw=[]\/w.heap.size<=b):okB (kI ρ ρ2 θ nm) (bP s.H (usG θ nm h1)) w' b:=by
 have M5:alC ρ s w θ bw b:=by have:=hb.1.2;rw[hk.al]at this;exact this
 have Ql:w.heap.size<=b->ρ.al b:=fun h=>hc.alw b (.inl (v5 hk.base h))
 have RA:(∃o x,o∈bw/\s.H o=some x/\Own ρ o b)->w.heap.size<=b:=fun⟨o,x,h1,h2,h3⟩=>by
  rcases hf with hf|hf
  ·rw[hf]at h1;cases h1
  ·exact hf
 refine⟨⟨hb.1.1,?_⟩,fun o x ho he=>?_⟩
 ·show ρ.al b;rcases M5 with h|h|⟨q,o,x,_,h2,h3⟩|h
  ·exact h.1.2
  ·exact Ql (RA h)
  ·exact hc.alw b (hc.rng o x b h2 h3).2
  ·exact Ql h
 ·rcases DQ s.H ho with⟨q,y,g1,rfl,_⟩|⟨g1,g2⟩
  ·rw[hk.owned (hk.h1k _ g1).1]at he;exact hb.2 q y (vL hk.h1n g1) he
  ·have hU:=hk.used o x g2
   have Np:Own ρ o b:=by unfold Own at he⊢;rw[hk.oldv hU,hk.oldf hU (fun h=>g1 aaE)]at he;exact he
   have Mz:=(hc.rng o x b g2 Np).1;rcases M5 with h|h|⟨q,o',x',h1,h2,h3⟩|h
   ·exact h.2 o x g2 Np
   ·have:=RA h;omega
   ·exact hc.sep o' o x' x b h2 g2 (fun e=>g1 (by rw[<-e];exact d9.2 (.inl (n7.2 ⟨_,ik h1,rfl⟩)))) h3 Np
   ·omega
theorem Back.cell (hk:Back B ρ ρ2 s w w' θ bw nm h0 h1)(hc:Conc N B M w0 ρ s a w){v:Value}{c:AC}(hv:RC w.heap.size ρ2 w' (okB ρ2 (lkH h1) w') v c)(hf:bw=[]\/Jv c=true)(hi:∀id∈c.ids,okN h0 id=true):RC B (kI ρ ρ2 θ nm) w' (okB (kI ρ ρ2 θ nm) (bP s.H (usG θ nm h1)) w') v (c.re θ nm):=by
 cases c with
 | t x=>
  rcases hf with hf|hf
  ·exact RT.keep hv fun b hb=>⟨rfl,hk.ok hc hb (.inl hf)⟩
  ·cases x with
   | lst=>simp[Jv]at hf
   | int=>cases hv;exact RT.int _ _
   | bool=>cases hv;exact RT.bool _
   | str=>cases hv;exact RT.str _
 | f x=>exact RT.keep hv fun b hb=>⟨rfl,hk.ok hc hb.1 (.inr (hb.2 rfl)),fun _=>v5 hk.base (hb.2 rfl)⟩
 | nils n=>exact hv
 | nilp=>exact hv
 | opq=>exact hv
 | mpv q=>
  have:=hk.val (hi q aam);show RC _ _ _ _ v (.mpv (reI θ nm q))
  rw[RC,this];exact hv
 | own q=>
  have:=hk.val (hi q aam);show RC _ _ _ _ v (.own (reI θ nm q))
  rw[RC,this];exact hv
 | sub q k=>
  have:=hk.val (hi q aam);show RC _ _ _ _ v (.sub (reI θ nm q) k)
  rw[RC,this];exact hv
 | ptr q k=>have:=hk.val (hi q aam);show RC _ _ _ _ v (.ptr (reI θ nm q) k);rw[RC,this];exact hv
theorem Back.cells (hk:Back B ρ ρ2 s w w' θ bw nm h0 h1)(hc:Conc N B M w0 ρ s a w):∀{vs:List Value} {cs:List AC},RCs w.heap.size ρ2 w' (okB ρ2 (lkH h1) w') vs cs->(bw=[]\/we cs=true)->(∀id∈cs.flatMap AC.ids,okN h0 id=true)->
  RCs B (kI ρ ρ2 θ nm) w' (okB (kI ρ ρ2 θ nm) (bP s.H (usG θ nm h1)) w') vs (zz θ nm cs)
 | [],[],_,_,_=>trivial
 | v::vs,c::cs,h,hf,hi=>by
  refine⟨hk.cell hc h.1 (hf.imp id fun h=>?_) fun id MD=>hi id (by simp[MD]),hk.cells hc h.2 (hf.imp id fun h=>?_) fun id MD=>hi id (by simp only[u7,d9];exact .inr MD)⟩
  ·rw[we,b9]at h;exact h.1
  ·rw[we,b9]at h;exact h.2
 | [],_::_,h,_,_=>h.elim
 | _::_,[],h,_,_=>h.elim
theorem Back.row (hk:Back B ρ ρ2 s w w' θ bw nm h0 h1)(hc:Conc N B M w0 ρ s a w){v:Value}{x:AR}(hv:RR w.heap.size ρ2 w' (okB ρ2 (lkH h1) w') v x)(hf:bw=[]\/Kx x=true)(hi:∀id∈x.ids,okN h0 id=true):RR B (kI ρ ρ2 θ nm) w' (okB (kI ρ ρ2 θ nm) (bP s.H (usG θ nm h1)) w') v (x.re θ nm):=by cases x with|c x=>exact hk.cell hc hv hf hi|agg cs=>obtain⟨us,e,h⟩:=hv;exact⟨us,e,hk.cells hc h hf hi⟩
theorem Back.rows (hk:Back B ρ ρ2 s w w' θ bw nm h0 h1)(hc:Conc N B M w0 ρ s a w):∀{vs:List Value} {cs:List AR},RRs w.heap.size ρ2 w' (okB ρ2 (lkH h1) w') vs cs->(bw=[]\/zM cs=true)->(∀id∈cs.flatMap AR.ids,okN h0 id=true)->
  RRs B (kI ρ ρ2 θ nm) w' (okB (kI ρ ρ2 θ nm) (bP s.H (usG θ nm h1)) w') vs (EZ θ nm cs)
 | [],[],_,_,_=>trivial
 | v::vs,c::cs,h,hf,hi=>by
  refine⟨hk.row hc h.1 (hf.imp id fun h=>?_) fun id MD=>hi id (by simp[MD]),hk.rows hc h.2 (hf.imp id fun h=>?_) fun id MD=>hi id (by simp only[u7,d9];exact .inr MD)⟩
  ·rw[zM,b9]at h;exact h.1
  ·rw[zM,b9]at h;exact h.2
 | [],_::_,h,_,_=>h.elim
 | _::_,[],h,_,_=>h.elim
theorem Back.value (hk:Back B ρ ρ2 s w w' θ bw nm h0 h1)(hc:Conc N B M w0 ρ s a w){v:Value}{x:AV}(hv:RV w.heap.size ρ2 w' (okB ρ2 (lkH h1) w') v x)(hf:bw=[]\/GA x=true)(hi:∀id∈x.ids,okN h0 id=true):RV B (kI ρ ρ2 θ nm) w' (okB (kI ρ ρ2 θ nm) (bP s.H (usG θ nm h1)) w') v (x.re θ nm):=by cases x with|r x=>exact hk.row hc hv hf hi|tup xs=>obtain⟨us,e,h⟩:=hv;exact⟨us,e,hk.rows hc h hf hi⟩|el=>trivial|ro=>trivial|unk=>trivial
theorem Hm {l:List (Id×AO)}(h:ur l=true):∀p∈l,(∃cs,p.2= .box cs/\we cs=true)\/(∃sz rows,p.2= .arr true sz rows)\/(∃kk es,p.2= .mp kk es)\/∃sz rs,p.2= .dar sz (aK rs) none:=by
 induction l with
 | nil=>simp
 | cons p l ih=>
  obtain⟨q,y⟩:=p;intro p' Pm;unfold ur at h;split at h
  ·simp at *
  ·rename_i PS;injection PS with e1 e2;injection e1 with e3 e4;rw[b9]at h;rcases d6.1 Pm with rfl|Pm
   ·obtain⟨rs,e⟩:=Jj h.2;subst e;exact .inr (.inr (.inr ⟨_,_,e4⟩))
   ·subst e2;exact ih h.1 p' Pm
  ·rename_i PS;injection PS with e1 e2;injection e1 with e3 e4;rw[b9]at h;rcases d6.1 Pm with rfl|Pm
   ·exact .inl ⟨_,e4,h.1⟩
   ·subst e2;exact ih h.2 p' Pm
  ·rename_i PS;injection PS with e1 e2;injection e1 with e3 e4;rcases d6.1 Pm with rfl|Pm
   ·exact .inr (.inl ⟨_,_,e4⟩)
   ·subst e2;exact ih h p' Pm
  ·rename_i PS;injection PS with e1 e2;injection e1 with e3 e4;rcases d6.1 Pm with rfl|Pm
   ·exact .inr (.inr (.inl ⟨_,_,e4⟩))
   ·subst e2;exact ih h p' Pm
  ·cases h
theorem Back.object (hk:Back B ρ ρ2 s w w' θ bw nm h0 h1)(hc:Conc N B M w0 ρ s a w){q:Id}{y:AO}(hq:(q,y)∈h1)(hf:bw=[]\/ur h1=true):RO B (kI ρ ρ2 θ nm) w' (okB (kI ρ ρ2 θ nm) (bP s.H (usG θ nm h1)) w') (reI θ nm q) (y.re θ nm):=by
 have hv:=hk.lies.obj q y (vL hk.h1n hq);obtain⟨hn,hh,hi⟩:=hk.h1k _ hq;have Nz:=hk.val hn;have NQ:=hk.fp hn;have Ot:=hf.imp id fun h=>Hm h _ hq
 cases y with
 | arr fr sz rows=>
  obtain⟨hu,hv⟩:=hv;refine⟨hu,?_⟩;rcases hv with⟨k1,k2⟩|⟨b,cap,cur,e',fz,k1,k2,k3,k4,k5,k6,k7,k8⟩
  ·exact .inl ⟨by rw[Nz];exact k1,k2⟩
  ·refine .inr ⟨b,cap,cur,e',fz,by rw[Nz];exact k1,k2,k3,k4,k5,k6,k7.keep (fun c MB=>⟨rfl,hk.ok hc MB.1 ?_,fun e=>v5 hk.base (MB.2 e)⟩),fun e=>v5 hk.base (k8 e)⟩;rcases Ot with Ot|⟨cs,e,_⟩|⟨MS,rows',e⟩|⟨kk,es,e⟩|⟨MS,rs,e⟩
   ·exact .inl Ot
   ·cases e
   ·injection e with e;subst e;exact .inr (MB.2 rfl)
   ·cases e
   ·cases e
 | box cells=>
  obtain⟨b,cur,t,fz,k1,k2,k3,k4⟩:=hv;refine⟨b,cur,t,fz,by rw[Nz];exact k1,k2,k3,hk.cells hc k4 ?_ hi⟩;rcases Ot with Ot|⟨cs,e,h⟩|⟨MS,rows',e⟩|⟨kk,es,e⟩|⟨MS,rs,e⟩
  ·exact .inl Ot
  ·injection e with e;subst e;exact .inr h
  ·cases e
  ·cases e
  ·cases e
 | mp kk es=>
  obtain⟨b,ents,clock,k1,k2,k3⟩:=hv
  exact⟨b,ents,clock,by rw[Nz];exact k1,k2,k3⟩
 | dar sz rows hole=>
  have Ps:bw=[]\/(hole=none->∃rs,rows=aK rs):=by
   rcases Ot with Ot|⟨cs,e,_⟩|⟨MS,rows',e⟩|⟨kk,es,e⟩|⟨MS,rs,e⟩
   ·exact .inl Ot
   ·cases e
   ·cases e
   ·cases e
   ·injection e with e1 e2;exact .inr fun _=>⟨rs,e2⟩
  cases hole with
  | some p=>obtain⟨i,off,n⟩:=p;simp[vc]at hh
  | none=>
   obtain⟨hu,hv⟩:=hv;refine⟨hu,?_⟩;rcases hv with⟨k1,k2⟩|⟨b,cap,cur,e',fz,Fp,k1,k2,k3,k4,k5,k6,k7,k8,k9⟩
   ·exact .inl ⟨by rw[Nz];exact k1,k2⟩
   ·exact .inr ⟨b,cap,cur,e',fz,Fp,by rw[Nz];exact k1,k2,k3,k4,k5,k6,fun p c MB=>⟨(NQ c).2 (k7 p c MB).1,(k7 p c MB).2⟩,k8,by
     rcases Ps with Ps|Ps
     ·exact k9.keep (fun c MB=>⟨rfl,hk.ok hc MB (.inl Ps)⟩) (fun p c MB=>⟨rfl,MB⟩) fun _ _ _ e=>by cases e
     ·obtain⟨rs,e⟩:=Ps rfl;refine⟨k9.1,fun p v c h1 h2=>?_⟩;have h3:=k9.2 p v c h1 h2;simp only[cp]at h3⊢;have hm:=c9 h2;rw[e]at hm;obtain⟨r,hr,UV⟩:=E4.1 hm;obtain⟨tr,_,rfl⟩:=n7.1 hr;obtain⟨x,_,rfl⟩:=n7.1 UV
      exact h3⟩
theorem vp {cs:List AC}{id:Id}(h:id∈(zz θ nm cs).flatMap AC.ids):∃q∈cs.flatMap AC.ids,id=reI θ nm q:=by
 induction cs with
 | nil=>simp[zz]at h
 | cons c cs ih=>
  simp only[zz,u7,d9]at h⊢;rcases h with h|h
  ·cases c<;>simp only[AC.re,AC.ids,t7,l4]at h
   all_goals exact⟨_,.inl (t7.2 rfl),h⟩
  ·obtain⟨q,h1,h2⟩:=ih h;exact⟨q,.inr h1,h2⟩
theorem DO {x:AR}{id:Id}(h:id∈(x.re θ nm).ids):∃q∈x.ids,id=reI θ nm q:=by
 cases x with
 | c c=>
  have:id∈(zz θ nm [c]).flatMap AC.ids:=by simpa [zz,AR.re,AR.ids]using h
  obtain⟨q,h1,h2⟩:=vp this
  exact⟨q,by simpa [AR.ids]using h1,h2⟩
 | agg cs=>exact vp h
theorem GK {cs:List AR}{id:Id}(h:id∈(EZ θ nm cs).flatMap AR.ids):∃q∈cs.flatMap AR.ids,id=reI θ nm q:=by
 induction cs with
 | nil=>simp[EZ]at h
 | cons c cs ih=>
  simp only[EZ,u7,d9]at h⊢;rcases h with h|h
  ·obtain⟨q,h1,h2⟩:=DO h;exact⟨q,.inl h1,h2⟩
  ·obtain⟨q,h1,h2⟩:=ih h;exact⟨q,.inr h1,h2⟩
theorem JA {x:AV}{id:Id}(h:id∈(x.re θ nm).ids):∃q∈x.ids,id=reI θ nm q:=by cases x with|r x=>exact DO h|tup xs=>exact GK h|el=>simp[AV.re,AV.ids]at h|ro=>simp[AV.re,AV.ids]at h|unk=>simp[AV.re,AV.ids]at h
theorem Jt {x:AO}(hn:vc x=true){id:Id}(h:id∈(x.re θ nm).ids):∃q∈x.ids,id=reI θ nm q:=by
 cases x with
 | arr=>simp[AO.re,AO.ids]at h
 | mp=>simp[AO.re,AO.ids]at h
 | box cs=>exact vp h
 | dar sz rows hole=>cases hole with|none=>simp[AO.re,AO.ids]at h|some p=>obtain⟨i,off,n⟩:=p;simp[vc]at hn
theorem Back.usedN (hk:Back B ρ ρ2 s w w' θ bw nm h0 h1){q:Id}(hq:okN h0 q=true):s.U (reI θ nm q).1\/(reI θ nm q).1=nm:=by
 rcases hk.name hq with⟨o,x,g1,g2,g3,g4⟩|⟨g1,g2,g3⟩
 ·rw[g4];exact .inl (hk.used o x g2)
 ·rw[g3];exact .inr rfl
end
theorem sH {f:FuncId}{args:Array Operand}{argTypes:Array TypeId}{nm:Nat}(ho:o.op= .call {callee:= .value (.func f),args,argTypes})(h:GT P f nm (args.toList.map ev) H K):∃e,K e/\Good P o ev H e:=by
 obtain⟨xs,h0,r,h1,hs,h⟩:=h;obtain⟨θ1,bw1,h,_,_,QA⟩:=xM h;obtain⟨θ,bw,⟨Ut,ZK⟩,Wg,Ps,hO⟩:=Af h;have hv:=QA.mono Wg Ps;rw[b9,b9]at Ut;obtain⟨⟨hI,hJ⟩,Pj⟩:=Ut;simp only[okI,b9,o8,nodupI_iff,memI_iff,u9]at hI;obtain⟨⟨⟨⟨i1,i2⟩,i3⟩,i4⟩,i5⟩:=hI;simp only[okJ,b9,o8,nodupI_iff,H3]at hJ;obtain⟨⟨⟨j1,j2⟩,j3⟩,j4⟩:=hJ
 have TI:bw=[]\/GA r=true:=by
  rw[w5]at Pj;rcases Pj with g|g
  ·left;simpa using g
  ·right;rw[b9]at g;exact g.1
 have TA:bw=[]\/ur h1=true:=by
  rw[w5]at Pj;rcases Pj with g|g
  ·left;simpa using g
  ·right;rw[b9]at g;exact g.2
 refine⟨_,ZK,?_⟩;intro N B M w0 ρ s a w Q K' hc Mx hR hn hd hK;have X4:∀o∈bw,s.H o=H o:=fun o h=>hR o aaE
 have hb:Bound s θ bw h0:=by
  refine⟨i1,fun p hp=>⟨(i4 p hp).1,fun hm=>?_⟩,fun p hp=>?_⟩
  ·have:=(i4 p hp).2;rw[memI_iff.2 hm]at this;cases this
  ·obtain⟨o,x,g1,g2,g3⟩:=hO p hp;refine⟨o,x,g1,?_,g3.congr X4⟩;rw[hR o (d9.2 (.inl (n7.2 ⟨_,ik g1,rfl⟩)))];exact g2
 have OY:=BH (h0:=h0) (B':=w.heap.size) hc hb (hv.congr X4) (fun x hx=>Mx x aak)
 have NE:=hs.2 w (args.map a.eval) (lw ρ s w θ bw) (by simpa using OY) (Fo hc hb) (fun b ML=>by
  rcases ML with ML|ML
  ·exact .inr (.inr (.inr ML))
  ·exact .inr (.inr (.inl (nF hb ML))))
 have ME:(execOp a.eval o).run P w= .ok (.enter f (args.map a.eval)) w:=by exact V97
 unfold Oper.wp;rw[ME];show Calls P f (args.map a.eval) w _;refine NE.mono fun e w' ⟨v,ρ2,he,Ol,Qn,M5,VM,Qi,MP⟩=>?_;subst he;have N5:=hn nm rfl
 have hk:Back B ρ ρ2 s w w' θ bw nm h0 h1:=by refine⟨hb,fun p hp=>by simpa using j4 p hp,j1,fun p hp=>?_,N5,fun o x ho=>(hc.usedH o x ho).1,Qn,M5,Qi,MP,Ol.size,hc.base⟩;have:=j2 p hp;exact⟨this.1.1,this.1.2,this.2⟩
 show K' (a.put o.dst v) w';refine hK v w' (kI ρ ρ2 θ nm) ?_
 have Vq:∀o x,o∈(θ.map (·.2))++h1.map (fun p=>reI θ nm p.1)->bP s.H (usG θ nm h1) o=some x->∃q y,(q,y)∈h1/\o=reI θ nm q/\x=y.re θ nm:=fun o x hm hx=>by
  rcases DQ s.H hx with g|⟨g,_⟩
  ·exact g
  ·exact absurd hm g
 have:=hc.step (Ms (lw ρ s w θ bw) h0) ((θ.map (·.2))++h1.map (fun p=>reI θ nm p.1)) (w':=w') (ρ':=kI ρ ρ2 θ nm) (H':=bP s.H (usG θ nm h1)) (U':=fun n=>s.U n\/n=nm) (a':=a.put o.dst v) (L':=nh s.L o.dst (r.re θ nm))
  ⟨Ol.os,Ol.tape,Ol.output,Ol.size,Ol.block⟩ (by rw[kM];exact hc.size) (by rw[gZ];exact hc.defers)
  (fun o ho=>hk.oldv ho)
  (fun o x hm ho=>by
   funext c
   exact propext (hk.oldf (hc.usedH o x ho).1 (fun h=>hm aaE) c)) rfl
  (fun o hm=>by
   refine cz _ _ o fun h=>hm ?_;simp only[usG,u4,G6]at h
   exact h)
  (fun n hn=> .inl hn)
  (fun b ML hM=>by
   obtain⟨q,o,x,g1,g2,g3⟩:=nF hb hM
   exact ML.2 o x g2 g3)
  (fun o x b g1 g2 g3 hM=>by
   obtain⟨q,o',x',k1,k2,k3⟩:=nF hb hM
   exact hc.sep o o' x x' b g1 k2 (fun e=>g2 (by rw[e];exact d9.2 (.inl (n7.2 ⟨_,ik k1,rfl⟩)))) g3 k3)
  (fun b hB ZW hM=>by
   obtain⟨q,o',x',k1,k2,k3⟩:=nF hb hM;rcases(hc.rng o' x' b k2 k3).2 with g|g
   ·omega
   ·exact ZW g)
  (fun o x b g1 g2 g3=>by
   obtain⟨q,y,k1,rfl,rfl⟩:=Vq o x g1 g2;rw[hk.owned (hk.h1k _ k1).1]at g3;have hl:=vL hk.h1n k1;refine⟨Qi.lt q y b hl g3,?_,?_⟩
   ·rcases MP q y b hl g3 with g|g
    ·exact .inl (v5 hc.base g)
    ·obtain⟨q',o',x',m1,m2,m3⟩:=nF hb g;exact(hc.rng o' x' b m2 m3).2
   ·rcases MP q y b hl g3 with g|g
    ·exact .inl g
    ·obtain⟨q',o',x',m1,m2,m3⟩:=nF hb g
     exact .inr ⟨o',x',m2,d9.2 (.inl (n7.2 ⟨_,ik m1,rfl⟩)),m3⟩)
  (fun o o' x x' b g1 Qd g2 QR MF g3 QW=>by
   obtain⟨q,y,k1,rfl,rfl⟩:=Vq o x g1 g2;obtain⟨q',y',Vb,rfl,rfl⟩:=Vq o' x' Qd QR;rw[hk.owned (hk.h1k _ k1).1]at g3;rw[hk.owned (hk.h1k _ Vb).1]at QW
   exact Qi.sep q q' y y' b (vL hk.h1n k1) (vL hk.h1n Vb) (fun e=>MF (by rw[e])) g3 QW)
  (fun _ o x g1 g2=>by
   obtain⟨q,y,k1,rfl,rfl⟩:=Vq o x g1 g2;obtain⟨m1,m2,m3⟩:=hk.h1k _ k1;refine⟨hk.object hc k1 TA,hk.usedN m1,fun o' MX=>?_⟩;obtain⟨q',e1,rfl⟩:=Jt m2 MX
   exact hk.usedN (m3 q' e1))
  (fun _ t=>hc.slots hd (U':=fun n=>s.U n\/n=nm) (hk.value hc VM TI j3) (fun id MD=>by
   obtain⟨q',e1,rfl⟩:=JA MD
   exact hk.usedN (j3 q' e1)) t)
 exact this.congr (fun _=>rfl) (fun _=>rfl) (fun n=>by simp[F_.app,eq_comm])
theorem vq {nm:Nat}(hΓ:Γ.chk P=true)(h:sem P Γ nm o ev H K):∃e,K e/\Good P o ev H e:=by
 unfold sem at h;split at h
 ·exact⟨_,h,vM (.inl aaj)⟩
 ·exact⟨_,h,vM (.inr aaj)⟩
 ·rename_i c x y ho;split at h
  ·rename_i t hc;have:=CD (P:=P) (H:=H) ho hc
   cases t
   ·exact⟨_,h,this⟩
   ·exact⟨_,h,this⟩
  ·exact h.elim
 ·split at h
  ·rename_i ho _ _ _ _ hd hT;exact⟨_,h,Ak hΓ hT hd ho⟩
  ·exact h.elim
 ·split at h
  ·rename_i ho _ _ _ _ hd hx;exact⟨_,h,EX hd ho hx⟩
  ·exact h.elim
 ·split at h
  ·rename_i ho _ _ hT;obtain⟨H',us,R,h,MV⟩:=oH h;obtain⟨e,h1,h2⟩:=Dt hΓ hT ho h;exact⟨_,h1,uw MV h2⟩
  ·exact h.elim
 ·split at h
  ·rename_i ho _ _ hT;obtain⟨H',us,R,h,MV⟩:=oH h;obtain⟨e,h1,h2⟩:=Ca hΓ hT ho h;exact⟨_,h1,uw MV h2⟩
  ·exact h.elim
 ·split at h
  ·rename_i ho _ _ hT;split at h
   ·rename_i hf;obtain⟨v,h1,h2⟩:=tG (H:=H) hΓ hT hf ho h;exact⟨_,h1,h2⟩
   ·exact h.elim
  ·exact h.elim
 ·split at h
  ·rename_i ho _ _ hT;split at h
   ·rename_i he;split at h
    ·rename_i hE;exact tE hΓ hT he hE ho h
    ·exact h.elim
   ·exact h.elim
  ·exact h.elim
 ·split at h
  ·rename_i ho _ _ hT;split at h
   ·rename_i hs;obtain⟨v,h1,h2⟩:=AZ (H:=H) hΓ hT hs ho h;exact⟨_,h1,h2⟩
   ·exact h.elim
  ·exact h.elim
 ·rename_i ho;split at h
  ·split at h
   ·rename_i hT;split at h
    ·rename_i hb;obtain⟨v,h1,h2⟩:=CH (H:=H) hΓ hT hb ho h;exact⟨_,h1,h2⟩
    ·exact h.elim
   ·exact h.elim
  ·rename_i hx;split at h
   ·rename_i hT;obtain⟨v,h1,h2⟩:=Fm (H:=H) hΓ hT ho hx h.1 h.2;exact⟨_,h1,h2⟩
   ·exact h.elim
  ·obtain⟨v,h1,h2⟩:=FP (P:=P) (H:=H) ho h;exact⟨_,h1,h2⟩
 ·rename_i ho;obtain⟨v,h1,h2⟩:=HJ (P:=P) (H:=H) ho h;exact⟨_,h1,h2⟩
 ·rename_i ho;split at h
  ·rename_i hd hk;exact⟨_,h,wU hd ho⟩
  ·exact h.elim
 ·rename_i ho;exact yI hΓ ho h
 ·rename_i ho;exact zA hΓ (.inl ho) h
 ·rename_i ho;exact zB hΓ ho h
 ·rename_i ho;split at h
  ·rename_i hd hs ht;exact xc hΓ hs ht hd ho h
  ·exact h.elim
 ·rename_i ho;split at h
  ·rename_i hT;split at h
   ·exact h.elim
   ·rename_i MF;exact Bq hΓ hT ho (fun e=>MF e) h
  ·exact h.elim
 ·rename_i ho;split at h
  ·rename_i hd hT;split at h
   ·rename_i he;split at h
    ·rename_i hE;split at h
     ·rename_i hn;split at h
      ·exact rK hΓ hT he hE hd ho (by simpa using hn) h
      ·exact qg hΓ hT he hE hd ho (by simpa using hn) h
     ·exact h.elim
    ·exact h.elim
   ·exact h.elim
  ·exact h.elim
 ·rename_i ho;split at h
  ·rename_i hd hT;split at h
   ·rename_i he;split at h
    ·rename_i hE;exact CI hΓ hT he hE hd ho h
    ·exact h.elim
   ·exact h.elim
  ·exact h.elim
 ·rename_i ho;split at h
  ·rename_i hT;split at h
   ·rename_i he;split at h
    ·rename_i hE;split at h
     ·exact h.elim
     ·rename_i RZ;exact tJ hΓ hT he hE ho h (fun t ht=>RZ t ht)
    ·exact h.elim
   ·split at h
    ·rename_i hs;obtain⟨t,hx,h⟩:=h;exact tO hΓ hT hs ho hx h
    ·exact h.elim
  ·exact h.elim
 ·rename_i ho;split at h
  ·rename_i hT;split at h
   ·rename_i hf;split at h
    ·rename_i TY;obtain⟨v,h1,h2⟩:=AS (H:=H) hΓ hT hf TY ho h;exact⟨_,h1,h2⟩
    ·exact h.elim
   ·exact h.elim
  ·exact h.elim
 ·rename_i ho;obtain⟨v,h1,h2⟩:=wY (P:=P) (H:=H) ho h;exact⟨_,h1,h2⟩
 ·rename_i ho;split at h
  ·rename_i hx;exact⟨_,h,sc ho hx (.inl ⟨_,_,rfl⟩)⟩
  ·rename_i hx;exact⟨_,h,sc ho hx (.inr (.inl ⟨_,_,_,_,rfl⟩))⟩
  ·rename_i hx;exact⟨_,h,sc ho hx (.inr (.inr ⟨_,_,_,rfl⟩))⟩
  ·exact h.elim
 ·rename_i ho;split at h
  ·rename_i hT;exact Fi hΓ hT ho h
  ·exact h.elim
 ·rename_i ho;split at h
  ·rename_i hd hT hU;split at h
   ·rename_i he hk;split at h
    ·rename_i hE;exact yS hΓ hT hU he hk hE hd ho h
    ·exact h.elim
   ·exact h.elim
  ·exact h.elim
 ·rename_i ho;split at h
  ·rename_i hx hy;exact⟨_,h,Fx ho hx hy⟩
  ·exact h.elim
 ·rename_i ho;split at h
  ·rename_i hx hy;exact⟨_,h,Ff ho hx hy⟩
  ·exact h.elim
 ·rename_i ho;split at h
  ·rename_i hd;rcases h with⟨ts,r,h1,h2,h3⟩|h
   ·exact⟨_,h3,Cl hd ho h1 h2⟩
   ·exact sH ho h
  ·rename_i hd;rcases h with⟨ts,r,h1,h2,h3⟩|h
   ·exact⟨_,h3,tL hd ho h1 h2⟩
   ·exact sH ho h
 ·exact h.elim
end
def di:List (Nat×AV)->Nat->AV
 | [],_=> .unk
 |(i,v)::r,t=>bif Nat.beq t i then v else di r t
def cf:List (Id×Option AO)->Id->Option AO
 | [],_=>none
 |(i,x)::r,o=>bif fj o i then x else cf r o
def used:List Nat->Nat->Bool
 | [],_=>false
 | i::r,n=>bif Nat.beq n i then true else used r n
structure St where
 fr:List (Nat×AV)
 h:List (Id×Option AO)
 u:List Nat
def St.fs (st:St):F_:=⟨di st.fr,cf st.h,fun n=>used st.u n=true⟩
def so:List (Id×Option AO)->List (Id×Option AO)->List (Id×Option AO)
 | [],h=>h
 | p::r,h=>so r (p::h)
def Eh:Option Nat->List Nat->List Nat
 | some n,u=>n::u
 | none,u=>u
def LA:Option Nat->AV->List (Nat×AV)->List (Nat×AV)
 | some d,v,fr=>(d,v)::fr
 | none,_,fr=>fr
def St.app (st:St)(dst:Option Nat)(e:Eff):St:=⟨LA dst e.v st.fr,so e.us st.h,Eh e.new st.u⟩
theorem nK:∀(us h:List (Id×Option AO)) (o:Id),cf (so us h) o=bP (cf h) us o
 | [],_,_=>rfl
 | p::us,h,o=>by
  rw[so,nK us (p::h),bP];congr 1;funext o;simp only[cf];by_cases e:o=p.1
  ·rw[c7 e,(idEq_iff).2 e];rfl
  ·rw[b8 e]
   cases hb:fj o p.1 with|true=>exact absurd (idEq_iff.1 hb) e|false=>rfl
theorem F_.ext' {s t:F_}(hL:∀i,s.L i=t.L i)(hH:∀o,s.H o=t.H o)(hU:∀n,s.U n↔t.U n):s=t:=by obtain⟨L,H,U⟩:=s;obtain⟨L',H',U'⟩:=t;simp only at hL hH hU;rw[funext hL,funext hH,(funext fun n=>propext (hU n):U=U')]
theorem zp (st:St)(dst:Option Nat)(e:Eff):(st.app dst e).fs=st.fs.app dst e:=by
 refine F_.ext' (fun i=>?_) (fun o=>nK _ _ _) (fun n=>?_)
 ·cases dst with|none=>rfl|some d=>rfl
 ·show used (Eh e.new st.u) n=true↔used st.u n=true\/e.new=some n
  cases hn:e.new with
  | none=>simp[Eh]
  | some d=>
   simp only[Eh,used];by_cases e:n=d
   ·subst e;simp
   ·have:Nat.beq n d=false:=(by cases hb:Nat.beq n d with|false=>rfl|true=>exact absurd (r9 hb) e);simp only[this,cond_false,Option.some.injEq];exact⟨.inl,fun h=>h.elim id fun h=>absurd h.symm e⟩
abbrev ng:Eff:=⟨.tup [],[],none,[]⟩
def AC.force (x:AC)(K:AC->Prop):Prop:=
 match x with|.t y=>K (.t y)|.f y=>K (.f y)|.nils n=>K (.nils n)|.nilp=>K .nilp|.own o=>K (.own o)|.sub o k=>K (.sub o k)|.ptr o k=>K (.ptr o k)|.opq=>K .opq|.mpv o=>K (.mpv o)
abbrev lq:List AC->(List AC->Prop)->Prop
 | [],K=>K []
 | c::cs,K=>c.force fun c=>lq cs fun cs=>K (c::cs)
def AR.force (x:AR)(K:AR->Prop):Prop:=
 match x with
 | .c y=>y.force fun y=>K (.c y)
 | .agg ys=>lq ys fun ys=>K (.agg ys)
abbrev pW:List AR->(List AR->Prop)->Prop
 | [],K=>K []
 | c::cs,K=>c.force fun c=>pW cs fun cs=>K (c::cs)
def AV.force (x:AV)(K:AV->Prop):Prop:=
 match x with
 | .r y=>y.force fun y=>K (.r y)
 | .tup ys=>pW ys fun ys=>K (.tup ys)
 | .el o sz i off=>K (.el o sz i off)
 | .ro fr row off=>K (.ro fr row off)
 | .unk=>K .unk
def AO.force (x:AO)(K:AO->Prop):Prop:=
 match x with
 | .arr true sz rows=>K (.arr true sz rows)
 | .arr false sz rows=>K (.arr false sz rows)
 | .box ys=>lq ys fun ys=>K (.box ys)
 | .dar sz rows none=>K (.dar sz rows none)
 | .mp kk es=>K (.mp kk es)
 | .dar sz rows (some (i,off,(n,j,l)))=>K (.dar sz rows (some (i,off,(n,j,l))))
abbrev nW:List (Id×Option AO)->(List (Id×Option AO)->Prop)->Prop
 | [],K=>K []
 |(o,none)::l,K=>nW l fun l=>K ((o,none)::l)
 |(o,some x)::l,K=>x.force fun x=>nW l fun l=>K ((o,some x)::l)
abbrev tY:List Id->(List Id->Prop)->Prop
 | [],K=>K []
 | ⟨a,b,d⟩::l,K=>tY l fun l=>K (⟨a,b,d⟩::l)
abbrev En:List (Id×Option AO)->(List Id->Prop)->Prop
 | [],K=>K []
 |(o,_)::l,K=>En l fun l=>K (o::l)
abbrev vH:List (Id×Option AO)->List (Id×Option AO)->(List (Id×Option AO)->Prop)->Prop
 | [],h,K=>K h
 | p::r,h,K=>vH r (p::h) K
def St.put (st:St)(d:Option Nat)(e:Eff)(K:St->List Id×List Id->Prop):Prop:=
 match st,e with
 | ⟨fr,h,u⟩,⟨v,us,new,R⟩=>v.force fun v=>nW us fun us=>tY R fun R=>En us fun ks=>vH us h fun h=>
   (
   match d with
   | some d=>(match new with
     | some n=>K ⟨(d,v)::fr,h,n::u⟩ (R,ks)
     | none=>K ⟨(d,v)::fr,h,u⟩ (R,ks))
   | none=>(match new with
     | some n=>K ⟨fr,h,n::u⟩ (R,ks)
     | none=>K ⟨fr,h,u⟩ (R,ks)))
theorem AC.force_eq (x:AC)(K:AC->Prop):x.force K=K x:=by cases x<;>rfl
theorem pt:∀(l:List AC) (K:List AC->Prop),lq l K=K l
 | [],K=>rfl
 | c::cs,K=>by rw[lq,AC.force_eq,pt cs]
theorem AR.force_eq (x:AR)(K:AR->Prop):x.force K=K x:=by cases x with|c c=>show c.force (fun c=>K (.c c))=_;rw[AC.force_eq]|agg cs=>show lq cs (fun cs=>K (.agg cs))=_;rw[pt]
theorem un:∀(l:List AR) (K:List AR->Prop),pW l K=K l
 | [],K=>rfl
 | c::cs,K=>by rw[pW,AR.force_eq,un cs]
theorem AV.force_eq (x:AV)(K:AV->Prop):x.force K=K x:=by cases x with|r x=>show x.force (fun c=>K (.r c))=_;rw[AR.force_eq]|tup xs=>show pW xs (fun c=>K (.tup c))=_;rw[un]|_=>rfl
theorem AO.force_eq (x:AO)(K:AO->Prop):x.force K=K x:=by
 cases x with
 | arr fr sz rows=>cases fr<;>rfl
 | box cs=>show lq cs (fun cs=>K (.box cs))=_;rw[pt]
 | mp kk es=>rfl
 | dar sz rows hole=>cases hole<;>rfl
theorem oS:∀(l:List (Id×Option AO)) (K:List (Id×Option AO)->Prop),nW l K=K l
 | [],K=>rfl
 |(o,none)::l,K=>by rw[nW,oS l]
 |(o,some x)::l,K=>by rw[nW,AO.force_eq,oS l]
theorem wg:∀(l:List Id) (K:List Id->Prop),tY l K=K l
 | [],K=>rfl
 | ⟨a,b,d⟩::l,K=>by rw[tY,wg l]
theorem BD:∀(l:List (Id×Option AO)) (K:List Id->Prop),En l K=K (l.map (·.1))
 | [],K=>rfl
 |(o,x)::l,K=>by rw[En,BD l];rfl
theorem rY:∀(us h:List (Id×Option AO)) (K:List (Id×Option AO)->Prop),vH us h K=K (so us h)
 | [],h,K=>rfl
 | p::r,h,K=>by rw[vH,rY r];rfl
theorem St.put_eq (st:St)(d:Option Nat)(e:Eff)(K:St->List Id×List Id->Prop):st.put d e K=K (st.app d e) (e.R,e.us.map (·.1)):=by
 obtain⟨fr,h,u⟩:=st;obtain⟨v,us,new,R⟩:=e;unfold St.put;simp only[AV.force_eq,oS,wg,BD,rY]
 cases d<;>cases new<;>rfl
def bD (o:Oper)(u:List Nat):Nat:=
 match o.dst with|some d=>d|none=>100000+u.length
def w1 (P:Program)(Γ:Env)(N:Nat)(o:Oper)(st:St)(K:St->List Id×List Id->Prop):Prop:=
 match o.dst with
 | some d=>(match Nat.blt d N with
   | true=>sem P Γ d o (evL (di st.fr)) (cf st.h) fun e=>
    (
     match e.new with
     | some n=>(match used st.u n with
      | false=>st.put (some d) e K
      | true=>False)
     | none=>st.put (some d) e K)
   | false=>False)
 | none=>sem P Γ (100000+st.u.length) o (evL (di st.fr)) (cf st.h) fun e=>
   (
   match e.new with
   | some n=>(match used st.u n with
     | false=>st.put none e K
     | true=>False)
   | none=>st.put none e K)
abbrev Log:=List (List Id×List Id)
def lit (st:St)(dj:Nat)(b:Bool):St:=match st with|⟨fr,h,u⟩=>⟨(dj,tB b)::fr,h,u⟩
def jk (ops:List Oper)(j:Nat):Option Nat:=(ops[j]?).bind (·.dst)
abbrev lD (P:Program)(Γ:Env)(N:Nat)(ops:List Oper):List Oper->St->Log->(St->Log->Prop)->Prop
 | [],st,log,K=>K st log
 | o::rest,st,log,K=>
  match o.guard with
  | none=>w1 P Γ N o st fun My e=>lD P Γ N ops rest My (e::log) K
  | some (j,want)=>
   (
    match jk ops j with
    | some dj=>
     (
     match di st.fr dj with
     | .r (.c (.t (.bool b)))=>
      (
       match want with
       | true=>ifB b (w1 P Γ N o (lit st dj true) fun My e=>lD P Γ N ops rest My (e::log) K)
        (
         match o.dst with
         | some d=>(match Nat.blt d N with
          | true=>(lit st dj false).put o.dst ng fun My e=>lD P Γ N ops rest My (e::log) K
          | false=>False)
         | none=>(lit st dj false).put none ng fun My e=>lD P Γ N ops rest My (e::log) K)
       | false=>ifB b
        (
         match o.dst with
         | some d=>(match Nat.blt d N with
          | true=>(lit st dj true).put o.dst ng fun My e=>lD P Γ N ops rest My (e::log) K
          | false=>False)
         | none=>(lit st dj true).put none ng fun My e=>lD P Γ N ops rest My (e::log) K)
        (w1 P Γ N o (lit st dj false) fun My e=>lD P Γ N ops rest My (e::log) K))
     | .tup []=>(match o.dst with
       | some d=>(match Nat.blt d N with
        | true=>st.put o.dst ng fun My e=>lD P Γ N ops rest My (e::log) K
        | false=>False)
       | none=>st.put none ng fun My e=>lD P Γ N ops rest My (e::log) K)
     | _=>False)
    | none=>False)
def eG (ops:List Oper)(s:F_)(o:Oper)(run:Bool):Prop:=
 match o.guard with|none=>run=true|some (j,want)=>(∃dj b,jk ops j=some dj/\s.L dj=tB b/\run=(b==want))\/(∃dj,jk ops j=some dj/\s.L dj= .tup []/\run=false)
structure StepOK (P:Program) (N:Nat) (ops:List Oper) (s:F_) (o:Oper) (run:Bool) (e:Eff):Prop where
 dst:∀d,o.dst=some d->d<N
 guard:eG ops s o run
 yes:run=true->Good P o (evL s.L) s.H e/\(∀n,e.new=some n->¬s.U n)
 no:run=false->e=ng
def gq (P:Program)(N:Nat)(ops:List Oper):F_->List Oper->List (Bool×Eff)->Prop
 | _,[],[]=>True
 | s,o::l,(b,e)::es=>StepOK P N ops s o b e/\gq P N ops (s.app o.dst e) l es
 | _,_,_=>False
def gO:F_->List Oper->List (Bool×Eff)->F_
 | s,o::l,(_,e)::es=>gO (s.app o.dst e) l es
 | s,_,_=>s
section
variable {P:Program} {Γ:Env} {N:Nat} {ops:List Oper}
theorem vX {st:St}{dj:Nat}{b:Bool}(h:di st.fr dj=tB b):(lit st dj b).fs=st.fs:=by
 obtain⟨fr,hh,u⟩:=st;refine F_.ext' (fun i=>?_) (fun _=>rfl) (fun _=>Iff.rfl);show(bif Nat.beq i dj then tB b else di fr i)=di fr i
 cases hb:Nat.beq i dj with|false=>rfl|true=>rw[r9 hb];exact h.symm
theorem V28{p:Prop}(h:p:=by
 intro d e h1;split at h1
 ·rename_i n hn;split at h1
  ·rename_i hu;rw[St.put_eq]at h1;exact⟨h1,fun n' So=>by rw[hn]at So;injection So with So;subst So;show ¬used st.u n=true;rw[hu];simp⟩
  ·exact h1.elim
 ·rename_i hn;rw[St.put_eq]at h1
  exact⟨h1,fun n' So=>by rw[hn]at So;cases So⟩):p:=h
theorem V23{p:Prop}(h:p:=by
 split at h
 ·rename_i d hd;split at h
  ·rename_i Mz;obtain⟨e,h1,h2⟩:=vq hΓ h;obtain⟨h3,h4⟩:=fin _ e h1;exact⟨e,by rw[hd];exact h3,fun d' NU=>by rw[hd]at NU;injection NU with NU;subst NU;simpa using Mz,h2,h4⟩
  ·exact h.elim
 ·rename_i hd;obtain⟨e,h1,h2⟩:=vq hΓ h;obtain⟨h3,h4⟩:=fin _ e h1
  exact⟨e,by rw[hd];exact h3,fun d' NU=>(by rw[hd]at NU;cases NU),h2,h4⟩):p:=h
theorem Lz {o:Oper}{st:St}{K:St->List Id×List Id->Prop}(hΓ:Γ.chk P=true)(h:w1 P Γ N o st K):
  ∃e,K (st.app o.dst e) (e.R,e.us.map (·.1))/\(∀d,o.dst=some d->d<N)/\Good P o (evL st.fs.L) st.fs.H e/\(∀n,e.new=some n->¬st.fs.U n):=by
 have fin:∀(d:Option Nat) (e:Eff),(match e.new with
     | some n=>(match used st.u n with
      | false=>st.put d e K
      | true=>False)
     | none=>st.put d e K)->K (st.app d e) (e.R,e.us.map (·.1))/\∀n,e.new=some n->¬st.fs.U n:=by
  exact V28
 unfold w1 at h;exact V23
theorem tX (hΓ:Γ.chk P=true):∀(l:List Oper) (st:St) (log:Log) (K:St->Log->Prop),lD P Γ N ops l st log K->
  ∃es My,es.length=l.length/\gq P N ops st.fs l es/\My.fs=gO st.fs l es/\K My ((es.map fun p=>(p.2.R,p.2.us.map (·.1))).reverse++log)
 | [],st,log,K,h=>⟨[],st,rfl,trivial,rfl,h⟩
 | o::rest,st,log,K,h=>by
  have yes:∀(st1:St) (want:Bool),st1.fs=st.fs->eG ops st.fs o true->(w1 P Γ N o st1 fun My e=>lD P Γ N ops rest My (e::log) K)->
    ∃es My,es.length=(o::rest).length/\gq P N ops st.fs (o::rest) es/\My.fs=gO st.fs (o::rest) es/\K My ((es.map fun p=>(p.2.R,p.2.us.map (·.1))).reverse++log):=by
   intro st1 want Pu hg h;obtain⟨e,h1,h2,h3,h4⟩:=Lz hΓ h;obtain⟨es,My,g1,g2,g3,g4⟩:=tX hΓ rest _ _ _ h1;rw[zp,Pu]at g2 g3;rw[Pu]at h3 h4;refine⟨(true,e)::es,My,by simp[g1],⟨⟨h2,hg,fun _=>⟨h3,h4⟩,fun h=>by cases h⟩,g2⟩,g3,?_⟩;simpa using g4
  have no:∀(
         st1:St),st1.fs=st.fs->eG ops st.fs o false->(match o.dst with
         | some d=>(match Nat.blt d N with
          | true=>st1.put o.dst ng fun My e=>lD P Γ N ops rest My (e::log) K
          | false=>False)
         | none=>st1.put none ng fun My e=>lD P Γ N ops rest My (e::log) K)->
    ∃es My,es.length=(o::rest).length/\gq P N ops st.fs (o::rest) es/\My.fs=gO st.fs (o::rest) es/\K My ((es.map fun p=>(p.2.R,p.2.us.map (·.1))).reverse++log):=by
   intro st1 Pu hg h;simp only[St.put_eq]at h
   have key:(∀d,o.dst=some d->d<N)/\lD P Γ N ops rest (st1.app o.dst ng) (([],[])::log) K:=by
    split at h
    ·rename_i d hd;split at h
     ·rename_i Mz;exact⟨fun d' NU=>by rw[hd]at NU;injection NU with NU;subst NU;simpa using Mz,h⟩
     ·exact h.elim
    ·rename_i hd;exact⟨fun d' NU=>(by rw[hd]at NU;cases NU),by rw[hd];exact h⟩
   obtain⟨es,My,g1,g2,g3,g4⟩:=tX hΓ rest _ _ _ key.2;rw[zp,Pu]at g2 g3;refine⟨(false,ng)::es,My,by simp[g1],⟨⟨key.1,hg,fun h=>(by cases h),fun _=>rfl⟩,g2⟩,g3,?_⟩;simpa using g4
  rw[lD]at h;split at h
  ·rename_i Ro;exact yes st true rfl (by unfold eG;rw[Ro]) h
  ·rename_i j want Ro;split at h
   ·rename_i dj XG;split at h
    ·rename_i b hb
     have QP:∀run,run=(b==want)->eG ops st.fs o run:=fun run hr=>by
      unfold eG;rw[Ro];exact .inl ⟨dj,b,XG,hb,hr⟩
     cases want with
     | true=>cases b with|true=>exact yes (lit st dj true) true (vX hb) (QP _ rfl) h|false=>exact no (lit st dj false) (vX hb) (QP _ rfl) h
     | false=>cases b with|true=>exact no (lit st dj true) (vX hb) (QP _ rfl) h|false=>exact yes (lit st dj false) false (vX hb) (QP _ rfl) h
    ·rename_i hb;exact no st rfl (by unfold eG;rw[Ro];exact .inr ⟨dj,XG,hb,rfl⟩) h
    ·exact h.elim
   ·exact h.elim
 termination_by l=>l.length
theorem rR {B:Nat}{M:Nat->Prop}{w0:Start}{ρ:Rho}{s:F_}{a:Act}{w:World}{o:Oper}{run:Bool}(hc:Conc N B M w0 ρ s a w)(hg:eG ops s o run):Region.wanted o (yielded ops.toArray a.tmps)=run:=by
 unfold eG at hg;split at hg
 ·rename_i h;simp[Region.wanted,h,hg]
 ·rename_i j want h;rcases hg with⟨dj,b,h1,h2,rfl⟩|⟨dj,h1,h2,rfl⟩
  ·have hv:=hc.slot dj;rw[h2]at hv;have e:=fD hv
   have hy:yielded ops.toArray a.tmps j=some b:=by
    unfold yielded;have:(ops.toArray[j]?).bind (·.dst)=some dj:=(by simpa [jk]using h1);rw[this];simp only[Option.bind_some]
    have Mz:dj<a.tmps.size:=by
     rcases m7 dj a.tmps.size with h'|h'
     ·exact h'
     ·simp[r7,F3 h',undef]at e
    rw[w7 Mz];have:a.tmps[dj]= .bool b:=(by simpa [r7,Mz]using e);rw[this]
   simp only[Region.wanted,h,hy]
   cases b<;>cases want<;>rfl
  ·have hv:=hc.slot dj;rw[h2]at hv;obtain⟨us,e,h3⟩:=hv
   have hy:yielded ops.toArray a.tmps j=none:=by
    unfold yielded;have:(ops.toArray[j]?).bind (·.dst)=some dj:=(by simpa [jk]using h1);rw[this];simp only[Option.bind_some];rcases m7 dj a.tmps.size with Mz|h'
    ·rw[w7 Mz];have:a.tmps[dj]= .tuple us:=(by simpa [r7,Mz]using e);rw[this]
    ·rw[F3 h']
   simp only[Region.wanted,h,hy]
   cases want<;>rfl
theorem qY {B:Nat}{M:Nat->Prop}{w0:Start}{Q:Exit->Act->World->Prop}:∀(l:List Oper) (es:List (Bool×Eff)) (s:F_) (ρ:Rho) (a:Act) (w:World),gq P N ops s l es->Conc N B M w0 ρ s a w->
  (∀ρ a w,Conc N B M w0 ρ (gO s l es) a w->Q .normal a w)->wpList P ops.toArray Q l a w
 | [],[],s,ρ,a,w,_,hc,hQ=>hQ ρ a w hc
 | o::l,(b,e)::es,s,ρ,a,w,NH,hc,hQ=>by
  obtain⟨h1,h2⟩:=NH;have hw:=rR hc h1.guard;unfold wpList
  cases b with
  | true=>
   rw[c7 hw];obtain⟨g1,g2⟩:=h1.yes rfl
   exact .inl (g1 N B M w0 ρ s a w Q _ hc (fun _ _=>rfl) (fun _ _=>rfl) g2 h1.dst fun v w' ρ' MB=>qY l es _ ρ' _ w' h2 MB hQ)
  | false=>
   rw[b8 (by rw[hw];simp)];have he:=h1.no rfl;subst he
   exact qY l es _ ρ _ w h2 (hc.put h1.dst (av:= .tup []) ⟨#[],rfl,trivial⟩ aaK []) hQ
 | [],_::_,_,_,_,_,h,_,_=>h.elim
 | _::_,[],_,_,_,_,h,_,_=>h.elim
def cJ (o:Oper):List Nat:=(o.after.toList.filter fun e=>Region.binds .any e).map (·.on)
def anc (ops:List Oper):Nat->Nat->List Nat
 | 0,_=>[]
 | f+1,i=>match ops[i]? with
  | some o=>(cJ o).flatMap fun j=>j::anc ops f j
  | none=>[]
def fd (ops:List Oper)(o:Oper):List Nat:=
 (o.op.operands.toList.filterMap fun|.tmp t=>some t|_=>none)++
 (
  match o.guard with
  | some (j,_)=>(jk ops j).toList
  | none=>[])
def Ki (t:Nat)(l:List Nat):Bool:=l.any (Nat.beq t)
def wI (o:Oper)(l:List Nat):Bool:=match o.dst with|some d=>Ki d l|none=>false
def lA (a b:Oper):Bool:=match a.dst,b.dst with|some d,some d'=>Nat.beq d d'|_,_=>false
def eV (ops:List Oper)(a b:Oper)(ra rb:List Id×List Id):Bool:=
 wI a (fd ops b)||wI b (fd ops a)||lA a b||ra.2.any (fun k=>kg k rb.1||kg k rb.2)||rb.2.any (fun k=>kg k ra.1)
def yW (ms:List Nat):List Nat->Nat->Nat
 | [],m=>m
 | j::js,m=>yW ms js (Nat.lor (Nat.lor m (Nat.pow 2 j)) (ms.getD j 0))
def DU:List Nat->List Oper->List Nat
 | ms,[]=>ms
 | ms,o::l=>DU (ms++[yW ms (cJ o) 0]) l
def ui (ops:List Oper)(m:Nat->Nat)(i:Nat)(o:Oper)(r:List Id×List Id):Nat->List Oper->Log->Bool
 | j,o'::l,r'::log=>(!eV ops o o' r r'||Nat.testBit (m j) i)&&ui ops m i o r (j+1) l log
 | _,_,_=>true
def oX (ops:List Oper)(m:Nat->Nat):Nat->List Oper->Log->Bool
 | i,o::l,r::log=>(cJ o).all (fun j=>Nat.blt j i)&&ui ops m i o r (i+1) l log&&oX ops m (i+1) l log
 | _,[],[]=>true
 | _,_,_=>false
def sS (ops:List Oper)(log:Log):Bool:=oX ops (fun j=>(DU [] ops).getD j 0) 0 ops log
def sel:F_->List Oper->List (Bool×Eff)->(Nat->Bool)->Nat->F_
 | s,o::l,(_,e)::es,S,k=>sel (if S k then s.app o.dst e else s) l es S (k+1)
 | s,_,_,_,_=>s
theorem yV:∀(l:List Oper) (es:List (Bool×Eff)) (s:F_) (S:Nat->Bool) (k:Nat),(∀i,k<=i->i<k+l.length->S i=true)->sel s l es S k=gO s l es
 | [],_,_,_,_,_=>by simp[sel,gO]
 | _::_,[],_,_,_,_=>by simp[sel,gO]
 | o::l,(b,e)::es,s,S,k,h=>by
  rw[sel,gO,c7 (h k (d8 _) s_)];exact yV l es _ S (k+1) fun i h1 h2=>h i o_ (by simp only[d5];omega)
theorem ml:∀(l:List Oper) (es:List (Bool×Eff)) (s:F_) (S:Nat->Bool) (k:Nat),(∀i,k<=i->i<k+l.length->S i=false)->sel s l es S k=s
 | [],_,_,_,_,_=>by simp[sel]
 | _::_,[],_,_,_,_=>by simp[sel]
 | o::l,(b,e)::es,s,S,k,h=>by
  rw[sel,b8 (by rw[h k (d8 _) s_];simp)];exact ml l es _ S (k+1) fun i h1 h2=>h i o_ (by simp only[d5];omega)
theorem nO:∀(l:List Oper) (es:List (Bool×Eff)) (s:F_) (S S':Nat->Bool) (k:Nat),(∀i,k<=i->S i=S' i)->sel s l es S k=sel s l es S' k
 | [],_,_,_,_,_,_=>by simp[sel]
 | _::_,[],_,_,_,_,_=>by simp[sel]
 | o::l,(b,e)::es,s,S,S',k,h=>by
  rw[sel,sel,h k (d8 _)];exact nO l es _ S S' (k+1) fun i hi=>h i o_
theorem mE:∀(us:List (Id×Option AO)) (H H':Id->Option AO) (o:Id),o∈us.map (·.1)->bP H us o=bP H' us o
 | p::us,H,H',o,h=>by
  rw[bP,bP];by_cases h':o∈us.map (·.1)
  ·exact mE us _ _ o h'
  ·rw[cz us _ o h',cz us _ o h'];simp only[p7,d6,h',or_false]at h;rw[c7 h,c7 h]
structure Apart (d d':Option Nat) (e e':Eff):Prop where
 dst:∀t,d=some t->d'≠some t
 keys:∀o,o∈e.us.map (·.1)->o∉e'.us.map (·.1)
theorem EA (L:Nat->AV)(d:Option Nat)(v:AV)(t:Nat):nh L d v t=if d=some t then v else L t:=by
 cases d with
 | none=>rfl
 | some d=>
  show(bif Nat.beq t d then v else L t)=_;by_cases e:d=t
  ·subst e;simp
  ·rw[b8 (by simpa using e)]
   cases hb:Nat.beq t d with|false=>rfl|true=>exact absurd (r9 hb).symm e
theorem Gv {s:F_}{d d':Option Nat}{e e':Eff}(h:Apart d d' e e'):(s.app d e).app d' e'=(s.app d' e').app d e:=by
 refine F_.ext' (fun t=>?_) (fun o=>?_) (fun n=>?_)
 ·show nh (nh s.L d e.v) d' e'.v t=nh (nh s.L d' e'.v) d e.v t;simp only[EA];by_cases h1:d=some t
  ·simp only[c7 h1,b8 (h.dst t h1)]
  ·simp only[b8 h1]
 ·show bP (bP s.H e.us) e'.us o=bP (bP s.H e'.us) e.us o;by_cases h1:o∈e.us.map (·.1)
  ·rw[cz e'.us _ o (h.keys o h1)];exact mE e.us _ _ o h1
  ·rw[cz e.us _ o h1];by_cases h2:o∈e'.us.map (·.1)
   ·exact mE e'.us _ _ o h2
   ·rw[cz e'.us _ o h2,cz e'.us _ o h2,cz e.us _ o h1]
 ·show((s.U n\/_)\/_)↔((s.U n\/_)\/_);constructor
  ·rintro((h|h)|h)
   ·exact .inl (.inl h)
   ·exact .inr h
   ·exact .inl (.inr h)
  ·rintro((h|h)|h)
   ·exact .inl (.inl h)
   ·exact .inr h
   ·exact .inl (.inr h)
theorem V72{p:Prop}(h:p:=by
 exact ih es _ (k+1) fun j o' b' e' h1 h2 h3=>QS (j+1) o' b' e' (by rw[show k+(j+1)=k+1+j by omega];exact h1) aaf aaw):p:=h
theorem yR:∀(l:List Oper) (es:List (Bool×Eff)) (s:F_) (S:Nat->Bool) (k i:Nat) (o:Oper) (b:Bool) (e:Eff),l[i]?=some o->es[i]?=some (b,e)->S (k+i)=false->
  (∀j o' b' e',i<j->S (k+j)=true->l[j]?=some o'->es[j]?=some (b',e')->Apart o.dst o'.dst e e')->
  sel s l es (fun n=>if n=k+i then true else S n) k=(sel s l es S k).app o.dst e
 | [],_,_,_,_,i,_,_,_,h,_,_,_=>by simp at h
 | _::_,[],_,_,_,i,_,_,_,_,h,_,_=>by simp at h
 | o0::l,(b0,e0)::es,s,S,k,0,o,b,e,ho,he,hS,QS=>by
  simp only[e8,Option.some.injEq,Prod.mk.injEq]at ho he;obtain⟨rfl,rfl⟩:=he;subst ho;rw[sel,sel];simp only[z4,if_true]at hS⊢;rw[b8 (by rw[hS];simp)]
  have e1:sel (s.app o0.dst e0) l es (fun n=>if n=k then true else S n) (k+1)=sel (s.app o0.dst e0) l es S (k+1):=
   nO l es _ _ _ _ fun i hi=>b8 o_
  rw[e1]
  have push:∀(l:List Oper) (es:List (Bool×Eff)) (s:F_) (k:Nat),(∀j o' b' e',S (k+j)=true->l[j]?=some o'->es[j]?=some (b',e')->Apart o0.dst o'.dst e0 e')->sel (s.app o0.dst e0) l es S k=(sel s l es S k).app o0.dst e0:=by
   intro l
   induction l with
   | nil=>intro es s k _;simp[sel]
   | cons o1 l ih=>
    intro es s k QS
    cases es with
    | nil=>simp[sel]
    | cons p es=>
     obtain⟨b1,e1⟩:=p;rw[sel,sel]
     cases hk:S k with
     | true=>
      simp only[if_true];rw[Gv (QS 0 o1 b1 e1 (by simpa using hk) s_ s_)]
      exact V72
     | false=>simp only[A2,if_false];exact V72
  exact push l es s (k+1) fun j o' b' e' h1 h2 h3=>QS (j+1) o' b' e' o_ (by rw[show k+(j+1)=k+1+j by omega];exact h1) aaf aaw
 | o0::l,(b0,e0)::es,s,S,k,i+1,o,b,e,ho,he,hS,QS=>by
  rw[sel,sel];have hk:(if k=k+(i+1)then true else S k)=S k:=b8 o_;simp only[hk]
  have:=yR l es (if S k then s.app o0.dst e0 else s) S (k+1) i o b e aas (by simpa using he) (by rw[show k+1+i=k+(i+1) by omega];exact hS)
   (fun j o' b' e' h1 h2 h3 h4=>QS (j+1) o' b' e' o_ (by rw[show k+(j+1)=k+1+j by omega];exact h2) aaw aax)
  rw[show k+1+i=k+(i+1) by omega]at this;exact this
theorem Hb:∀(l:List Oper) (es:List (Bool×Eff)) (s s':F_) (S S':Nat->Bool) (k t:Nat),s.L t=s'.L t->(∀j o',l[j]?=some o'->o'.dst=some t->S (k+j)=S' (k+j))->(sel s l es S k).L t=(sel s' l es S' k).L t
 | [],_,_,_,_,_,_,_,h,_=>by simpa [sel]using h
 | _::_,[],_,_,_,_,_,_,h,_=>by simpa [sel]using h
 | o::l,(b,e)::es,s,s',S,S',k,t,h,hS=>by
  rw[sel,sel];refine Hb l es _ _ S S' (k+1) t ?_ fun j o' h1 h2=>by have:=hS (j+1) o' aai h2;rwa [show k+(j+1)=k+1+j by omega]at this
  have app_L:∀s:F_,(s.app o.dst e).L t=if o.dst=some t then e.v else s.L t:=fun s=>EA s.L o.dst e.v t
  by_cases hd:o.dst=some t
  ·have:=hS 0 o s_ hd;simp only[z4]at this;rw[this]
   cases S' k with
   | true=>
    show(s.app o.dst e).L t=(s'.app o.dst e).L t
    rw[app_L,app_L,c7 hd,c7 hd]
   | false=>exact h
  ·have e1:(if S k then s.app o.dst e else s).L t=s.L t:=(by cases S k<;>simp[app_L,hd]);have e2:(if S' k then s'.app o.dst e else s').L t=s'.L t:=(by cases S' k<;>simp[app_L,hd]);rw[e1,e2,h]
theorem EJ:∀(l:List Oper) (es:List (Bool×Eff)) (s s':F_) (S S':Nat->Bool) (k:Nat) (q:Id),s.H q=s'.H q->(∀j o' b' e',l[j]?=some o'->es[j]?=some (b',e')->q∈e'.us.map (·.1)->S (k+j)=S' (k+j))->(sel s l es S k).H q=(sel s' l es S' k).H q
 | [],_,_,_,_,_,_,_,h,_=>by simpa [sel]using h
 | _::_,[],_,_,_,_,_,_,h,_=>by simpa [sel]using h
 | o::l,(b,e)::es,s,s',S,S',k,q,h,hS=>by
  rw[sel,sel];refine EJ l es _ _ S S' (k+1) q ?_ fun j o' b' e' h1 h2 h3=>by have:=hS (j+1) o' b' e' aai aaf h3;rwa [show k+(j+1)=k+1+j by omega]at this
  by_cases hd:q∈e.us.map (·.1)
  ·have:=hS 0 o b e s_ s_ hd;simp only[z4]at this;rw[this]
   cases S' k with|true=>exact mE e.us _ _ q hd|false=>exact h
  ·have e1:(if S k then s.app o.dst e else s).H q=s.H q:=by cases S k with|true=>exact cz e.us _ q hd|false=>rfl
   have e2:(if S' k then s'.app o.dst e else s').H q=s'.H q:=by cases S' k with|true=>exact cz e.us _ q hd|false=>rfl
   rw[e1,e2,h]
theorem GM:∀(l:List Oper) (es:List (Bool×Eff)) (s:F_) (S:Nat->Bool) (k n:Nat),(sel s l es S k).U n->s.U n\/∃j o' b' e',S (k+j)=true/\l[j]?=some o'/\es[j]?=some (b',e')/\e'.new=some n
 | [],_,_,_,_,_,h=> .inl (by simpa [sel]using h)
 | _::_,[],_,_,_,_,h=> .inl (by simpa [sel]using h)
 | o::l,(b,e)::es,s,S,k,n,h=>by
  rw[sel]at h;rcases GM l es _ S (k+1) n h with h'|⟨j,o',b',e',h1,h2,h3,h4⟩
  ·cases hk:S k with
   | true=>
    rw[hk]at h';rcases h' with h'|h'
    ·exact .inl h'
    ·exact .inr ⟨0,o,b,e,by simpa using hk,s_,s_,h'⟩
   | false=>rw[hk]at h';exact .inl h'
  ·exact .inr ⟨j+1,o',b',e',by rw[show k+(j+1)=k+1+j by omega];exact h1,by simpa using h2,by simpa using h3,h4⟩
theorem memN_iff {t:Nat}{l:List Nat}:Ki t l=true↔t∈l:=by simp[Ki]
theorem DG {ms:List Nat}:∀(js:List Nat) (m i:Nat),(yW ms js m).testBit i=true->m.testBit i=true\/∃j∈js,i=j\/(ms.getD j 0).testBit i=true
 | [],m,i,h=> .inl h
 | j::js,m,i,h=>by
  rw[yW]at h;rcases DG js _ i h with h|⟨k,h1,h2⟩
  ·have h:((m ||| 2^j) ||| ms.getD j 0).testBit i=true:=h;rw[Nat.testBit_or,Nat.testBit_or,w5,w5]at h;rcases h with(h|h)|h
   ·exact .inl h
   ·rw[Nat.testBit_two_pow]at h;exact .inr ⟨j,s_,.inl (by simpa using(f0 h).symm)⟩
   ·exact .inr ⟨j,s_,.inr h⟩
  ·exact .inr ⟨k,by simp[h1],h2⟩
theorem uZ:∀(l pre:List Oper) (ms:List Nat),pre++l=ops->ms.length=pre.length->(∀j i,(ms.getD j 0).testBit i=true->∃f,i∈anc ops f j)->∀j i,((DU ms l).getD j 0).testBit i=true->∃f,i∈anc ops f j
 | [],_,ms,_,_,h,j,i,hb=>h j i hb
 | o::l,pre,ms,he,hl,h,j,i,hb=>by
  refine uZ l (pre++[o]) (ms++[yW ms (cJ o) 0]) (by simpa using he) (by simp[hl]) (fun j i hb=>?_) j i hb;rcases B1 j ms.length with hj|hj|hj
  ·refine h j i ?_
   have e:(ms++[yW ms (cJ o) 0]).getD j 0=ms.getD j 0:=by simp only[List.getD_eq_getElem?_getD];rw[j7 hj]
   rwa [e]at hb
  ·subst hj;have e:(ms++[yW ms (cJ o) 0]).getD ms.length 0=yW ms (cJ o) 0:=s_;rw[e]at hb;have ho:ops[ms.length]?=some o:=(by rw[<-he,hl];simp);rcases DG _ _ _ hb with h1|⟨k,h1,h2⟩
   ·simp at h1
   ·rcases h2 with rfl|h2
    ·exact⟨1,by simp only[anc,ho];exact u0.2 ⟨_,h1,s_⟩⟩
    ·obtain⟨f,hf⟩:=h k i h2;exact⟨f+1,by simp only[anc,ho];exact u0.2 ⟨k,h1,z9 _ hf⟩⟩
  ·have e:(ms++[yW ms (cJ o) 0]).getD j 0=0:=by simp only[List.getD_eq_getElem?_getD];rw[e9 aab];rfl
   rw[e]at hb;simp at hb
section
variable {m:Nat->Nat}
theorem pC:∀(l:List Oper) (log:Log) (k:Nat),oX ops m k l log=true->∀i o,l[i]?=some o->∀j∈cJ o,j<k+i
 | [],_,_,_,i,o,h=>by simp at h
 | o0::l,[],k,h,_,_,_=>by simp[oX]at h
 | o0::l,r::log,k,h,i,o,ho=>by
  simp only[oX,b9,o8]at h
  cases i with
  | zero=>simp at ho;subst ho;intro j hj;simpa using h.1.1 j hj
  | succ i=>intro j hj;have:=pC l log (k+1) h.2 i o aas j hj;omega
theorem sJ:∀(l:List Oper) (log:Log) (i:Nat) (o:Oper) (r:List Id×List Id) (k:Nat),ui ops m i o r k l log=true->∀j o' r',l[j]?=some o'->log[j]?=some r'->eV ops o o' r r'=false\/(m (k+j)).testBit i=true
 | [],_,_,_,_,_,_,j,o',r',h,_=>by simp at h
 | _::_,[],_,_,_,_,_,j,o',r',_,h=>by simp at h
 | o0::l,r0::log,i,o,r,k,h,j,o',r',ho,hr=>by
  simp only[ui,b9,w5,u9]at h
  cases j with
  | zero=>
   simp at ho hr;subst ho;subst hr
   exact h.1
  | succ j=>have:=sJ l log i o r (k+1) h.2 j o' r' aas aaG;rwa [show k+1+j=k+(j+1) by omega]at this
theorem qz:∀(l:List Oper) (log:Log) (k:Nat),oX ops m k l log=true->∀i j o o' r r',i<j->l[i]?=some o->l[j]?=some o'->log[i]?=some r->log[j]?=some r'->eV ops o o' r r'=false\/(m (k+j)).testBit (k+i)=true
 | [],_,_,_,i,j,o,o',r,r',_,h,_,_,_=>by simp at h
 | _::_,[],_,_,i,j,o,o',r,r',_,_,_,h,_=>by simp at h
 | o0::l,r0::log,k,h,i,j,o,o',r,r',OB,h1,h2,h3,h4=>by
  simp only[oX,b9]at h;obtain⟨j,rfl⟩:∃j',j=j'+1:=⟨j-1,o_⟩
  cases i with
  | zero=>
   simp at h1 h3;subst h1;subst h3;have:=sJ l log k o0 r0 (k+1) h.1.2 j o' r' aaf aax
   rwa [show k+1+j=k+(j+1) by omega]at this
  | succ i=>have:=qz l log (k+1) h.2 i j o o' r r' o_ aai aaf aaw aax;rwa [show k+1+i=k+(i+1) by omega,show k+1+j=k+(j+1) by omega]at this
end
theorem BP {log:Log}(h:sS ops log=true):∀i o,ops[i]?=some o->∀j∈cJ o,j<i:=fun i o ho j hj=>by
 have:=pC ops log 0 h i o ho j hj;omega
theorem sE {log:Log}(h:sS ops log=true)(i j:Nat)(o o':Oper)(r r':List Id×List Id)(OB:i<j)(h1:ops[i]?=some o)(h2:ops[j]?=some o')(h3:log[i]?=some r)(h4:log[j]?=some r'):eV ops o o' r r'=false\/∃f,i∈anc ops f j:=by
 rcases qz ops log 0 h i j o o' r r' OB h1 h2 h3 h4 with h|h
 ·exact .inl h
 ·simp only[u5]at h;exact .inr (uZ ops [] [] rfl rfl (fun j i hb=>by simp at hb) j i h)
theorem lI {S:Nat->Bool}(hS:∀i o,ops[i]?=some o->S i=true->∀j∈cJ o,S j=true):∀(f i:Nat),S i=true->∀j∈anc ops f i,S j=true
 | 0,_,_,j,hj=>by simp[anc]at hj
 | f+1,i,hi,j,hj=>by
  simp only[anc]at hj;split at hj
  ·rename_i o ho;obtain⟨k,hk,hj⟩:=u0.1 hj;have XS:=hS i o ho hi k hk;rcases d6.1 hj with rfl|hj
   ·exact XS
   ·exact lI hS f k XS j hj
  ·simp at hj
theorem xv {S:Nat->Bool}(hS:∀i o,ops[i]?=some o->S i=true->∀j∈cJ o,S j=true){i:Nat}{o:Oper}(ho:ops[i]?=some o)(hr:∀j∈cJ o,S j=true)(f:Nat):∀j∈anc ops f i,S j=true:=by
 intro j hj
 cases f with
 | zero=>simp[anc]at hj
 | succ f=>
  simp only[anc,ho]at hj;obtain⟨k,hk,hj⟩:=u0.1 hj;rcases d6.1 hj with rfl|hj
  ·exact hr j hk
  ·exact lI hS f k (hr k hk) j hj
theorem qf:∀(l:List Oper) (es:List (Bool×Eff)) (s:F_) (k:Nat),gq P N ops s l es->∀i o b e,l[i]?=some o->es[i]?=some (b,e)->StepOK P N ops (sel s l es (fun n=>decide (n<k+i)) k) o b e
 | [],_,_,_,_,i,o,b,e,h,_=>by simp at h
 | _::_,[],_,_,h,_,_,_,_,_,_=>h.elim
 | o0::l,(b0,e0)::es,s,k,h,i,o,b,e,ho,he=>by
  cases i with
  | zero=>
   simp only[e8,Option.some.injEq,Prod.mk.injEq]at ho he;obtain⟨rfl,rfl⟩:=he;subst ho;rw[ml _ _ _ _ _ fun i h1 _=>by simp;omega]
   exact h.1
  | succ i=>have:=qf l es _ (k+1) h.2 i o b e aas (by simpa using he);rw[sel];have hd:decide (k<k+(i+1))=true:=s_;simp only[hd,if_true];rw[show k+(i+1)=k+1+i by omega];exact this
theorem nr:∀(l:List Oper) (es:List (Bool×Eff)) (s:F_) (T:Nat->Bool) (k d:Nat),s.U d->(sel s l es T k).U d
 | [],_,_,_,_,_,h=>by simpa [sel]using h
 | _::_,[],_,_,_,_,h=>by simpa [sel]using h
 | o::l,(b,e)::es,s,T,k,d,h=>by
  rw[sel];refine nr l es _ T (k+1) d ?_
  cases T k with|true=>exact .inl h|false=>exact h
theorem Es:∀(l:List Oper) (es:List (Bool×Eff)) (s:F_) (T:Nat->Bool) (k j d:Nat) (o':Oper) (b':Bool) (e':Eff),T (k+j)=true->l[j]?=some o'->es[j]?=some (b',e')->e'.new=some d->(sel s l es T k).U d
 | [],_,_,_,_,j,_,_,_,_,_,h,_,_=>by simp at h
 | _::_,[],_,_,_,j,_,_,_,_,_,_,h,_=>by simp at h
 | o::l,(b,e)::es,s,T,k,0,d,o',b',e',hT,hl,Rf,hn=>by
  simp only[e8,Option.some.injEq,Prod.mk.injEq,z4]at hl Rf hT;obtain⟨rfl,rfl⟩:=Rf;rw[sel,hT]
  exact nr l es _ T (k+1) d (.inr hn)
 | o::l,(b,e)::es,s,T,k,j+1,d,o',b',e',hT,hl,Rf,hn=>by
  rw[sel];exact Es l es _ T (k+1) j d o' b' e' (by rw[show k+1+j=k+(j+1) by omega];exact hT) aaF (by simpa using Rf) hn
theorem nz {s:F_}{es:List (Bool×Eff)}(NH:gq P N ops s ops es){i j n:Nat}{o o':Oper}{b b':Bool}{e e':Eff}(OB:i<j)(h1:ops[i]?=some o)(h2:ops[j]?=some o')(h3:es[i]?=some (b,e))(h4:es[j]?=some (b',e'))(h5:e.new=some n)(h6:e'.new=some n):False:=by
 have hs:=qf ops es s 0 NH j o' b' e' h2 h4
 cases b' with
 | true=>exact(hs.yes rfl).2 n h6 (Es ops es s _ 0 i n o b e (by simpa using OB) h1 h3 h5)
 | false=>rw[hs.no rfl]at h6;cases h6
theorem Good.mono {o:Oper}{ev XI:Operand->AV}{H H':Id->Option AO}{e:Eff}(h:Good P o ev H e)(h1:∀x∈o.op.operands.toList,XI x=ev x)(h2:∀id∈e.R,H' id=H id):Good P o XI H' e:=
 fun N B M w0 ρ s a w Q K hc Mx hR hn hd hK=>h N B M w0 ρ s a w Q K hc (fun x hx=>(Mx x hx).trans (h1 x hx)) (fun id MD=>(hR id MD).trans (h2 id MD)) hn hd hK
theorem rx {L L':Nat->AV}{o:Oper}(h:∀t,t∈fd ops o->L' t=L t):∀x∈o.op.operands.toList,evL L' x=evL L x:=by
 intro x hx
 cases x with|tmp t=>exact h t (by simp only[fd,d9,List.mem_filterMap];exact .inl ⟨.tmp t,hx,rfl⟩)|const=>rfl|global=>rfl|func=>rfl
theorem V9{p:Prop}(h:p:=by
 intro listed Nv hr i
 induction i using Nat.strongRecOn with
 | _ i ih=>
  intro hi
  cases hl:listed.getD i true with
  | true=>rfl
  | false=>
   have hm:i∈Region.ready .any ops.toArray listed:=by
    simp only[Region.ready,A7,F4,B0,hi,true_and,hl,F2,m9];have ho:ops.toArray[i]?=some ops[i]:=(by simp[hi]);rw[ho];simp only[x7,B5,Array.all_eq_true'];intro e he
    cases hb:Region.binds .any e with
    | false=>rfl
    | true=>have hj:e.on∈cJ ops[i]:=n7.2 ⟨e,A7.2 ⟨by simpa using he,hb⟩,rfl⟩;have Mz:=PX i ops[i] (i7 hi) e.on hj;have:=ih e.on o_ o_;have hs:e.on<listed.size:=o_;simp only[r7,w7 hs,B5]at this⊢;simp[this]
   rw[hr]at hm
   cases hm):p:=h
theorem V101{p:Prop}(h:p:=by
 intro listed ρ a w Nv hc hr;rw[yV ops es s _ 0 fun i _ hi=>Of listed Nv hr i o_]at hc
 exact hQ ρ a w hc):p:=h
theorem V11{p:Prop}(h:p:=by
 intro listed ρ a w Nv OW NB hc
 have Uo:∀i,i<ops.length->listed.getD i true=true:=by
  have MZ:((List.range ops.length).filter fun i=>listed.getD i true).length≥(List.range ops.length).length:=by simpa using OW
  have PS:=List.length_filter_eq_length_iff.1 (Nat.le_antisymm (F8 _ _) MZ);intro i hi;exact PS i (F4.2 hi)
 have hr:Region.ready .any ops.toArray listed=[]:=by rw[Region.ready,List.filter_eq_nil_iff];intro i hi;have:=Uo i (by simpa using hi);simp[this]
 exact⟨hr,Ng listed ρ a w Nv hc hr⟩):p:=h
theorem V10{p:Prop}(h:p:=by
 simp only[Region.ready,A7,F4,B0,b9,u9]at hi;obtain⟨h1,h2,h3⟩:=hi;have ho:ops[i]?=some ops[i]:=i7 h1;refine⟨h2,ops[i],ho,fun j hj=>?_⟩;have MX:ops.toArray[i]?=some ops[i]:=by simp[h1]
 rw[MX]at h3;simp only[x7,B5,Array.all_eq_true']at h3;obtain⟨e,he,rfl⟩:=n7.1 hj;obtain⟨XT,Ou⟩:=A7.1 he;have h4:=h3 e (by simpa using XT);simp only[Ou,Bool.not_true,C7]at h4;have Mz:=PX i ops[i] ho e.on hj;have hs:e.on<listed.size:=o_;simp only[r7,w7 hs,B5]at h4⊢
 exact h4):p:=h
theorem V103{p:Prop}(h:p:=by
 rw[Mw];rcases m7 j ops.length with h'|h'
 ·exact h'
 ·rw[e9 h']at h1;cases h1):p:=h
theorem V60{p:Prop}(h:p:=by
 intro n;simp only[r7,Array.getElem?_setIfInBounds,S];by_cases hn:i=n
 ·subst hn;have:i<listed.size:=o_;simp[this]
 ·rw[b8 hn,b8 (fun e=>hn e.symm)]):p:=h
theorem V6{p:Prop}(h:p:=by
 have key:∀(l:List Nat),l.Nodup->i∈l->(l.filter fun n=>if n=i then true else S n).length=(l.filter fun n=>S n).length+1:=by
  intro l
  induction l with
  | nil=>intro _ h;cases h
  | cons x l ih=>
   intro OR hm;have TX:=F0.1 OR;by_cases hx:x=i
   ·subst hx
    have e1:(l.filter fun n=>if n=x then true else S n)=l.filter fun n=>S n:=by apply List.filter_congr;intro n hn;have:n≠x:=fun e=>TX.1 (e▸hn);simp[this]
    simp only[B6,if_true,Ru,A2,if_false,d5];rw[e1]
   ·have:=ih TX.2 (by
               rcases d6.1 hm with h|h;· exact absurd h.symm hx
               ·exact h)
    simp only[B6,b8 hx]
    cases S x
    ·simp only[A2,if_false];exact this
    ·simp only[if_true,d5];rw[this]
 have h1:((List.range ops.length).filter fun n=>(listed.setIfInBounds i true).getD n true)=(List.range ops.length).filter fun n=>if n=i then true else S n:=List.filter_congr fun n _=>OJ n
 rw[h1,key _ List.nodup_range (F4.2 Ny)];have e:((List.range ops.length).filter fun n=>S n).length=((List.range ops.length).filter fun i=>listed.getD i true).length:=rfl
 omega):p:=h
theorem V41{p:Prop}(h:p:=by
 intro k o1 hk Pr j hj;rw[OJ]at Pr⊢;by_cases NS:j=i
 ·rw[c7 NS]
 ·rw[b8 NS];by_cases SE:k=i
  ·subst SE;rw[ho]at hk;injection hk with hk;subst hk;exact On j hj
  ·rw[b8 SE]at Pr
   exact NB k o1 hk Pr j hj):p:=h
theorem V36{p:Prop}(h:p:=by
 intro v w' ρ' MB;rw[<-MQ]at MB;refine ih (listed.setIfInBounds i true) ρ' _ w' (by simpa using Nv) Uv Qj ?_;rw[nO ops es s (fun n=>(listed.setIfInBounds i true).getD n true) (fun n=>if n=i then true else S n) 0 fun n _=>OJ n]
 exact MB):p:=h
theorem V25{p:Prop}(h:p:=by
 have hg:=Nq.guard;unfold eG at hg⊢;split at hg
 ·exact hg
 ·rename_i j want Ro;rcases hg with⟨dj,b1,k1,k2,k3⟩|⟨dj,k1,k2,k3⟩
  ·refine .inl ⟨dj,b1,k1,?_,k3⟩;rw[Og dj (by simp only[fd,Ro,d9];right;rw[k1];simp)];exact k2
  ·refine .inr ⟨dj,k1,?_,k3⟩;rw[Og dj (by simp only[fd,Ro,d9];right;rw[k1];simp)]
   exact k2):p:=h
theorem V19{p:Prop}(h:p:=by
 refine .inl (Qd N B M w0 ρ (sel s ops es S 0) a w Q _ hc (fun _ _=>rfl) (fun _ _=>rfl) (fun d hd hU=>?_) Nq.dst next);rcases GM ops es s S 0 d hU with h|⟨j,o',b',e',h1,h2,h3,h4⟩
 ·exact g2 d hd (nr ops es s _ 0 d h)
 ·simp only[u5]at h1;have NS:j≠i:=fun e=>by subst e;rw[Ru]at h1;cases h1
  rcases H4 NS with Mz|Uh
  ·exact nz NH Mz h2 ho h3 he h4 hd
  ·exact nz NH Uh ho h2 he h3 hd h4):p:=h
theorem V69{p:Prop}(h:p:=by
 rw[b8 (by rw[hw];simp)];have SO:=Nq.no rfl;subst SO
 exact next undef w ρ (hc.put Nq.dst (av:= .tup []) ⟨#[],rfl,trivial⟩ aaK [])):p:=h
theorem Fc {B:Nat}{M:Nat->Prop}{w0:Start}{Q:Exit->Act->World->Prop}(s:F_)(es:List (Bool×Eff))(Mw:es.length=ops.length)(NH:gq P N ops s ops es)(Pc:sS ops (es.map fun p=>(p.2.R,p.2.us.map (·.1)))=true)
  (hQ:∀ρ a w,Conc N B M w0 ρ (gO s ops es) a w->Q .normal a w):
  ∀(fuel:Nat) (listed:Array Bool) (ρ:Rho) (a:Act) (w:World),listed.size=ops.length->(ops.length<=fuel+((List.range ops.length).filter fun i=>listed.getD i true).length)->
   (∀i o,ops[i]?=some o->listed.getD i true=true->∀j∈cJ o,listed.getD j true=true)->
   Conc N B M w0 ρ (sel s ops es (fun i=>listed.getD i true) 0) a w->wpAny P .any ops.toArray Q fuel listed a w:=by
 have PX:=BP (ops:=ops) Pc
 have Of:∀listed:Array Bool,listed.size=ops.length->Region.ready .any ops.toArray listed=[]->∀i,i<ops.length->listed.getD i true=true:=by exact V9
 have Ng:∀(listed:Array Bool) (ρ:Rho) (a:Act) (w:World),listed.size=ops.length->Conc N B M w0 ρ (sel s ops es (fun i=>listed.getD i true) 0) a w->Region.ready .any ops.toArray listed=[]->Q .normal a w:=by exact V101
 intro fuel
 induction fuel with
 | zero=>exact V11
 | succ fuel ih=>
  intro listed ρ a w Nv OW NB hc;refine⟨Ng listed ρ a w Nv hc,fun i hi=>?_⟩
  obtain⟨Qo,o,ho,On⟩:listed.getD i true=false/\∃o,ops[i]?=some o/\∀j∈cJ o,listed.getD j true=true:=by exact V10
  have Ny:i<ops.length:=by
   rcases m7 i ops.length with h'|h'
   ·exact h'
   ·rw[e9 h']at ho;cases ho
  obtain⟨b,e,he⟩:∃b e,es[i]?=some (b,e):=⟨_,_,i7 o_⟩;have Nq:=qf ops es s 0 NH i o b e ho he;simp only[u5]at Nq
  let S:Nat->Bool:=fun i=>listed.getD i true
  have MV:∀j o' b' e',ops[j]?=some o'->es[j]?=some (b',e')->j≠i->(eV ops o o' (e.R,e.us.map (·.1)) (e'.R,e'.us.map (·.1))=true\/eV ops o' o (e'.R,e'.us.map (·.1)) (e.R,e.us.map (·.1))=true)->S j=decide (j<i):=by
   intro j o' b' e' MX Np MF MV;have g1:(es.map fun p=>(p.2.R,p.2.us.map (·.1)))[i]?=some (e.R,e.us.map (·.1)):=(by simp[he]);have g2:(es.map fun p=>(p.2.R,p.2.us.map (·.1)))[j]?=some (e'.R,e'.us.map (·.1)):=by simp[Np]
   have Up:∀(a b:Oper) (ra rb:List Id×List Id),eV ops a b ra rb=true->eV ops b a rb ra=true:=by
    intro a b ra rb h;simp only[eV,w5,y7]at h⊢;rcases h with(((h|h)|h)|⟨k,h1,h2|h2⟩)|⟨k,h1,h2⟩
    ·exact .inl (.inl (.inl (.inr h)))
    ·exact .inl (.inl (.inl (.inl h)))
    ·refine .inl (.inl (.inr ?_));unfold lA at h⊢;split at h
     ·rename_i d d' e1 e2;rw[e1,e2];simp at h⊢;exact h.symm
     ·cases h
    ·exact .inr ⟨k,h1,h2⟩
    ·exact .inl (.inr ⟨k,memI_iff.1 h2,.inr (memI_iff.2 h1)⟩)
    ·exact .inl (.inr ⟨k,h1,.inl h2⟩)
   rcases H4 MF with Mz|Uh
   ·have hd:decide (j<i)=true:=(by simpa using Mz);rw[hd];have N7:eV ops o' o (e'.R,e'.us.map (·.1)) (e.R,e.us.map (·.1))=true:=MV.elim (Up _ _ _ _) id;rcases sE Pc j i o' o _ _ Mz MX ho g2 g1 with h|⟨f,h⟩
    ·rw[N7]at h;cases h
    ·exact xv NB ho On _ j h
   ·have hd:decide (j<i)=false:=(by simp;omega);rw[hd];have N7:eV ops o o' (e.R,e.us.map (·.1)) (e'.R,e'.us.map (·.1))=true:=MV.elim id (Up _ _ _ _);rcases sE Pc i j o o' _ _ Uh ho MX g1 g2 with h|⟨f,h⟩
    ·rw[N7]at h;cases h
    ·cases hj:S j with
     | false=>rfl
     | true=>
      have:=lI NB _ j hj i h;rw[Qo]at this
      cases this
  have Ru:S i=false:=Qo
  have Og:∀t,t∈fd ops o->(sel s ops es S 0).L t=(sel s ops es (fun n=>decide (n<i)) 0).L t:=by
   intro t ht;refine Hb ops es s s S _ 0 t rfl fun j o' h1 h2=>?_;simp only[u5];by_cases NS:j=i
   ·subst NS;rw[Ru];simp
   ·have NP:j<es.length:=by exact V103
    refine MV j o' _ _ h1 (i7 NP) NS (.inl ?_);simp only[eV,w5];refine .inl (.inl (.inl (.inr ?_)));simp only[wI,h2];exact memN_iff.2 ht
  have TQ:∀q∈e.R,(sel s ops es S 0).H q=(sel s ops es (fun n=>decide (n<i)) 0).H q:=by
   intro q hq;refine EJ ops es s s S _ 0 q rfl fun j o' b' e' h1 h2 h3=>?_;simp only[u5];by_cases NS:j=i
   ·subst NS;rw[Ru];simp
   ·refine MV j o' b' e' h1 h2 NS (.inl ?_);simp only[eV,w5,y7];exact .inr ⟨q,h3,memI_iff.2 hq⟩
  have QS:∀j o' b' e',i<j->S (0+j)=true->ops[j]?=some o'->es[j]?=some (b',e')->Apart o.dst o'.dst e e':=by
   intro j o' b' e' OB R9 h1 h2;simp only[u5]at R9
   have Rc:eV ops o o' (e.R,e.us.map (·.1)) (e'.R,e'.us.map (·.1))=false:=by
    cases MB:eV ops o o' (e.R,e.us.map (·.1)) (e'.R,e'.us.map (·.1))with
    | false=>rfl
    | true=>have:=MV j o' b' e' h1 h2 o_ (.inl MB);rw[R9]at this;simp at this;omega
   simp only[eV,v9,F5,w5,not_or]at Rc;obtain⟨⟨⟨_,h5⟩,h6⟩,h7⟩:=Rc;refine⟨fun t ht VI=>?_,fun q hq MH=>?_⟩
   ·simp[lA,ht,VI]at h5
   ·exact(h6 q hq).2 (memI_iff.2 MH)
  have MQ:(sel s ops es (fun n=>if n=i then true else S n) 0)=(sel s ops es S 0).app o.dst e:=by have:=yR ops es s S 0 i o b e ho he (by simpa using Ru) QS;simpa using this
  have OJ:∀n,(listed.setIfInBounds i true).getD n true=(if n=i then true else S n):=by exact V60
  have Uv:ops.length<=fuel+((List.range ops.length).filter fun n=>(listed.setIfInBounds i true).getD n true).length:=by exact V6
  have Qj:∀k o1,ops[k]?=some o1->(listed.setIfInBounds i true).getD k true=true->∀j∈cJ o1,(listed.setIfInBounds i true).getD j true=true:=by exact V41
  have next:∀(v:Value) (w':World) (ρ':Rho),Conc N B M w0 ρ' ((sel s ops es S 0).app o.dst e) (a.put o.dst v) w'->wpAny P .any ops.toArray Q fuel (listed.setIfInBounds i true) (a.put o.dst v) w':=by exact V36
  have QP:eG ops (sel s ops es S 0) o b:=by exact V25
  have hw:=rR (ops:=ops) hc QP;unfold wpOp;have MX:ops.toArray[i]?=some o:=by simpa using ho
  rw[MX];show if Region.wanted o (yielded ops.toArray a.tmps)=true then _ else _
  cases b with
  | true=>
   rw[c7 hw];obtain⟨g1,g2⟩:=Nq.yes rfl;have Qd:=g1.mono (rx Og) TQ
   exact V19
  | false=>exact V69
end
def lE (ops:List Oper)(a b:Oper)(ra rb:List Id×List Id):Bool:=
 wI a (fd ops b)||wI b (fd ops a)||lA a b||ra.2.any (fun k=>kg k rb.1||kg k rb.2)
def clX (ops:List Oper)(xi xj i j:Nat)(a b:Oper)(ra rb:List Id×List Id):Bool:=
 bif Nat.beq i xi&&Nat.beq j xj then lE ops a b ra rb else bif Nat.beq j xi&&Nat.beq i xj then lE ops b a rb ra else eV ops a b ra rb||eV ops b a rb ra
def qK (ops:List Oper)(xi xj:Nat)(m:Nat->Nat)(i:Nat)(o:Oper)(r:List Id×List Id):Nat->List Oper->Log->Bool
 | j,o'::l,r'::log=>(!clX ops xi xj i j o o' r r'||Nat.testBit (m j) i)&&qK ops xi xj m i o r (j+1) l log
 | _,_,_=>true
def lg (ops:List Oper)(xi xj:Nat)(m:Nat->Nat):Nat->List Oper->Log->Bool
 | i,o::l,r::log=>(cJ o).all (fun j=>Nat.blt j i)&&qK ops xi xj m i o r (i+1) l log&&lg ops xi xj m (i+1) l log
 | _,[],[]=>true
 | _,_,_=>false
def lj (ops:List Oper)(xi xj:Nat)(log:Log):Bool:=Nat.blt xi xj&&lg ops xi xj (fun j=>(DU [] ops).getD j 0) 0 ops log
def w1T (P:Program)(Γ:Env)(N:Nat)(o:Oper)(st:St)(K:St->Eff->Prop):Prop:=
 match o.dst with
 | some d=>(match Nat.blt d N with
   | true=>sem P Γ d o (evL (di st.fr)) (cf st.h) fun e=>
    (
     match e.new with
     | some n=>(match used st.u n with
      | false=>st.put (some d) e fun My _=>K My e
      | true=>False)
     | none=>st.put (some d) e fun My _=>K My e)
   | false=>False)
 | none=>sem P Γ (100000+st.u.length) o (evL (di st.fr)) (cf st.h) fun e=>
   (
   match e.new with
   | some n=>(match used st.u n with
     | false=>st.put none e fun My _=>K My e
     | true=>False)
   | none=>st.put none e fun My _=>K My e)
abbrev Ek (P:Program)(Γ:Env)(N:Nat):List Oper->St->List (St×Eff)->(St->List (St×Eff)->Prop)->Prop
 | [],st,tr,K=>K st tr
 | o::rest,st,tr,K=>
  match o.guard with
  | none=>w1T P Γ N o st fun My e=>Ek P Γ N rest My ((st,e)::tr) K
  | some _=>False
def IG:List (St×Eff)->Log
 | []=>[]
 | p::l=>(p.2.R,p.2.us.map (·.1))::IG l
def GB (P:Program)(Γ:Env)(ops:List Oper)(xi xj:Nat)(tr:List (St×Eff)):Prop:=
 match ops[xi]?,tr[xi]?,tr[xj]? with
 | some o,some (sti,ei),some (_,ej)=>sem P Γ (bD o sti.u) o (evL (di sti.fr)) (cf (so ej.us sti.h)) fun e=>e=ei
 | _,_,_=>False
def JT (P:Program)(Γ:Env)(N:Nat)(ops:List Oper)(xi xj:Nat)(st:St)(K:St->Prop):Prop:=
 Ek P Γ N ops st [] fun My tr=>lj ops xi xj (IG tr.reverse)=true/\GB P Γ ops xi xj tr.reverse/\K My
section
variable {P:Program} {Γ:Env} {N:Nat} {ops:List Oper} {m:Nat->Nat} {xi xj:Nat}
theorem gM (ops:List Oper)(xi xj i j:Nat)(a b:Oper)(ra rb:List Id×List Id):
  (i=xi/\j=xj/\clX ops xi xj i j a b ra rb=lE ops a b ra rb)\/(j=xi/\i=xj/\(i≠xi\/j≠xj)/\clX ops xi xj i j a b ra rb=lE ops b a rb ra)\/
  (¬(i=xi/\j=xj)/\¬(j=xi/\i=xj)/\clX ops xi xj i j a b ra rb=(eV ops a b ra rb||eV ops b a rb ra)):=by
 have hb:∀p q p' q':Nat,(Nat.beq p q&&Nat.beq p' q')=true↔p=q/\p'=q':=fun p q p' q'=>by
  rw[b9];exact⟨fun h=>⟨r9 h.1,r9 h.2⟩,fun h=>by obtain⟨rfl,rfl⟩:=h;simp⟩
 unfold clX
 cases h1:(Nat.beq i xi&&Nat.beq j xj)with
 | true=>exact .inl ⟨((hb _ _ _ _).1 h1).1,((hb _ _ _ _).1 h1).2,rfl⟩
 | false=>
  have n1:¬(i=xi/\j=xj):=fun h=>by rw[(hb _ _ _ _).2 h]at h1;cases h1
  cases h2:(Nat.beq j xi&&Nat.beq i xj)with
  | true=>
   refine .inr (.inl ⟨((hb _ _ _ _).1 h2).1,((hb _ _ _ _).1 h2).2,?_,rfl⟩);by_cases e:i=xi
   ·exact .inr fun e2=>n1 ⟨e,e2⟩
   ·exact .inl e
  | false=>exact .inr (.inr ⟨n1,(fun h=>by rw[(hb _ _ _ _).2 h]at h2;cases h2),rfl⟩)
theorem GS {i j:Nat}{a b:Oper}{ra rb:List Id×List Id}(hx:xi<xj)(h:clX ops xi xj i j a b ra rb=true):clX ops xi xj j i b a rb ra=true:=by
 rcases gM ops xi xj i j a b ra rb with⟨e1,e2,e⟩|⟨e1,e2,_,e⟩|⟨n1,n2,e⟩<;>rw[e]at h
 ·rcases gM ops xi xj j i b a rb ra with⟨g1,g2,g⟩|⟨g1,g2,_,g⟩|⟨g1,g2,g⟩<;>rw[g]
  ·omega
  ·exact h
  ·exact absurd ⟨e1,e2⟩ g2
 ·rcases gM ops xi xj j i b a rb ra with⟨g1,g2,g⟩|⟨g1,g2,_,g⟩|⟨g1,g2,g⟩<;>rw[g]
  ·exact h
  ·omega
  ·exact absurd ⟨e1,e2⟩ g1
 ·rcases gM ops xi xj j i b a rb ra with⟨g1,g2,g⟩|⟨g1,g2,_,g⟩|⟨g1,g2,g⟩<;>rw[g]
  ·exact absurd ⟨g1,g2⟩ n2
  ·exact absurd ⟨g1,g2⟩ n1
  ·rw[Bool.or_comm];exact h
theorem Ha {i j:Nat}{o o':Oper}{r r':List Id×List Id}(h:wI o' (fd ops o)=true):clX ops xi xj i j o o' r r'=true:=by rcases gM ops xi xj i j o o' r r' with⟨e1,e2,e⟩|⟨e1,e2,_,e⟩|⟨n1,n2,e⟩<;>rw[e]<;>simp[lE,eV,h]
theorem xA {i j:Nat}{o o':Oper}{r r':List Id×List Id}(hx:¬(i=xi/\j=xj))(h:r'.2.any (fun k=>kg k r.1)=true):clX ops xi xj i j o o' r r'=true:=by
 have h2:r'.2.any (fun k=>kg k r.1||kg k r.2)=true:=by rw[y7]at h⊢;obtain⟨q,h1,h2⟩:=h;exact⟨q,h1,by rw[h2];rfl⟩
 rcases gM ops xi xj i j o o' r r' with⟨e1,e2,e⟩|⟨e1,e2,_,e⟩|⟨n1,n2,e⟩<;>rw[e]
 ·exact absurd ⟨e1,e2⟩ hx
 ·simp only[lE,h2,Bool.or_true]
 ·simp only[eV,h,Bool.or_true,Bool.true_or]
theorem FT {i j:Nat}{o o':Oper}{r r':List Id×List Id}(hx:xi<xj)(OB:i<j)(h:clX ops xi xj i j o o' r r'=false):lA o o'=false/\∀q∈r.2,¬kg q r'.2=true:=by
 have key:lE ops o o' r r'=false->lA o o'=false/\∀q∈r.2,¬kg q r'.2=true:=by intro h;simp only[lE,v9,F5,w5,not_or]at h;exact⟨h.1.2,fun q hq=>(h.2 q hq).2⟩
 rcases gM ops xi xj i j o o' r r' with⟨e1,e2,e⟩|⟨e1,e2,_,e⟩|⟨n1,n2,e⟩<;>rw[e]at h
 ·exact key h
 ·omega
 ·simp only[v9]at h;refine key ?_;have:=h.1;simp only[eV,v9]at this;simp only[lE,v9];exact this.1
theorem oy:∀(l:List Oper) (log:Log) (k:Nat),lg ops xi xj m k l log=true->∀i o,l[i]?=some o->∀j∈cJ o,j<k+i
 | [],_,_,_,i,o,h=>by simp at h
 | o0::l,[],k,h,_,_,_=>by simp[lg]at h
 | o0::l,r::log,k,h,i,o,ho=>by
  simp only[lg,b9,o8]at h
  cases i with
  | zero=>simp at ho;subst ho;intro j hj;simpa using h.1.1 j hj
  | succ i=>intro j hj;have:=oy l log (k+1) h.2 i o aas j hj;omega
theorem qM:∀(l:List Oper) (log:Log) (i:Nat) (o:Oper) (r:List Id×List Id) (k:Nat),qK ops xi xj m i o r k l log=true->∀j o' r',l[j]?=some o'->log[j]?=some r'->clX ops xi xj i (k+j) o o' r r'=false\/(m (k+j)).testBit i=true
 | [],_,_,_,_,_,_,j,o',r',h,_=>by simp at h
 | _::_,[],_,_,_,_,_,j,o',r',_,h=>by simp at h
 | o0::l,r0::log,i,o,r,k,h,j,o',r',ho,hr=>by
  simp only[qK,b9,w5,u9]at h
  cases j with
  | zero=>
   simp at ho hr;subst ho;subst hr
   exact h.1
  | succ j=>have:=qM l log i o r (k+1) h.2 j o' r' aas aaG;rwa [show k+1+j=k+(j+1) by omega]at this
theorem ob:∀(l:List Oper) (log:Log) (k:Nat),lg ops xi xj m k l log=true->∀i j o o' r r',i<j->l[i]?=some o->l[j]?=some o'->log[i]?=some r->log[j]?=some r'->clX ops xi xj (k+i) (k+j) o o' r r'=false\/(m (k+j)).testBit (k+i)=true
 | [],_,_,_,i,j,o,o',r,r',_,h,_,_,_=>by simp at h
 | _::_,[],_,_,i,j,o,o',r,r',_,_,_,h,_=>by simp at h
 | o0::l,r0::log,k,h,i,j,o,o',r,r',OB,h1,h2,h3,h4=>by
  simp only[lg,b9]at h;obtain⟨j,rfl⟩:∃j',j=j'+1:=⟨j-1,o_⟩
  cases i with
  | zero=>
   simp at h1 h3;subst h1;subst h3;have:=qM l log k o0 r0 (k+1) h.1.2 j o' r' aaf aax
   rwa [show k+1+j=k+(j+1) by omega]at this
  | succ i=>have:=ob l log (k+1) h.2 i j o o' r r' o_ aai aaf aaw aax;rwa [show k+1+i=k+(i+1) by omega,show k+1+j=k+(j+1) by omega]at this
theorem zo {log:Log}(h:lj ops xi xj log=true):∀i o,ops[i]?=some o->∀j∈cJ o,j<i:=fun i o ho j hj=>by
 have:=oy ops log 0 (by unfold lj at h;rw[b9]at h;exact h.2) i o ho j hj;omega
theorem pO {log:Log}(h:lj ops xi xj log=true)(i j:Nat)(o o':Oper)(r r':List Id×List Id)(OB:i<j)(h1:ops[i]?=some o)(h2:ops[j]?=some o')(h3:log[i]?=some r)(h4:log[j]?=some r'):clX ops xi xj i j o o' r r'=false\/∃f,i∈anc ops f j:=by
 rcases ob ops log 0 (by unfold lj at h;rw[b9]at h;exact h.2) i j o o' r r' OB h1 h2 h3 h4 with h|h
 ·simp only[u5]at h;exact .inl h
 ·simp only[u5]at h;exact .inr (uZ ops [] [] rfl rfl (fun j i hb=>by simp at hb) j i h)
theorem zT:∀(l:List Oper) (es:List (Bool×Eff)) (s:F_) (S:Nat->Bool) (k j:Nat) (o:Oper) (b:Bool) (e:Eff) (q:Id),l[j]?=some o->es[j]?=some (b,e)->S (k+j)=true->q∈e.us.map (·.1)->
  (∀j' o' b' e',j<j'->l[j']?=some o'->es[j']?=some (b',e')->q∈e'.us.map (·.1)->S (k+j')=false)->∀H:Id->Option AO,(sel s l es S k).H q=bP H e.us q
 | [],_,_,_,_,j,_,_,_,_,h,_,_,_,_=>by simp at h
 | _::_,[],_,_,_,j,_,_,_,_,_,h,_,_,_=>by simp at h
 | o0::l,(b0,e0)::es,s,S,k,0,o,b,e,q,ho,he,hS,hq,MR=>by
  intro H;simp only[e8,Option.some.injEq,Prod.mk.injEq,z4]at ho he hS;obtain⟨rfl,rfl⟩:=he;subst ho;rw[sel,c7 hS]
  have h1:=EJ l es (s.app o0.dst e0) (s.app o0.dst e0) S (fun _=>false) (k+1) q rfl fun j o' b' e' h1 h2 h3=>by
   have:=MR (j+1) o' b' e' o_ aai aaf h3;rwa [show k+(j+1)=k+1+j by omega]at this
  rw[h1,ml l es _ _ _ fun _ _ _=>rfl]
  exact mE e0.us _ _ q hq
 | o0::l,(b0,e0)::es,s,S,k,j+1,o,b,e,q,ho,he,hS,hq,MR=>by
  intro H;rw[sel];refine zT l es _ S (k+1) j o b e q aas (by simpa using he) (by rw[show k+1+j=k+(j+1) by omega];exact hS) hq (fun j' o' b' e' h0 h1 h2 h3=>?_) H;have:=MR (j'+1) o' b' e' o_ aai aaf h3;rwa [show k+(j'+1)=k+1+j' by omega]at this
theorem Kp {o:Oper}{st:St}{K:St->Eff->Prop}(hΓ:Γ.chk P=true)(h:w1T P Γ N o st K):
  ∃e,K (st.app o.dst e) e/\(∀d,o.dst=some d->d<N)/\Good P o (evL st.fs.L) st.fs.H e/\(∀n,e.new=some n->¬st.fs.U n):=by
 have fin:∀(d:Option Nat) (e:Eff),(match e.new with
     | some n=>(match used st.u n with
      | false=>st.put d e fun My _=>K My e
      | true=>False)
     | none=>st.put d e fun My _=>K My e)->K (st.app d e) e/\∀n,e.new=some n->¬st.fs.U n:=by
  exact V28
 unfold w1T at h;exact V23
theorem EH:∀(T:List (St×Eff)),IG T=(T.map fun p=>(true,p.2)).map fun p=>(p.2.R,p.2.us.map (·.1))
 | []=>rfl
 | p::T=>by rw[IG,EH T];rfl
theorem Az (hΓ:Γ.chk P=true):∀(l:List Oper) (st:St) (tr:List (St×Eff)) (K:St->List (St×Eff)->Prop),Ek P Γ N l st tr K->
  ∃(T:List (St×Eff)) (My:St),T.length=l.length/\gq P N ops st.fs l (T.map fun p=>(true,p.2))/\(∀k i p,T[i]?=some p->p.1.fs=sel st.fs l (T.map fun p=>(true,p.2)) (fun n=>decide (n<k+i)) k)/\My.fs=gO st.fs l (T.map fun p=>(true,p.2))/\K My (T.reverse++tr)
 | [],st,tr,K,h=>⟨[],st,rfl,trivial,fun _ _ _ h=>by simp at h,rfl,h⟩
 | o::rest,st,tr,K,h=>by
  rw[Ek]at h;split at h
  ·rename_i Ro;obtain⟨e,h1,h2,h3,h4⟩:=Kp hΓ h;obtain⟨T,My,g1,g2,g3,g4,g5⟩:=Az hΓ rest _ _ _ h1;rw[zp]at g2 g4;refine⟨(st,e)::T,My,by simp[g1],⟨⟨h2,by unfold eG;rw[Ro],fun _=>⟨h3,h4⟩,fun h=>by cases h⟩,g2⟩,fun k i p hp=>?_,g4,by simpa using g5⟩
   cases i with
   | zero=>
    simp only[e8,Option.some.injEq]at hp;subst hp
    rw[ml _ _ _ _ _ fun i h1 _=>by simp;omega]
   | succ i=>have:=g3 (k+1) i p (by simpa using hp);rw[zp]at this;rw[this,p7,sel];have hd:decide (k<k+(i+1))=true:=s_;simp only[hd,if_true];rw[show k+(i+1)=k+1+i by omega]
  ·exact h.elim
 termination_by l=>l.length
theorem CW {xi xj:Nat}{B:Nat}{M:Nat->Prop}{w0:Start}{Q:Exit->Act->World->Prop}(s:F_)(es:List (Bool×Eff))(Mw:es.length=ops.length)(NH:gq P N ops s ops es)(TZ:xi<xj)(Pc:lj ops xi xj (es.map fun p=>(p.2.R,p.2.us.map (·.1)))=true)
  {oi oj:Oper} {bj:Bool} {ei ej:Eff} (UP:ops[xi]?=some oi) (XH:es[xi]?=some (true,ei)) (WN:ops[xj]?=some oj) (Sh:es[xj]?=some (bj,ej)) (hX:Good P oi (evL (sel s ops es (fun n=>decide (n<xi)) 0).L) (bP (sel s ops es (fun n=>decide (n<xi)) 0).H ej.us) ei)
  (hQ:∀ρ a w,Conc N B M w0 ρ (gO s ops es) a w->Q .normal a w):
  ∀(fuel:Nat) (listed:Array Bool) (ρ:Rho) (a:Act) (w:World),listed.size=ops.length->(ops.length<=fuel+((List.range ops.length).filter fun i=>listed.getD i true).length)->
   (∀i o,ops[i]?=some o->listed.getD i true=true->∀j∈cJ o,listed.getD j true=true)->
   Conc N B M w0 ρ (sel s ops es (fun i=>listed.getD i true) 0) a w->wpAny P .any ops.toArray Q fuel listed a w:=by
 have PX:=zo (ops:=ops) Pc
 have Of:∀listed:Array Bool,listed.size=ops.length->Region.ready .any ops.toArray listed=[]->∀i,i<ops.length->listed.getD i true=true:=by exact V9
 have Ng:∀(listed:Array Bool) (ρ:Rho) (a:Act) (w:World),listed.size=ops.length->Conc N B M w0 ρ (sel s ops es (fun i=>listed.getD i true) 0) a w->Region.ready .any ops.toArray listed=[]->Q .normal a w:=by exact V101
 intro fuel
 induction fuel with
 | zero=>exact V11
 | succ fuel ih=>
  intro listed ρ a w Nv OW NB hc;refine⟨Ng listed ρ a w Nv hc,fun i hi=>?_⟩
  obtain⟨Qo,o,ho,On⟩:listed.getD i true=false/\∃o,ops[i]?=some o/\∀j∈cJ o,listed.getD j true=true:=by exact V10
  have Ny:i<ops.length:=by
   rcases m7 i ops.length with h'|h'
   ·exact h'
   ·rw[e9 h']at ho;cases ho
  obtain⟨b,e,he⟩:∃b e,es[i]?=some (b,e):=⟨_,_,i7 o_⟩;have Nq:=qf ops es s 0 NH i o b e ho he;simp only[u5]at Nq
  let S:Nat->Bool:=fun i=>listed.getD i true
  have MV:∀j o' b' e',ops[j]?=some o'->es[j]?=some (b',e')->j≠i->clX ops xi xj i j o o' (e.R,e.us.map (·.1)) (e'.R,e'.us.map (·.1))=true->S j=decide (j<i):=by
   intro j o' b' e' MX Np MF MV;have g1:(es.map fun p=>(p.2.R,p.2.us.map (·.1)))[i]?=some (e.R,e.us.map (·.1)):=(by simp[he]);have g2:(es.map fun p=>(p.2.R,p.2.us.map (·.1)))[j]?=some (e'.R,e'.us.map (·.1)):=(by simp[Np]);rcases H4 MF with Mz|Uh
   ·have hd:decide (j<i)=true:=(by simpa using Mz);rw[hd];have N7:clX ops xi xj j i o' o (e'.R,e'.us.map (·.1)) (e.R,e.us.map (·.1))=true:=GS TZ MV;rcases pO Pc j i o' o _ _ Mz MX ho g2 g1 with h|⟨f,h⟩
    ·rw[N7]at h;cases h
    ·exact xv NB ho On _ j h
   ·have hd:decide (j<i)=false:=(by simp;omega);rw[hd];rcases pO Pc i j o o' _ _ Uh ho MX g1 g2 with h|⟨f,h⟩
    ·rw[MV]at h;cases h
    ·cases hj:S j with
     | false=>rfl
     | true=>
      have:=lI NB _ j hj i h;rw[Qo]at this
      cases this
  have Ru:S i=false:=Qo
  have Og:∀t,t∈fd ops o->(sel s ops es S 0).L t=(sel s ops es (fun n=>decide (n<i)) 0).L t:=by
   intro t ht;refine Hb ops es s s S _ 0 t rfl fun j o' h1 h2=>?_;simp only[u5];by_cases NS:j=i
   ·subst NS;rw[Ru];simp
   ·have NP:j<es.length:=by exact V103
    refine MV j o' _ _ h1 (i7 NP) NS (Ha ?_);simp only[wI,h2];exact memN_iff.2 ht
  have P9:∀q∈e.R,(∀j o' b' e',ops[j]?=some o'->es[j]?=some (b',e')->q∈e'.us.map (·.1)->i=xi->j=xj->S j=false)->(sel s ops es S 0).H q=(sel s ops es (fun n=>decide (n<i)) 0).H q:=by
   intro q hq MR;refine EJ ops es s s S _ 0 q rfl fun j o' b' e' h1 h2 h3=>?_;simp only[u5];by_cases NS:j=i
   ·subst NS;rw[Ru];simp
   ·by_cases hx:i=xi/\j=xj
    ·rw[MR j o' b' e' h1 h2 h3 hx.1 hx.2];symm;rw[p9];omega
    ·refine MV j o' b' e' h1 h2 NS ?_;exact xA hx (y7.2 ⟨q,h3,memI_iff.2 hq⟩)
  have Tp:Good P o (evL (sel s ops es S 0).L) (sel s ops es S 0).H e\/b=false:=by
   cases b with
   | false=>exact .inr rfl
   | true=>
    left;obtain⟨k1,_⟩:=Nq.yes rfl;by_cases hx:i=xi/\S xj=true
    ·obtain⟨Sm,R9⟩:=hx;subst Sm;have eo:oi=o:=(by rw[ho]at UP;injection UP with h;exact h.symm);have ee:ei=e:=(by rw[he]at XH;injection XH with h;injection h with _ h;exact h.symm);subst eo;subst ee;have hg:=hX;refine hg.mono (rx Og) fun q hq=>?_;by_cases hk:q∈ej.us.map (·.1)
     ·have h1:=zT ops es s S 0 xj oj bj ej q WN Sh (by simpa using R9) hk (fun j o' b' e' hj h1 h2 h3=>by
       simp only[u5];have NS:j≠i:=o_;have hx:¬(i=i/\j=xj):=fun h=>o_;have:=MV j o' b' e' h1 h2 NS (xA hx (y7.2 ⟨q,h3,memI_iff.2 hq⟩))
       rw[this,p9];omega) (sel s ops es (fun n=>decide (n<i)) 0).H
      exact h1
     ·rw[cz ej.us _ q hk];refine P9 q hq fun j o' b' e' h1 h2 h3 _ OT=>?_;subst OT;rw[Sh]at h2;injection h2 with h2;injection h2 with _ h2;subst h2;exact absurd h3 hk
    ·refine k1.mono (rx Og) fun q hq=>P9 q hq fun j o' b' e' h1 h2 h3 Sm OT=>?_;subst OT
     cases hS:S j with|false=>rfl|true=>exact absurd ⟨Sm,hS⟩ hx
  have QS:∀j o' b' e',i<j->S (0+j)=true->ops[j]?=some o'->es[j]?=some (b',e')->Apart o.dst o'.dst e e':=by
   intro j o' b' e' OB R9 h1 h2;simp only[u5]at R9
   have Rc:clX ops xi xj i j o o' (e.R,e.us.map (·.1)) (e'.R,e'.us.map (·.1))=false:=by
    cases MB:clX ops xi xj i j o o' (e.R,e.us.map (·.1)) (e'.R,e'.us.map (·.1))with
    | false=>rfl
    | true=>have:=MV j o' b' e' h1 h2 o_ MB;rw[R9]at this;simp at this;omega
   obtain⟨h5,h6⟩:=FT TZ OB Rc;refine⟨fun t ht VI=>?_,fun q hq MH=>?_⟩
   ·simp[lA,ht,VI]at h5
   ·exact h6 q hq (memI_iff.2 MH)
  have MQ:(sel s ops es (fun n=>if n=i then true else S n) 0)=(sel s ops es S 0).app o.dst e:=by have:=yR ops es s S 0 i o b e ho he (by simpa using Ru) QS;simpa using this
  have OJ:∀n,(listed.setIfInBounds i true).getD n true=(if n=i then true else S n):=by exact V60
  have Uv:ops.length<=fuel+((List.range ops.length).filter fun n=>(listed.setIfInBounds i true).getD n true).length:=by exact V6
  have Qj:∀k o1,ops[k]?=some o1->(listed.setIfInBounds i true).getD k true=true->∀j∈cJ o1,(listed.setIfInBounds i true).getD j true=true:=by exact V41
  have next:∀(v:Value) (w':World) (ρ':Rho),Conc N B M w0 ρ' ((sel s ops es S 0).app o.dst e) (a.put o.dst v) w'->wpAny P .any ops.toArray Q fuel (listed.setIfInBounds i true) (a.put o.dst v) w':=by exact V36
  have QP:eG ops (sel s ops es S 0) o b:=by exact V25
  have hw:=rR (ops:=ops) hc QP;unfold wpOp;have MX:ops.toArray[i]?=some o:=by simpa using ho
  rw[MX];show if Region.wanted o (yielded ops.toArray a.tmps)=true then _ else _
  cases b with
  | true=>
   rw[c7 hw];obtain⟨g1,g2⟩:=Nq.yes rfl;have Qd:Good P o (evL (sel s ops es S 0).L) (sel s ops es S 0).H e:=Tp.resolve_right s_
   exact V19
  | false=>exact V69
theorem HM (hΓ:Γ.chk P=true){st:St}{K:St->Prop}(h:JT P Γ N ops xi xj st K):∃es My,es.length=ops.length/\gq P N ops st.fs ops es/\xi<xj/\lj ops xi xj (es.map fun p=>(p.2.R,p.2.us.map (·.1)))=true/\
  (∃oi oj bj ei ej,ops[xi]?=some oi/\es[xi]?=some (true,ei)/\ops[xj]?=some oj/\es[xj]?=some (bj,ej)/\Good P oi (evL (sel st.fs ops es (fun n=>decide (n<xi)) 0).L) (bP (sel st.fs ops es (fun n=>decide (n<xi)) 0).H ej.us) ei)/\My.fs=gO st.fs ops es/\K My:=by
 obtain⟨T,My,h1,h2,h3,h4,h5,h6,h7⟩:=Az (ops:=ops) hΓ ops st [] _ h;simp only[m6,List.reverse_reverse]at h5 h6;refine⟨T.map fun p=>(true,p.2),My,by simp[h1],h2,?_,by rw[<-EH];exact h5,?_,h4,h7⟩
 ·unfold lj at h5;rw[b9]at h5;simpa using h5.1
 ·unfold GB at h6;split at h6
  ·rename_i oi sti ei _ ej g1 g2 g3;obtain⟨e,g4,g5⟩:=vq hΓ h6;subst g4
   have hl:xj<ops.length:=by
    rw[<-h1];rcases m7 xj T.length with h'|h'
    ·exact h'
    ·rw[e9 h']at g3;cases g3
   have hs:=h3 0 xi _ g2;simp only[u5]at hs;refine⟨oi,ops[xj],true,e,ej,g1,by simp[g2],i7 hl,by simp[g3],?_⟩;rw[<-hs];have e2:bP sti.fs.H ej.us=cf (so ej.us sti.h):=(by funext o;exact(nK ej.us sti.h o).symm);show Good P oi (evL sti.fs.L) (bP sti.fs.H ej.us) e;rw[e2];exact g5
  ·exact h6.elim
end
end Go.Sim
