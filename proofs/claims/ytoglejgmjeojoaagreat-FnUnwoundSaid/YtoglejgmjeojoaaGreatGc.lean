import Derived.Test.YtoglejgmjeojoaaGreatGb
namespace Go.Sim
open Go.RowKit
section
variable {P:Program} {Γ:Env} {N B:Nat} {M:Nat->Prop} {w0:Start} {ρ:Rho} {s:FS} {a:Act} {w:World} {o:Oper} {ev:Operand->AV} {H:Id->Option AO} {K:Eff->Prop} {KV:AV->Prop}
theorem HB (x y:List UInt8):((⟨x.toArray⟩:ByteArray)==⟨y.toArray⟩)=(x==y):=by
 cases h:(x==y)with
 | true=>
  have e:x=y:=by simpa using h
  subst e
  exact(Go.MapKept.bytes_beq _ _).2 rfl
 | false=>
  cases h2:((⟨x.toArray⟩:ByteArray)==⟨y.toArray⟩)with
  | false=>rfl
  | true=>have e:=(Go.MapKept.bytes_beq _ _).1 h2;injection e with e;have:x=y:=(by simpa using e);subst this;simp at h
theorem jP {d:TypeDesc}{kk:Option IntKind}(hd:(∃k,d= .int k/\kk=some k)\/(d= .string/\kk=none)){x y:Tr}(hx:dn kk x)(hy:dn kk y):
  Instr.sameNow d (jJ x) (jJ y)=some (qm x y)/\Go.MapKept.IsKey d (jJ x):=by
 rcases hd with⟨k,rfl,rfl⟩|⟨rfl,rfl⟩
 ·cases x<;>simp only[dn]at hx
  cases y<;>simp only[dn]at hy
  subst hx;subst hy;simp[jJ,Instr.sameNow,qm,Go.MapKept.IsKey]
 ·cases x<;>simp only[dn]at hx
  cases y<;>simp only[dn]at hy
  refine⟨?_,trivial⟩;show some _=some _;rw[HB];rfl
theorem xB {kk:Option IntKind}{x y:Tr}(hx:dn kk x)(hy:dn kk y)(h:qm x y=true):jJ x=jJ y:=by
 cases kk with
 | some k=>
  cases x<;>simp only[dn]at hx
  cases y<;>simp only[dn]at hy
  subst hx;subst hy;simp only[qm,w8]at h
  rw[h]
 | none=>
  cases x<;>simp only[dn]at hx
  cases y<;>simp only[dn]at hy
  simp only[qm,w8]at h;rw[h]
theorem qH {d:TypeDesc}{kk:Option IntKind}(hd:(∃k,d= .int k/\kk=some k)\/(d= .string/\kk=none)){key:Tr}(hk:dn kk key):∀(l:List MapEntry) (es:List (Tr×Int)) (i:Nat),l.map (fun e=>(e.key,e.val))=es.map Cb->(∀p∈es,dn kk p.1)->
  (Instr.findNow d (jJ key) l i=some none/\jy es key=none/\(∀v,oo es key v=es++[(key,v)])/\oa es key=es)\/
  ∃j e q n,Instr.findNow d (jJ key) l i=some (some (i+j,.int .i64 n))/\l[j]?=some e/\e.key=jJ key/\jy es key=some n/\es[j]?=some (q,n)/\jJ q=jJ key/\(∀v,oo es key v=es.set j (q,v))/\oa es key=es.eraseIdx j
 | [],[],i,_,_=> .inl ⟨rfl,rfl,fun _=>rfl,rfl⟩
 | [],_::_,_,h,_=>by simp at h
 | _::_,[],_,h,_=>by simp at h
 | e::l,(q,n)::es,i,h,hf=>by
  simp only[p7,List.cons.injEq,Cb,Prod.mk.injEq]at h;obtain⟨⟨h1,h2⟩,h3⟩:=h;obtain⟨hs,_⟩:=jP hd hk (hf (q,n) s_);have hq:=hf (q,n) s_
  cases hb:qm key q with
  | true=>
   rw[hb]at hs;refine .inr ⟨0,e,q,n,?_,rfl,?_,?_,rfl,(xB hk hq hb).symm,fun v=>?_,?_⟩
   ·simp only[Instr.findNow,h1,hs,h2,z4]
   ·rw[h1];exact(xB hk hq hb).symm
   ·simp[jy,um,hb]
   ·simp[oo,BC,hb]
   ·simp[oa,zJ,hb]
  | false=>
   rw[hb]at hs;rcases qH hd hk l es (i+1) h3 (fun p hp=>hf p (by simp[hp]))with⟨g1,g2,g3,g4⟩|⟨j,e',q',n',g1,g2,g3,g4,g5,g6,g7,g8⟩
   ·refine .inl ⟨?_,?_,fun v=>?_,?_⟩
    ·simp only[Instr.findNow,h1,hs,g1]
    ·have QK:=g2;unfold jy at QK;simp[jy,um,hb,QK]
    ·have Ro:=g3 v;unfold oo at Ro;simp[oo,BC,hb,Ro]
    ·have Sl:=g4;unfold oa at Sl;simp[oa,zJ,hb,Sl]
   ·refine .inr ⟨j+1,e',q',n',?_,by simpa using g2,g3,?_,by simpa using g5,g6,fun v=>?_,?_⟩
    ·simp only[Instr.findNow,h1,hs,g1];congr 3;omega
    ·have Sl:=g4;unfold jy at Sl;simp[jy,um,hb,Sl]
    ·have XT:=g7 v;unfold oo at XT;simp[oo,BC,hb,XT]
    ·have Xi:=g8;unfold oa at Xi;simp[oa,zJ,hb,Xi]
theorem kg {α β:Type}(f:α->β):∀(l:List α) (j:Nat),(l.eraseIdx j).map f=(l.map f).eraseIdx j
 | [],_=>rfl
 | _::_,0=>rfl
 | x::l,j+1=>by simp[kg f l j]
theorem mx (hΓ:Γ.chk P=true){T:TypeId}{kk:Option IntKind}(h:nw Γ T=some kk):∃kt et d i,P.underlying T=some (.map kt et)/\P.underlying kt=some d/\((∃k,d= .int k/\kk=some k)\/(d= .string/\kk=none))/\P.info? et=some i/\i.zero=some (.int .i64 0):=by
 unfold nw at h
 cases hT:Γ.get T with
 | none=>rw[hT]at h;cases h
 | some ti=>
  rw[hT]at h;dsimp only at h;obtain⟨ii,d,fit⟩:=Env.fit hΓ hT;have hm:=fit.map;rw[h]at hm
  cases d<;>simp only[HH]at hm<;>try(cases hm;done)
  rename_i kt et;split at hm
  ·rename_i i hi;split at hm
   ·rename_i n hz;split at hm
    ·rename_i k h1 h2;injection hm with hm;have:n=0:=f0 h1;subst this;exact⟨kt,et,_,i,fit.und,h2,.inl ⟨k,rfl,hm.symm⟩,hi,hz⟩
    ·rename_i h1 h2;injection hm with hm;have:n=0:=f0 h1;subst this;exact⟨kt,et,_,i,fit.und,h2,.inr ⟨rfl,hm.symm⟩,hi,hz⟩
    ·cases hm
   ·cases hm
  ·cases hm
theorem Conc.mp (hc:Conc N B M w0 ρ s a w){q:Id}{kk:Option IntKind}{es:List (Tr×Int)}(h:s.H q=some (.mp kk es)):∃b ents clock,ρ q= .map (some b)/\w.heap[b]?=some (.map ents clock)/\ents.toList.map (fun e=>(e.key,e.val))=es.map Cb/\∀p∈es,dn kk p.1:=hc.obj q _ h
theorem Turn.setBlock (w:World)(b:Nat){ents:Array MapEntry}{clock:Nat}(hb:w.heap[b]?=some (.map ents clock))(x:Obj):Turn (fun k=>k=b) w (Go.ChangeMaps.setBlock w b x):=
 ⟨rfl,rfl,rfl,by simp[Go.ChangeMaps.setBlock],fun k _ hk=>Go.ChangeMaps.heap_setBlock_other hb x hk⟩
theorem yI {ok:Nat->Prop}{v:Value}{x:Tr}{kk:Option IntKind}(hk:dn kk x)(h:RT w ok v x):v=jJ x:=by
 cases x with
 | lst=>cases kk<;>exact hk.elim
 | bool=>cases kk<;>exact hk.elim
 | int k n=>cases h;rfl
 | str b=>cases h;rfl
theorem wV {T:TypeId}{d:Nat}{kk:Option IntKind}(MU:o.dst=some d)(ho:o.op= .makeMap T none):
  Good P o ev H ⟨.r (.c (.mpv (d,0,0))),[((d,0,0),some (.mp kk []))],some d,[]⟩:=by
 intro N B M w0 ρ s a w Q K hc Mw hR hn hd hK;rw[MU]at hd hK
 obtain⟨ρ',h'⟩:=hc.make (hd d rfl) (hn d rfl) (D:=fun _=>False) [] (Turn.alloc _ _ (.map #[] 0)) (v:= .map (some w.heap.size)) (vv:= .map (some w.heap.size)) (x:= .mp kk []) (av:= .r (.c (.mpv (d,0,0)))) (R:=[]) (fun _=>False) (fun _ h=>h.elim) (fun b hb=>by
   injection hb with hb;subst hb;exact⟨s_,.inl (d8 _)⟩) (fun _ h=>h.elim) aaP (fun id MC=>by
   simp[AV.ids,AR.ids,AC.ids]at MC;left;rw[MC]) (fun ρ' ok' hk _ hρ hq _=>⟨⟨w.heap.size,#[],0,hq,kM w _,rfl,s_⟩,⟨_,hq⟩,hq.symm⟩)
 have MD:(execOp a.eval o).run P w= .ok (.value (.map (some w.heap.size))) (w.alloc (.map #[] 0)):=by simp[execOp,ho,Instr.makeMap]
 exact V112
theorem yE {T:TypeId}{x k:Operand}{c:Bool}(hΓ:Γ.chk P=true)(ho:o.op= .lookup T x k c)(h:rn Γ T (ev x) (ev k) c H K):∃e,K e/\Good P o ev H e:=by
 have MF:x∈o.op.operands.toList:=by simp[ho,Op.operands]
 have Qb:k∈o.op.operands.toList:=by simp[ho,Op.operands]
 unfold rn at h;split at h
 ·rename_i q key hx Sw;split at h
  ·rename_i kk es hq;obtain⟨hm,hf,h⟩:=h;obtain⟨kt,et,d,i,u1,u2,hd,hi,hz⟩:=mx hΓ hm
   have base:∀(N B:Nat) (M:Nat->Prop) (w0:Start) (ρ:Rho) (s:FS) (a:Act) (w:World),Conc N B M w0 ρ s a w->(∀x∈o.op.operands.toList,evL s.L x=ev x)->s.H q=H q->
     (Instr.lookup T (a.eval x) (a.eval k) c).run P w= .ok (if c then .tuple #[.int .i64 (wj (jy es key)),.bool (jy es key).isSome]else .int .i64 (wj (jy es key))) w:=by
    intro N B M w0 ρ s a w hc Mw hR;obtain⟨b,ents,clock,g1,g2,g3,g4⟩:=hc.mp (hR.trans hq);have OC:=(hc.eval x).1;rw[Mw x MF,hx]at OC;have Xj:=(hc.eval k).1;rw[Mw k Qb,Sw]at Xj;have ex:a.eval x= .map (some b):=(by rw[<-g1];exact OC.2);have ek:a.eval k=jJ key:=yI hf Xj;have OI:=(jP hd hf hf).2;rw[ex,ek];have Uk:=fD (w:=w) hi hz;rcases qH hd hf ents.toList es 0 g3 g4 with⟨f1,f2,_,_⟩|⟨j,e,q',n,f1,_,_,f4,_⟩
    ·rw[f2]
     cases c<;>simp[Instr.lookup,run_underlying u1,Go.MapKept.run_getObj_map g2,Go.MapKept.run_checkKey u2 OI,Go.MapKept.run_findKey u2 f1,Uk,Result.andThen,wj]
    ·rw[f4]
     cases c<;>simp[Instr.lookup,run_underlying u1,Go.MapKept.run_getObj_map g2,Go.MapKept.run_checkKey u2 OI,Go.MapKept.run_findKey u2 f1,Result.andThen,wj]
   cases c with
   | true=>
    refine⟨_,h,aD fun N B M w0 ρ s a w hc Mw hR=>?_⟩;have:=base N B M w0 ρ s a w hc Mw (hR q s_)
    exact⟨_,by simp only[execOp,ho,m8,this,i9,o9];rfl,⟨#[.int .i64 (wj (jy es key)),.bool (jy es key).isSome],rfl,(show RRs _ _ _ _ [_,_] [_,_] from⟨RT.int _ _,RT.bool _,trivial⟩)⟩,by simp[AV.ids,AR.ids,AC.ids]⟩
   | false=>refine⟨_,h,aD fun N B M w0 ρ s a w hc Mw hR=>?_⟩;have:=base N B M w0 ρ s a w hc Mw (hR q s_);exact⟨_,by simp only[execOp,ho,m8,this,i9,o9];rfl,RT.int _ _,by simp[AV.ids,AR.ids,AC.ids]⟩
  ·exact h.elim
 ·exact h.elim
theorem yB {T:TypeId}{x k v:Operand}(hΓ:Γ.chk P=true)(ho:o.op= .mapUpdate T x k v\/o.op= .insert T x k v)(h:rH Γ T (ev x) (ev k) (ev v) H K):∃e,K e/\Good P o ev H e:=by
 have MF:x∈o.op.operands.toList:=by rcases ho with ho|ho<;>simp[ho,Op.operands]
 have Qb:k∈o.op.operands.toList:=by rcases ho with ho|ho<;>simp[ho,Op.operands]
 have VK:v∈o.op.operands.toList:=by rcases ho with ho|ho<;>simp[ho,Op.operands]
 unfold rH at h;split at h
 ·rename_i q key n hx Sw OC;split at h
  ·rename_i kk es hq;obtain⟨hm,hf,h⟩:=h;obtain⟨kt,et,d,i,u1,u2,hd,hi,hz⟩:=mx hΓ hm;refine⟨_,h,?_⟩;intro N B M w0 ρ s a w Q K hc Mw hR MP RY hK;have MG:s.H q=some (.mp kk es):=(by rw[hR q s_];exact hq);obtain⟨b,ents,clock,g1,g2,g3,g4⟩:=hc.mp MG;have e1:=(hc.eval x).1;rw[Mw x MF,hx]at e1;have e2:=(hc.eval k).1;rw[Mw k Qb,Sw]at e2;have e3:=(hc.eval v).1;rw[Mw v VK,OC]at e3;have ex:a.eval x= .map (some b):=(by rw[<-g1];exact e1.2);have ek:a.eval k=jJ key:=yI hf e2;have evv:a.eval v= .int .i64 n:=cE e3;have OI:=(jP hd hf hf).2
   have fin:∀(Nl:Array MapEntry) (N4:Nat) (NW:List (Tr×Int)),(Instr.mapUpdate T (.map (some b)) (jJ key) (.int .i64 n)).run P w= .ok () (Go.ChangeMaps.setBlock w b (.map Nl N4))->Nl.toList.map (fun e=>(e.key,e.val))=NW.map Cb->(∀p∈NW,dn kk p.1)->NW=oo es key n->o.wp P a w K Q:=by
    intro Nl N4 NW MD k1 k2 k3;subst k3;obtain⟨ρ',this⟩:=hc.upd MG (x':= .mp kk (oo es key n)) (b:=b) aah [] s_ (fun _=>False) (fun _ h=>h.elim) (Turn.setBlock w b g2 (.map Nl N4)) aaP (fun ρ' ok' hρ _ hk _ _ _=>⟨b,Nl,N4,by rw[hρ];exact g1,Go.ChangeMaps.heap_setBlock_same g2 _,k1,k2⟩) RY undef [q]
    have Nc:(execOp a.eval o).run P w= .ok .skip (Go.ChangeMaps.setBlock w b (.map Nl N4)):=by rcases ho with ho|ho<;>simp only[execOp,ho,ex,ek,evv,m8,MD,i9,o9]
    unfold Oper.wp;rw[Nc];exact hK _ _ ρ' this
   rcases qH hd hf ents.toList es 0 g3 g4 with⟨f1,f2,f3,_⟩|⟨j,e,q',n',f1,f2,f3,f4,f5,f6,f7,_⟩
   ·refine fin (ents.push {key:=jJ key,val:= .int .i64 n,born:=clock}) (clock+1) (es++[(key,n)]) ?_ ?_ ?_ (f3 n).symm
    ·simp[Instr.mapUpdate,run_underlying u1,Go.MapKept.run_getObj_map g2,Go.MapKept.run_checkKey u2 OI,Go.MapKept.run_findKey u2 f1,Go.MapKept.run_setObj_map _ g2,Result.andThen,Go.ChangeMaps.setBlock]
    ·simp[g3,Cb]
    ·intro p hp;rcases d9.1 hp with hp|hp
     ·exact g4 p hp
     ·rw[t7.1 hp];exact hf
   ·have So:ents[j]?=some e:=(by simpa using f2);refine fin (ents.modify j fun e=>{e with key:=jJ key,val:= .int .i64 n}) clock (es.set j (q',n)) ?_ ?_ ?_ (f7 n).symm
    ·have PY:(((ents[j]?).map (·.key)).getD (jJ key))=jJ key:=(by rw[So];simpa using f3);simp[Instr.mapUpdate,run_underlying u1,Go.MapKept.run_getObj_map g2,Go.MapKept.run_checkKey u2 OI,Go.MapKept.run_findKey u2 f1,PY,Go.MapKept.run_keyThatStays OI,Go.MapKept.run_setObj_map _ g2,Result.andThen,Go.ChangeMaps.setBlock]
    ·apply List.ext_getElem?
     intro m;have gm:=congrArg (·[m]?) g3;simp only[p6,Array.getElem?_toList,Array.getElem?_modify,List.getElem?_set]at gm⊢;by_cases XQ:j=m
     ·subst XQ;have My:j<es.length:=(by rcases m7 j es.length with h|h;exact h;rw[e9 h]at f5;cases f5);simp[So,My,Cb,f6]
     ·simp[XQ]at gm⊢;exact gm
    ·intro p hp;rcases u6 hp with hp|rfl
     ·exact g4 p hp
     ·exact g4 (q',n') (c9 f5)
  ·exact h.elim
 ·exact h.elim
theorem V50{p:Prop}(h:p:=by
 simp[Builtin.delete_,run_underlying u1,Go.MapKept.run_getObj_map g2,Go.MapKept.run_checkKey u2 OI,Go.MapKept.run_findKey u2 f1,Go.MapKept.run_setObj_map _ g2,Result.andThen,Go.ChangeMaps.setBlock]):p:=h
theorem zn {T T2:TypeId}{x k:Operand}(hΓ:Γ.chk P=true)(ho:o.op= .call {callee:= .builtin .delete,args:=⟨[x,k]⟩,argTypes:=⟨[T,T2]⟩})(h:rg Γ T (ev x) (ev k) H K):∃e,K e/\Good P o ev H e:=by
 have MF:x∈o.op.operands.toList:=by simp[ho,Op.operands,Call.operands]
 have Qb:k∈o.op.operands.toList:=by simp[ho,Op.operands,Call.operands]
 unfold rg at h;split at h
 ·rename_i q key hx Sw;split at h
  ·rename_i kk es hq;obtain⟨hm,hf,h⟩:=h;obtain⟨kt,et,d,i,u1,u2,hd,hi,hz⟩:=mx hΓ hm;refine⟨_,h,?_⟩;intro N B M w0 ρ s a w Q K hc Mw hR MP RY hK;have MG:s.H q=some (.mp kk es):=(by rw[hR q s_];exact hq);obtain⟨b,ents,clock,g1,g2,g3,g4⟩:=hc.mp MG;have e1:=(hc.eval x).1;rw[Mw x MF,hx]at e1;have e2:=(hc.eval k).1;rw[Mw k Qb,Sw]at e2;have ex:a.eval x= .map (some b):=(by rw[<-g1];exact e1.2);have ek:a.eval k=jJ key:=yI hf e2;have OI:=(jP hd hf hf).2
   have fin:∀(Nl:Array MapEntry) (NW:List (Tr×Int)),(Builtin.delete_ #[T,T2] o.type #[.map (some b),jJ key]).run P w= .ok (.tuple #[]) (Go.ChangeMaps.setBlock w b (.map Nl clock))->Nl.toList.map (fun e=>(e.key,e.val))=NW.map Cb->(∀p∈NW,dn kk p.1)->NW=oa es key->o.wp P a w K Q:=by
    intro Nl NW MD k1 k2 k3;subst k3;obtain⟨ρ',this⟩:=hc.upd MG (x':= .mp kk (oa es key)) (b:=b) aah [] s_ (fun _=>False) (fun _ h=>h.elim) (Turn.setBlock w b g2 (.map Nl clock)) aaP (fun ρ' ok' hρ _ hk _ _ _=>⟨b,Nl,clock,by rw[hρ];exact g1,Go.ChangeMaps.heap_setBlock_same g2 _,k1,k2⟩) RY (.tuple #[]) [q]
    have Nc:(execOp a.eval o).run P w= .ok (.value (.tuple #[])) (Go.ChangeMaps.setBlock w b (.map Nl clock)):=by simp only[execOp,ho,resolve,invoke,builtin,List.map_toArray,p7,C5,ex,ek,m8,o9,MD,i9]
    unfold Oper.wp;rw[Nc];exact hK _ _ ρ' this
   rcases qH hd hf ents.toList es 0 g3 g4 with⟨f1,f2,f3,f4⟩|⟨j,e,q',n',f1,f2,f3,_,f5,f6,_,f8⟩
   ·refine fin ents es ?_ g3 g4 f4.symm;exact V50
   ·refine fin (ents.eraseIdxIfInBounds j) (es.eraseIdx j) ?_ ?_ ?_ f8.symm
    ·exact V50
    ·have My:j<ents.size:=by
      rcases m7 j ents.size with h|h
      ·exact h
      ·have:ents.toList[j]?=none:=(by rw[e9];simpa using h);rw[this]at f2;cases f2
     rw[Array.eraseIdxIfInBounds,dif_pos My,Array.toList_eraseIdx,kg,g3,<-kg]
    ·exact fun p hp=>g4 p (List.mem_of_mem_eraseIdx hp)
  ·exact h.elim
 ·exact h.elim
end
section
variable {P:Program} {Γ:Env} {N B:Nat} {M:Nat->Prop} {w0:Start} {ρ ρ':Rho} {s:FS} {a:Act} {w w':World} {o:Oper} {ev:Operand->AV} {H:Id->Option AO} {K:Eff->Prop} {KV:AV->Prop}
def ext (θ θ':List (Id×Id)):Prop:=∀q o,lkI θ q=some o->lkI θ' q=some o
theorem ext.refl (θ:List (Id×Id)):ext θ θ:=fun _ _ h=>h
theorem ext.trans {θ θ' θ'':List (Id×Id)}(h:ext θ θ')(h':ext θ' θ''):ext θ θ'':=fun q o hq=>h' q o (h q o hq)
theorem yO {α:Type}(x y:Id)(A C:α):(bif fu x y then A else C)=if x=y then A else C:=by
 cases hb:fu x y with
 | true=>rw[idEq_iff]at hb;simp[hb]
 | false=>
  have:¬x=y:=fun e=>by rw[idEq_iff.2 e]at hb;cases hb
  simp[this]
theorem uP (i x:Id)(θ:List (Id×Id))(o:Id):lkI ((i,x)::θ) o=if o=i then some x else lkI θ o:=by rw[lkI,yO]
theorem oJ {θ:List (Id×Id)}{q o:Id}{K:List (Id×Id)->Prop}(h:BV θ q o K):∃θ',K θ'/\ext θ θ'/\lkI θ' q=some o:=by
 unfold BV at h;split at h
 ·rename_i o' hq;obtain⟨h1,h2⟩:=h;rw[idEq_iff]at h1;exact⟨θ,h2,ext.refl _,by rw[h1];exact hq⟩
 ·rename_i hq;refine⟨_,h,fun q' o' h'=>?_,by rw[uP,c7 rfl]⟩;rw[uP];split
  ·rename_i e;subst e;rw[hq]at h';cases h'
  ·exact h'
def relC (H:Id->Option AO)(θ:List (Id×Id))(bw:List Id)(x y:AC):Prop:=
 (∃o q,x= .own o/\y= .own q/\lkI θ q=some o)\/(∃o q n,x= .ptr o n/\y= .ptr q n/\lkI θ q=some o)\/(x= .nilp/\y= .nilp)\/(∃n m,x= .nils n/\y= .nils m)\/(∃o q,x= .mpv o/\y= .mpv q/\lkI θ q=some o)\/
  y= .opq\/∃t,y= .t t/\cv H x t/\∀o∈x.ids,o∈bw
theorem relC.mono {θ θ':List (Id×Id)}{bw Nr:List Id}{x y:AC}(h:relC H θ bw x y)(h1:ext θ θ')(h2:∀o∈bw,o∈Nr):relC H θ' Nr x y:=by
 rcases h with⟨o,q,rfl,rfl,h⟩|⟨o,q,n,rfl,rfl,h⟩|⟨rfl,rfl⟩|⟨n,m,rfl,rfl⟩|⟨o,q,rfl,rfl,h⟩|rfl|⟨t,rfl,h3,h4⟩
 ·exact .inl ⟨o,q,rfl,rfl,h1 _ _ h⟩
 ·exact .inr (.inl ⟨o,q,n,rfl,rfl,h1 _ _ h⟩)
 ·exact .inr (.inr (.inl ⟨rfl,rfl⟩))
 ·exact .inr (.inr (.inr (.inl ⟨n,m,rfl,rfl⟩)))
 ·exact .inr (.inr (.inr (.inr (.inl ⟨o,q,rfl,rfl,h1 _ _ h⟩))))
 ·exact .inr (.inr (.inr (.inr (.inr (.inl rfl)))))
 ·exact .inr (.inr (.inr (.inr (.inr (.inr ⟨t,rfl,h3,fun o ho=>h2 o (h4 o ho)⟩)))))
theorem V70{p:Prop}(h:p:=by
 exact⟨θ,_,h.2,ext.refl _,fun o ho=>z9 _ ho,.inr (.inr (.inr (.inr (.inr (.inr ⟨_,rfl,h.1,fun o ho=>by simp[AC.ids]at ho;simp[ho]⟩)))))⟩):p:=h
theorem Bo {θ:List (Id×Id)}{bw:List Id}{x y:AC}{K:List (Id×Id)->List Id->Prop}(h:maC H θ bw x y K):∃θ' Nr,K θ' Nr/\ext θ θ'/\(∀o∈bw,o∈Nr)/\relC H θ' Nr x y:=by
 unfold maC at h;split at h
 ·obtain⟨θ',h1,h2,h3⟩:=oJ h;exact⟨θ',bw,h1,h2,fun _ h=>h,.inl ⟨_,_,rfl,rfl,h3⟩⟩
 ·obtain⟨rfl,h⟩:=h;obtain⟨θ',h1,h2,h3⟩:=oJ h;exact⟨θ',bw,h1,h2,fun _ h=>h,.inr (.inl ⟨_,_,_,rfl,rfl,h3⟩)⟩
 ·exact⟨θ,bw,h,ext.refl _,fun _ h=>h,.inr (.inr (.inl ⟨rfl,rfl⟩))⟩
 ·obtain⟨θ',h1,h2,h3⟩:=oJ h;exact⟨θ',bw,h1,h2,fun _ h=>h,.inr (.inr (.inr (.inr (.inl ⟨_,_,rfl,rfl,h3⟩))))⟩
 ·exact⟨θ,bw,h,ext.refl _,fun _ h=>h,.inr (.inr (.inr (.inl ⟨_,_,rfl,rfl⟩)))⟩
 ·exact V70
 ·exact V70
 ·rename_i h1 h2;refine⟨θ,_,h.2,ext.refl _,fun _ h=>h,.inr (.inr (.inr (.inr (.inr (.inr ⟨_,rfl,h.1,fun o ho=>?_⟩)))))⟩;have ht:=h.1
  cases x with|own o=>exact absurd rfl (h1 o)|sub o k=>exact absurd rfl (h2 o k)|ptr o k=>exact ht.elim|t x=>simp[AC.ids]at ho|f x=>simp[AC.ids]at ho|nils n=>simp[AC.ids]at ho|nilp=>simp[AC.ids]at ho|opq=>simp[AC.ids]at ho|mpv o=>exact ht.elim
 ·exact⟨θ,bw,h,ext.refl _,fun _ h=>h,.inr (.inr (.inr (.inr (.inr (.inl rfl)))))⟩
 ·exact h.elim
def relCs (H:Id->Option AO)(θ:List (Id×Id))(bw:List Id):List AC->List AC->Prop
 | [],[]=>True
 | x::xs,y::ys=>relC H θ bw x y/\relCs H θ bw xs ys
 | _,_=>False
theorem relCs.mono {θ θ':List (Id×Id)}{bw Nr:List Id}:∀{xs ys:List AC},relCs H θ bw xs ys->ext θ θ'->(∀o∈bw,o∈Nr)->relCs H θ' Nr xs ys
 | [],[],_,_,_=>trivial
 | _::_,_::_,h,h1,h2=>⟨h.1.mono h1 h2,relCs.mono h.2 h1 h2⟩
 | [],_::_,h,_,_=>h.elim
 | _::_,[],h,_,_=>h.elim
theorem rC:∀{xs ys:List AC} {θ:List (Id×Id)} {bw:List Id} {K:List (Id×Id)->List Id->Prop},JC H θ bw xs ys K->∃θ' Nr,K θ' Nr/\ext θ θ'/\(∀o∈bw,o∈Nr)/\relCs H θ' Nr xs ys
 | [],[],_,_,_,h=>⟨_,_,h,ext.refl _,fun _ h=>h,trivial⟩
 | x::xs,y::ys,_,_,_,h=>by
  obtain⟨θ1,bw1,h1,h2,h3,h4⟩:=Bo h;obtain⟨θ2,bw2,h5,h6,h7,h8⟩:=rC h1
  exact⟨θ2,bw2,h5,h2.trans h6,fun o ho=>h7 o (h3 o ho),h4.mono h6 h7,h8⟩
 | [],_::_,_,_,_,h=>h.elim
 | _::_,[],_,_,_,h=>h.elim
def relV (H:Id->Option AO)(θ:List (Id×Id))(bw:List Id):AV->AV->Prop
 | .r (.c x),.r (.c y)=>relC H θ bw x y
 | .r (.agg xs),.r (.agg ys)=>relCs H θ bw xs ys
 | _,_=>False
theorem relV.mono {θ θ':List (Id×Id)}{bw Nr:List Id}{x y:AV}(h:relV H θ bw x y)(h1:ext θ θ')(h2:∀o∈bw,o∈Nr):relV H θ' Nr x y:=by
 unfold relV at h⊢;split at h
 ·exact relC.mono h h1 h2
 ·exact relCs.mono h h1 h2
 ·exact h.elim
theorem HP {θ:List (Id×Id)}{bw:List Id}{x y:AV}{K:List (Id×Id)->List Id->Prop}(h:maV H θ bw x y K):∃θ' Nr,K θ' Nr/\ext θ θ'/\(∀o∈bw,o∈Nr)/\relV H θ' Nr x y:=by
 unfold maV at h;split at h
 ·exact Bo h
 ·exact rC h
 ·exact h.elim
def relVs (H:Id->Option AO)(θ:List (Id×Id))(bw:List Id):List AV->List AV->Prop
 | [],[]=>True
 | x::xs,y::ys=>relV H θ bw x y/\relVs H θ bw xs ys
 | _,_=>False
theorem relVs.mono {θ θ':List (Id×Id)}{bw Nr:List Id}:∀{xs ys:List AV},relVs H θ bw xs ys->ext θ θ'->(∀o∈bw,o∈Nr)->relVs H θ' Nr xs ys
 | [],[],_,_,_=>trivial
 | _::_,_::_,h,h1,h2=>⟨h.1.mono h1 h2,relVs.mono h.2 h1 h2⟩
 | [],_::_,h,_,_=>h.elim
 | _::_,[],h,_,_=>h.elim
theorem xV:∀{xs ys:List AV} {θ:List (Id×Id)} {bw:List Id} {K:List (Id×Id)->List Id->Prop},Gt H θ bw xs ys K->∃θ' Nr,K θ' Nr/\ext θ θ'/\(∀o∈bw,o∈Nr)/\relVs H θ' Nr xs ys
 | [],[],_,_,_,h=>⟨_,_,h,ext.refl _,fun _ h=>h,trivial⟩
 | x::xs,y::ys,_,_,_,h=>by
  obtain⟨θ1,bw1,h1,h2,h3,h4⟩:=HP h;obtain⟨θ2,bw2,h5,h6,h7,h8⟩:=xV h1
  exact⟨θ2,bw2,h5,h2.trans h6,fun o ho=>h7 o (h3 o ho),h4.mono h6 h7,h8⟩
 | [],_::_,_,_,_,h=>h.elim
 | _::_,[],_,_,_,h=>h.elim
def relO (H:Id->Option AO)(θ:List (Id×Id))(bw:List Id)(x y:AO):Prop:=
 (∃cs ds,x= .box cs/\y= .box ds/\relCs H θ bw cs ds)\/(∃fr sz rows,x= .arr fr sz rows/\y= .arr false sz rows)\/(∃sz rows,x= .dar sz rows none/\y= .dar sz rows none)\/∃kk es,x= .mp kk es/\y= .mp kk es
theorem relO.mono {θ θ':List (Id×Id)}{bw Nr:List Id}{x y:AO}(h:relO H θ bw x y)(h1:ext θ θ')(h2:∀o∈bw,o∈Nr):relO H θ' Nr x y:=by
 rcases h with⟨cs,ds,rfl,rfl,h⟩|h|h
 ·exact .inl ⟨cs,ds,rfl,rfl,h.mono h1 h2⟩
 ·exact .inr (.inl h)
 ·exact .inr (.inr h)
theorem BS:∀{l:List (Id×AO)} {θ:List (Id×Id)} {bw:List Id} {K:List (Id×Id)->List Id->Prop},maO H θ bw l K->∃θ' Nr,K θ' Nr/\ext θ θ'/\(∀o∈bw,o∈Nr)/\∀p∈l,∃o x,lkI θ' p.1=some o/\H o=some x/\relO H θ' Nr x p.2
 | [],_,_,_,h=>⟨_,_,h,ext.refl _,fun _ h=>h,s_⟩
 |(q,y)::l,θ,bw,K,h=>by
  simp only[maO]at h;split at h
  ·rename_i o hq
   have one:∀{θ1:List (Id×Id)} {bw1:List Id} {x:AO},maO H θ1 bw1 l K->ext θ θ1->(∀o∈bw,o∈bw1)->H o=some x->relO H θ1 bw1 x y->
     ∃θ' Nr,K θ' Nr/\ext θ θ'/\(∀o∈bw,o∈Nr)/\∀p∈(q,y)::l,∃o x,lkI θ' p.1=some o/\H o=some x/\relO H θ' Nr x p.2:=by
    intro θ1 bw1 x h1 h2 h3 h4 h5;obtain⟨θ2,bw2,k1,k2,k3,k4⟩:=BS h1;refine⟨θ2,bw2,k1,h2.trans k2,fun o ho=>k3 o (h3 o ho),fun p hp=>?_⟩;rcases d6.1 hp with rfl|hp
    ·exact⟨o,x,k2 _ _ (h2 _ _ hq),h4,h5.mono k2 k3⟩
    ·exact k4 p hp
   split at h
   ·rename_i cs hx;split at h
    ·rename_i ds;obtain⟨θ1,bw1,h1,h2,h3,h4⟩:=rC h;exact one h1 h2 h3 hx (.inl ⟨cs,ds,rfl,rfl,h4⟩)
    ·exact h.elim
   ·rename_i fr sz rows hx;split at h
    ·rename_i fr' MR rows';obtain⟨rfl,rfl,rfl,h⟩:=h;exact one h (ext.refl _) (fun _ h=>h) hx (.inr (.inl ⟨fr,_,_,rfl,rfl⟩))
    ·exact h.elim
   ·rename_i sz rows hx;split at h
    ·obtain⟨rfl,rfl,h⟩:=h;exact one h (ext.refl _) (fun _ h=>h) hx (.inr (.inr (.inl ⟨_,_,rfl,rfl⟩)))
    ·exact h.elim
   ·rename_i kk es hx;split at h
    ·obtain⟨rfl,rfl,h⟩:=h;exact one h (ext.refl _) (fun _ h=>h) hx (.inr (.inr (.inr ⟨_,_,rfl,rfl⟩)))
    ·exact h.elim
   ·exact h.elim
  ·exact h.elim
theorem ig {l:List (Id×AO)}{q:Id}{y:AO}(h:lkH l q=some y):(q,y)∈l:=by
 induction l with
 | nil=>cases h
 | cons p l ih=>
  obtain⟨i,x⟩:=p;rw[lkH,yO]at h;split at h
  ·rename_i e;injection h with h;subst e;subst h;simp
  ·exact z9 _ (ih h)
theorem uZ {l:List (Id×AO)}(hn:(l.map (·.1)).Nodup){q:Id}{y:AO}(h:(q,y)∈l):lkH l q=some y:=by
 induction l with
 | nil=>cases h
 | cons p l ih=>
  obtain⟨i,x⟩:=p;rw[lkH,yO];simp only[p7,F0]at hn;rcases d6.1 h with h|h
  ·injection h with h1 h2;subst h1;subst h2;simp
  ·have:q≠i:=fun e=>hn.1 (by rw[<-e];exact n7.2 ⟨_,h,rfl⟩);rw[b8 this];exact ih hn.2 h
theorem Dv {l:List (Id×AO)}{q:Id}(h:q∈l.map (·.1)):(lkH l q).isSome=true:=by
 induction l with
 | nil=>cases h
 | cons p l ih=>
  obtain⟨i,x⟩:=p;rw[lkH,yO];split
  ·rfl
  ·rename_i ME;simp only[p7,d6]at h;exact ih (h.resolve_left ME)
theorem ip {θ:List (Id×Id)}{q o:Id}(h:lkI θ q=some o):(q,o)∈θ:=by
 induction θ with
 | nil=>cases h
 | cons p l ih=>
  obtain⟨i,x⟩:=p;rw[uP]at h;split at h
  ·rename_i e;injection h with h;subst e;subst h;simp
  ·exact z9 _ (ih h)
theorem Fj {θ:List (Id×Id)}(hn:(θ.map (·.2)).Nodup){q q' o:Id}(h:(q,o)∈θ)(h':(q',o)∈θ):q=q':=by
 induction θ with
 | nil=>cases h
 | cons p l ih=>
  simp only[p7,F0]at hn;rcases d6.1 h with e|h1
  ·rcases d6.1 h' with e'|T5
   ·rw[<-e]at e';injection e' with e';exact e'.symm
   ·exact absurd (n7.2 ⟨_,T5,by rw[<-e]⟩) hn.1
  ·rcases d6.1 h' with e'|T5
   ·exact absurd (n7.2 ⟨_,h1,by rw[<-e']⟩) hn.1
   ·exact ih hn.2 h1 T5
theorem relC.congr {H':Id->Option AO}{θ:List (Id×Id)}{bw:List Id}{x y:AC}(hH:∀o∈bw,H' o=H o)(h:relC H θ bw x y):relC H' θ bw x y:=by
 rcases h with h|h|h|h|h|rfl|⟨t,rfl,h3,h4⟩
 ·exact .inl h
 ·exact .inr (.inl h)
 ·exact .inr (.inr (.inl h))
 ·exact .inr (.inr (.inr (.inl h)))
 ·exact .inr (.inr (.inr (.inr (.inl h))))
 ·exact .inr (.inr (.inr (.inr (.inr (.inl rfl)))))
 ·exact .inr (.inr (.inr (.inr (.inr (.inr ⟨t,rfl,lj (fun o ho=>hH o (h4 o ho)) h3,h4⟩)))))
theorem relCs.congr {H':Id->Option AO}{θ:List (Id×Id)}{bw:List Id}(hH:∀o∈bw,H' o=H o):∀{xs ys:List AC},relCs H θ bw xs ys->relCs H' θ bw xs ys
 | [],[],_=>trivial
 | _::_,_::_,h=>⟨h.1.congr hH,relCs.congr hH h.2⟩
 | [],_::_,h=>h.elim
 | _::_,[],h=>h.elim
theorem relV.congr {H':Id->Option AO}{θ:List (Id×Id)}{bw:List Id}(hH:∀o∈bw,H' o=H o){x y:AV}(h:relV H θ bw x y):relV H' θ bw x y:=by
 unfold relV at h⊢;split at h
 ·exact relC.congr hH h
 ·exact relCs.congr hH h
 ·exact h.elim
theorem relVs.congr {H':Id->Option AO}{θ:List (Id×Id)}{bw:List Id}(hH:∀o∈bw,H' o=H o):∀{xs ys:List AV},relVs H θ bw xs ys->relVs H' θ bw xs ys
 | [],[],_=>trivial
 | _::_,_::_,h=>⟨h.1.congr hH,relVs.congr hH h.2⟩
 | [],_::_,h=>h.elim
 | _::_,[],h=>h.elim
theorem relO.congr {H':Id->Option AO}{θ:List (Id×Id)}{bw:List Id}(hH:∀o∈bw,H' o=H o){x y:AO}(h:relO H θ bw x y):relO H' θ bw x y:=by
 rcases h with⟨cs,ds,rfl,rfl,h⟩|h
 ·exact .inl ⟨cs,ds,rfl,rfl,h.congr hH⟩
 ·exact .inr h
def JL (ρ:Rho)(θ:List (Id×Id))(al:Nat->Prop):Rho:=⟨fun q=>match lkI θ q with|some o=>ρ o|none=> .tuple #[],fun q c=>match lkI θ q with|some o=>ρ.fp o c|none=>False,al⟩
theorem eL {θ:List (Id×Id)}{al:Nat->Prop}{q o:Id}(h:lkI θ q=some o):JL ρ θ al q=ρ o:=by show(match lkI θ q with|some o=>ρ o|none=> .tuple #[])=ρ o;rw[h]
theorem Ej {θ:List (Id×Id)}{al:Nat->Prop}{q o:Id}(h:lkI θ q=some o)(c:Nat):(JL ρ θ al).fp q c↔ρ.fp o c:=by show(match lkI θ q with|some o=>ρ.fp o c|none=>False)↔_;rw[h]
theorem kW {θ:List (Id×Id)}{al:Nat->Prop}{q o:Id}(h:lkI θ q=some o)(b:Nat):Own (JL ρ θ al) q b↔Own ρ o b:=by unfold Own;rw[eL h,Ej h]
structure Bound (s:FS) (θ:List (Id×Id)) (bw:List Id) (h0:List (Id×AO)):Prop where
 vals:(θ.map (·.2)).Nodup
 keys:∀p∈θ,p.1∈h0.map (·.1)/\p.2∉bw
 obj:∀p∈h0,∃o x,lkI θ p.1=some o/\s.H o=some x/\relO s.H θ bw x p.2
theorem Bound.get {θ:List (Id×Id)}{bw:List Id}{h0:List (Id×AO)}(hb:Bound s θ bw h0){q o:Id}(h:lkI θ q=some o):∃x,s.H o=some x:=by obtain⟨h1,_⟩:=hb.keys _ (ip h);obtain⟨p,hp,e⟩:=n7.1 h1;obtain⟨o',x,g1,g2,_⟩:=hb.obj p hp;simp only at e;rw[e,h]at g1;injection g1 with g1;exact⟨x,by rw[g1];exact g2⟩
theorem Bound.inj {θ:List (Id×Id)}{bw:List Id}{h0:List (Id×AO)}(hb:Bound s θ bw h0){q q' o:Id}(h:lkI θ q=some o)(h':lkI θ q'=some o):q=q':=Fj hb.vals (ip h) (ip h')
def alC (ρ:Rho)(s:FS)(w:World)(θ:List (Id×Id))(bw:List Id)(b:Nat):Prop:=
 okB ρ s.H w b\/(∃o x,o∈bw/\s.H o=some x/\Own ρ o b)\/(∃q o x,lkI θ q=some o/\s.H o=some x/\Own ρ o b)\/w.heap.size<=b
abbrev lk (ρ:Rho)(s:FS)(w:World)(θ:List (Id×Id))(bw:List Id):Rho:=JL ρ θ (alC ρ s w θ bw)
theorem zm {θ:List (Id×Id)}{bw:List Id}{h0:List (Id×AO)}(hb:Bound s θ bw h0){b:Nat}(h:okB ρ s.H w b):okB (lk ρ s w θ bw) (lkH h0) w b:=by refine⟨⟨h.1.1,.inl h⟩,fun q y hq ho=>?_⟩;obtain⟨o,x,g1,g2,_⟩:=hb.obj _ (ig hq);rw[kW g1]at ho;exact h.2 o x g2 ho
theorem GM (hc:Conc N B M w0 ρ s a w){θ:List (Id×Id)}{bw:List Id}{h0:List (Id×AO)}(hb:Bound s θ bw h0){b:Nat}{o:Id}{x:AO}(h1:o∈bw)(h2:s.H o=some x)(h3:Own ρ o b):okB (lk ρ s w θ bw) (lkH h0) w b:=by refine⟨⟨(hc.rng o x b h2 h3).1,.inr (.inl ⟨o,x,h1,h2,h3⟩)⟩,fun q y hq ho=>?_⟩;obtain⟨o',x',g1,g2,_⟩:=hb.obj _ (ig hq);rw[kW g1]at ho;have:=(hb.keys _ (ip g1)).2;exact hc.sep o o' x x' b h2 g2 (fun e=>this (e▸h1)) h3 ho
theorem DW (hc:Conc N B M w0 ρ s a w){θ:List (Id×Id)}{bw:List Id}{h0:List (Id×AO)}(hb:Bound s θ bw h0){B':Nat}{v:Value}{x y:AC}(h:relC s.H θ bw x y)(hv:RC B ρ w (okB ρ s.H w) v x):RC B' (lk ρ s w θ bw) w (okB (lk ρ s w θ bw) (lkH h0) w) v y:=by
 rcases h with⟨o,q,rfl,rfl,h⟩|⟨o,q,n,rfl,rfl,h⟩|⟨rfl,rfl⟩|⟨n,m,rfl,rfl⟩|⟨o,q,rfl,rfl,h⟩|rfl|⟨t,rfl,h3,h4⟩
 ·rw[RC,eL h];exact hv
 ·rw[RC,eL h];exact hv
 ·exact hv
 ·exact hv
 ·rw[RC,eL h];exact hv
 ·exact⟨RC.one hv,RC.cells1 hv⟩
 ·exact jm hc (fun b MK=>zm hb MK) (fun q hq x b hx ho=>GM hc hb (h4 q hq) hx ho) hv h3
theorem wA (hc:Conc N B M w0 ρ s a w){θ:List (Id×Id)}{bw:List Id}{h0:List (Id×AO)}(hb:Bound s θ bw h0){B':Nat}:∀{vs:List Value} {xs ys:List AC},relCs s.H θ bw xs ys->RCs B ρ w (okB ρ s.H w) vs xs->RCs B' (lk ρ s w θ bw) w (okB (lk ρ s w θ bw) (lkH h0) w) vs ys
 | [],[],[],_,_=>trivial
 | _::_,_::_,_::_,h,hv=>⟨DW hc hb h.1 hv.1,wA hc hb h.2 hv.2⟩
 | [],_::_,_,_,hv=>hv.elim
 | _::_,[],_,_,hv=>hv.elim
 | [],[],_::_,h,_=>h.elim
 | _::_,_::_,[],h,_=>h.elim
theorem Jv (hc:Conc N B M w0 ρ s a w){θ:List (Id×Id)}{bw:List Id}{h0:List (Id×AO)}(hb:Bound s θ bw h0){B':Nat}{v:Value}{x y:AV}(h:relV s.H θ bw x y)(hv:RV B ρ w (okB ρ s.H w) v x):RV B' (lk ρ s w θ bw) w (okB (lk ρ s w θ bw) (lkH h0) w) v y:=by
 unfold relV at h;split at h
 ·exact DW hc hb h hv
 ·obtain⟨us,e,hv⟩:=hv;exact⟨us,e,wA hc hb h hv⟩
 ·exact h.elim
theorem Cg (hc:Conc N B M w0 ρ s a w){θ:List (Id×Id)}{bw:List Id}{h0:List (Id×AO)}(hb:Bound s θ bw h0){B':Nat}:∀{xs:List Operand} {ys:List AV},relVs s.H θ bw (xs.map ev) ys->(∀x∈xs,evL s.L x=ev x)->RVs B' (lk ρ s w θ bw) w (okB (lk ρ s w θ bw) (lkH h0) w) (xs.map a.eval) ys
 | [],[],_,_=>trivial
 | x::xs,y::ys,h,hx=>by
  refine⟨Jv hc hb h.1 ?_,Cg hc hb h.2 fun z hz=>hx z (by simp[hz])⟩;have:=(hc.eval x).1
  rwa [hx x s_]at this
 | [],_::_,h,_=>h.elim
 | _::_,[],h,_=>h.elim
theorem Jq (hc:Conc N B M w0 ρ s a w){θ:List (Id×Id)}{bw:List Id}{h0:List (Id×AO)}(hb:Bound s θ bw h0){B':Nat}{q o:Id}{x y:AO}(hq:lkI θ q=some o)(h:relO s.H θ bw x y)(hv:RO B ρ w (okB ρ s.H w) o x):RO B' (lk ρ s w θ bw) w (okB (lk ρ s w θ bw) (lkH h0) w) q y:=by
 rcases h with⟨cs,ds,rfl,rfl,h⟩|⟨fr,sz,rows,rfl,rfl⟩|⟨sz,rows,rfl,rfl⟩|⟨kk,es,rfl,rfl⟩
 ·obtain⟨b,cur,t,fz,h1,h2,h3,h4⟩:=hv;exact⟨b,cur,t,fz,by rw[eL hq];exact h1,h2,h3,wA hc hb h h4⟩
 ·obtain⟨hu,hv⟩:=hv;refine⟨hu,?_⟩;rcases hv with hv|⟨b,cap,cur,e,fz,h1,h2,h3,h4,h5,h6,h7,h8⟩
  ·exact .inl (by rw[eL hq];exact hv)
  ·exact .inr ⟨b,cap,cur,e,fz,by rw[eL hq];exact h1,h2,h3,h4,h5,h6,h7.keep (fun c MB=>⟨rfl,zm hb MB.1,fun e=>by cases e⟩),fun e=>by cases e⟩
 ·obtain⟨hu,hv⟩:=hv;refine⟨hu,?_⟩;rcases hv with⟨hv,h2⟩|⟨b,cap,cur,e,fz,Fp,h1,h2,h3,h4,h5,h6,h7,h8,h9⟩
  ·exact .inl ⟨by rw[eL hq];exact hv,h2⟩
  ·exact .inr ⟨b,cap,cur,e,fz,Fp,by rw[eL hq];exact h1,h2,h3,h4,h5,h6,fun p c MB=>⟨(Ej hq c).2 (h7 p c MB).1,(h7 p c MB).2⟩,h8,h9.keep (fun c MB=>⟨rfl,zm hb MB⟩) (fun p c MB=>⟨rfl,MB⟩) fun _ _ _ e=>by cases e⟩
 ·obtain⟨b,ents,clock,h1,h2,h3⟩:=hv;exact⟨b,ents,clock,by rw[eL hq];exact h1,h2,h3⟩
theorem FQ (hc:Conc N B M w0 ρ s a w){θ:List (Id×Id)}{bw:List Id}{h0:List (Id×AO)}(hb:Bound s θ bw h0):Lies w.heap.size (lk ρ s w θ bw) w h0:=by
 refine⟨fun q y hq=>?_,fun q q' y y' b hq MG ME ho MV=>?_,fun q y b hq ho=>?_⟩
 ·obtain⟨o,x,g1,g2,g3⟩:=hb.obj _ (ig hq);exact Jq hc hb g1 g3 (hc.obj o x g2)
 ·obtain⟨o,x,g1,g2,_⟩:=hb.obj _ (ig hq);obtain⟨o',x',P0,QK,_⟩:=hb.obj _ (ig MG);rw[kW g1]at ho;rw[kW P0]at MV;exact hc.sep o o' x x' b g2 QK (fun e=>ME (hb.inj g1 (by rw[e];exact P0))) ho MV
 ·obtain⟨o,x,g1,g2,_⟩:=hb.obj _ (ig hq);rw[kW g1]at ho;exact(hc.rng o x b g2 ho).1
theorem ny {θ:List (Id×Id)}{bw:List Id}{h0:List (Id×AO)}(hb:Bound s θ bw h0){b:Nat}(h:Ms (lk ρ s w θ bw) h0 b):∃q o x,lkI θ q=some o/\s.H o=some x/\Own ρ o b:=by obtain⟨q,y,hq,ho⟩:=h;obtain⟨o,x,g1,g2,_⟩:=hb.obj _ (ig hq);rw[kW g1]at ho;exact⟨q,o,x,g1,g2,ho⟩
def kD (ρ ρ2:Rho)(θ:List (Id×Id))(nm:Nat):Rho:=
 ⟨fun o=>if o.1=nm then ρ2 (1,o.2)else ρ o,fun o c=>(o.1=nm/\ρ2.fp (1,o.2) c)\/(o.1≠nm/\((∃q,lkI θ q=some o/\ρ2.fp q c)\/((¬∃q,lkI θ q=some o)/\ρ.fp o c))),ρ.al⟩
structure Back (B:Nat) (ρ ρ2:Rho) (s:FS) (w w':World) (θ:List (Id×Id)) (bw:List Id) (nm:Nat) (h0 h1:List (Id×AO)):Prop where
 bound:Bound s θ bw h0
 h0n:∀p∈h0,p.1.1=0
 h1n:(h1.map (·.1)).Nodup
 h1k:∀p∈h1,okN h0 p.1=true/\vt p.2=true/\∀id∈p.2.ids,okN h0 id=true
 new:¬s.U nm
 used:∀o x,s.H o=some x->s.U o.1
 keep:∀o,(lkH h0 o).isSome=true->ρ2 o=lk ρ s w θ bw o
 al:ρ2.al=(lk ρ s w θ bw).al
 lies:Lies w.heap.size ρ2 w' h1
 own:∀o x b,lkH h1 o=some x->Own ρ2 o b->w.heap.size<=b\/Ms (lk ρ s w θ bw) h0 b
 size:w.heap.size<=w'.heap.size
 base:B<=w.heap.size
section
variable {ρ2:Rho} {θ:List (Id×Id)} {bw:List Id} {nm:Nat} {h0 h1:List (Id×AO)}
theorem Back.name (hk:Back B ρ ρ2 s w w' θ bw nm h0 h1){q:Id}(hq:okN h0 q=true):(∃o x,lkI θ q=some o/\s.H o=some x/\o.1≠nm/\reI θ nm q=o)\/(lkI θ q=none/\q.1=1/\reI θ nm q=(nm,q.2)):=by
 cases h:lkI θ q with
 | some o=>
  obtain⟨x,hx⟩:=hk.bound.get h
  exact .inl ⟨o,x,rfl,hx,fun e=>hk.new (by rw[<-e];exact hk.used o x hx),by unfold reI;rw[h]⟩
 | none=>
  right;refine⟨rfl,?_,by unfold reI;rw[h]⟩;unfold okN at hq;rw[w5,memI_iff]at hq;rcases hq with hq|hq
  ·obtain⟨p,hp,e⟩:=n7.1 hq;obtain⟨o,x,g,_⟩:=hk.bound.obj p hp;rw[e,h]at g;cases g
  ·simpa using hq
theorem Back.val (hk:Back B ρ ρ2 s w w' θ bw nm h0 h1){q:Id}(hq:okN h0 q=true):kD ρ ρ2 θ nm (reI θ nm q)=ρ2 q:=by
 rcases hk.name hq with⟨o,x,g1,g2,g3,g4⟩|⟨g1,g2,g3⟩
 ·rw[g4];show(if o.1=nm then _ else ρ o)=_;rw[b8 g3,hk.keep q (Dv (hk.bound.keys _ (ip g1)).1),eL g1]
 ·rw[g3];show(if nm=nm then ρ2 (1,q.2)else _)=_;rw[c7 rfl,<-g2]
theorem Back.fp (hk:Back B ρ ρ2 s w w' θ bw nm h0 h1){q:Id}(hq:okN h0 q=true)(c:Nat):(kD ρ ρ2 θ nm).fp (reI θ nm q) c↔ρ2.fp q c:=by
 rcases hk.name hq with⟨o,x,g1,g2,g3,g4⟩|⟨g1,g2,g3⟩
 ·rw[g4];constructor
  ·rintro(⟨e,_⟩|⟨_,⟨q',e1,e2⟩|⟨e1,_⟩⟩)
   ·exact absurd e g3
   ·rw[hk.bound.inj g1 e1];exact e2
   ·exact absurd ⟨q,g1⟩ e1
  ·exact fun h=> .inr ⟨g3,.inl ⟨q,g1,h⟩⟩
 ·rw[g3];constructor
  ·rintro(⟨_,h⟩|⟨e,_⟩)
   ·rw[<-g2]at h;exact h
   ·exact absurd rfl e
  ·intro h;left;refine⟨rfl,?_⟩;rw[<-g2];exact h
theorem Back.owned (hk:Back B ρ ρ2 s w w' θ bw nm h0 h1){q:Id}(hq:okN h0 q=true)(c:Nat):Own (kD ρ ρ2 θ nm) (reI θ nm q) c↔Own ρ2 q c:=by unfold Own;rw[hk.val hq,hk.fp hq]
theorem Back.inj (hk:Back B ρ ρ2 s w w' θ bw nm h0 h1){q q':Id}(hq:okN h0 q=true)(MG:okN h0 q'=true)(e:reI θ nm q=reI θ nm q'):q=q':=by
 rcases hk.name hq with⟨o,x,g1,g2,g3,g4⟩|⟨g1,g2,g3⟩<;>rcases hk.name MG with⟨o',x',k1,k2,k3,k4⟩|⟨k1,k2,k3⟩
 ·rw[g4,k4]at e;subst e;exact hk.bound.inj g1 k1
 ·rw[g4,k3]at e;subst e;exact absurd rfl g3
 ·rw[g3,k4]at e;subst e;exact absurd rfl k3
 ·rw[g3,k3]at e;have:q.2=q'.2:=congrArg (·.2) e;exact Prod.ext (g2.trans k2.symm) this
theorem Back.oldv (hk:Back B ρ ρ2 s w w' θ bw nm h0 h1){o:Id}(ho:s.U o.1):kD ρ ρ2 θ nm o=ρ o:=b8 fun e:o.1=nm=>hk.new aaQ
theorem Back.oldf (hk:Back B ρ ρ2 s w w' θ bw nm h0 h1){o:Id}(ho:s.U o.1)(hn:o∉θ.map (·.2))(c:Nat):(kD ρ ρ2 θ nm).fp o c↔ρ.fp o c:=by
 have h1:o.1≠nm:=fun e=>hk.new aaQ;have h2:¬∃q,lkI θ q=some o:=fun⟨q,h⟩=>hn (n7.2 ⟨_,ip h,rfl⟩);constructor
 ·rintro(⟨e,_⟩|⟨_,h|⟨_,h⟩⟩)
  ·exact absurd e h1
  ·exact absurd (h.elim fun q h=>⟨q,h.1⟩) h2
  ·exact h
 ·exact fun h=> .inr ⟨h1,.inr ⟨h2,h⟩⟩
theorem EJ (H:Id->Option AO){o:Id}{x:AO}(h:bP H (usG θ nm h1) o=some x):(∃q y,(q,y)∈h1/\o=reI θ nm q/\x=y.re θ nm)\/(o∉(θ.map (·.2))++h1.map (fun p=>reI θ nm p.1)/\H o=some x):=by
 rw[usG,nl]at h;have h':bP (bP H (θ.map fun p=>(p.2,none))) ((h1.map fun p=>(reI θ nm p.1,p.2.re θ nm)).map fun p=>(p.1,some p.2)) o=some x:=by rw[G6];exact h
 rcases rZ _ _ o x h' with h2|⟨h2,h3⟩
 ·obtain⟨p,hp,e⟩:=n7.1 h2;injection e with e1 e2;exact .inl ⟨p.1,p.2,hp,e1.symm,e2.symm⟩
 ·have VI:o∉h1.map fun p=>reI θ nm p.1:=by simpa [G6]using h2
  have nonek:∀(l:List Id) (H:Id->Option AO),bP H (l.map fun r=>(r,none)) o=some x->o∉l/\H o=some x:=by
   intro l
   induction l with
   | nil=>intro H h;exact⟨s_,h⟩
   | cons r l ih=>
    intro H h;simp only[p7,bP]at h;obtain⟨g1,g2⟩:=ih _ h;by_cases e:o=r
    ·rw[c7 e]at g2;cases g2
    ·rw[b8 e]at g2;exact⟨by simp[e,g1],g2⟩
  have PH:bP H ((θ.map (·.2)).map fun r=>(r,none)) o=some x:=by rw[G6];exact h3
  obtain⟨g1,g2⟩:=nonek _ _ PH;refine .inr ⟨fun hm=>?_,g2⟩;rcases d9.1 hm with hm|hm
  ·exact g1 hm
  ·exact VI hm
theorem Back.ok (hk:Back B ρ ρ2 s w w' θ bw nm h0 h1)(hc:Conc N B M w0 ρ s a w){b:Nat}(hb:okB ρ2 (lkH h1) w' b)(hf:bw=[]\/w.heap.size<=b):okB (kD ρ ρ2 θ nm) (bP s.H (usG θ nm h1)) w' b:=by
 have M4:alC ρ s w θ bw b:=by have:=hb.1.2;rw[hk.al]at this;exact this
 have P9:w.heap.size<=b->ρ.al b:=fun h=>hc.alw b (.inl (v5 hk.base h))
 have RG:(∃o x,o∈bw/\s.H o=some x/\Own ρ o b)->w.heap.size<=b:=fun⟨o,x,h1,h2,h3⟩=>by
  rcases hf with hf|hf
  ·rw[hf]at h1;cases h1
  ·exact hf
 refine⟨⟨hb.1.1,?_⟩,fun o x ho he=>?_⟩
 ·show ρ.al b;rcases M4 with h|h|⟨q,o,x,_,h2,h3⟩|h
  ·exact h.1.2
  ·exact P9 (RG h)
  ·exact hc.alw b (hc.rng o x b h2 h3).2
  ·exact P9 h
 ·rcases EJ s.H ho with⟨q,y,g1,rfl,_⟩|⟨g1,g2⟩
  ·rw[hk.owned (hk.h1k _ g1).1]at he;exact hb.2 q y (uZ hk.h1n g1) he
  ·have hU:=hk.used o x g2
   have Nn:Own ρ o b:=by unfold Own at he⊢;rw[hk.oldv hU,hk.oldf hU (fun h=>g1 aaI)]at he;exact he
   have My:=(hc.rng o x b g2 Nn).1;rcases M4 with h|h|⟨q,o',x',h1,h2,h3⟩|h
   ·exact h.2 o x g2 Nn
   ·have:=RG h;omega
   ·exact hc.sep o' o x' x b h2 g2 (fun e=>g1 (by rw[<-e];exact d9.2 (.inl (n7.2 ⟨_,ip h1,rfl⟩)))) h3 Nn
   ·omega
theorem Back.cell (hk:Back B ρ ρ2 s w w' θ bw nm h0 h1)(hc:Conc N B M w0 ρ s a w){v:Value}{c:AC}(hv:RC w.heap.size ρ2 w' (okB ρ2 (lkH h1) w') v c)(hf:bw=[]\/JD c=true)(hi:∀id∈c.ids,okN h0 id=true):RC B (kD ρ ρ2 θ nm) w' (okB (kD ρ ρ2 θ nm) (bP s.H (usG θ nm h1)) w') v (c.re θ nm):=by
 cases c with
 | t x=>
  rcases hf with hf|hf
  ·exact RT.keep hv fun b hb=>⟨rfl,hk.ok hc hb (.inl hf)⟩
  ·cases x with
   | lst=>simp[JD]at hf
   | int=>cases hv;exact RT.int _ _
   | bool=>cases hv;exact RT.bool _
   | str=>cases hv;exact RT.str _
 | f x=>exact RT.keep hv fun b hb=>⟨rfl,hk.ok hc hb.1 (.inr (hb.2 rfl)),fun _=>v5 hk.base (hb.2 rfl)⟩
 | nils n=>exact hv
 | nilp=>exact hv
 | opq=>exact hv
 | mpv q=>
  have:=hk.val (hi q aaq);show RC _ _ _ _ v (.mpv (reI θ nm q))
  rw[RC,this];exact hv
 | own q=>
  have:=hk.val (hi q aaq);show RC _ _ _ _ v (.own (reI θ nm q))
  rw[RC,this];exact hv
 | sub q k=>
  have:=hk.val (hi q aaq);show RC _ _ _ _ v (.sub (reI θ nm q) k)
  rw[RC,this];exact hv
 | ptr q k=>have:=hk.val (hi q aaq);show RC _ _ _ _ v (.ptr (reI θ nm q) k);rw[RC,this];exact hv
theorem Back.cells (hk:Back B ρ ρ2 s w w' θ bw nm h0 h1)(hc:Conc N B M w0 ρ s a w):∀{vs:List Value} {cs:List AC},RCs w.heap.size ρ2 w' (okB ρ2 (lkH h1) w') vs cs->(bw=[]\/vn cs=true)->(∀id∈cs.flatMap AC.ids,okN h0 id=true)->
  RCs B (kD ρ ρ2 θ nm) w' (okB (kD ρ ρ2 θ nm) (bP s.H (usG θ nm h1)) w') vs (yL θ nm cs)
 | [],[],_,_,_=>trivial
 | v::vs,c::cs,h,hf,hi=>by
  refine⟨hk.cell hc h.1 (hf.imp id fun h=>?_) fun id MC=>hi id (by simp[MC]),hk.cells hc h.2 (hf.imp id fun h=>?_) fun id MC=>hi id (by simp only[u7,d9];exact .inr MC)⟩
  ·rw[vn,b9]at h;exact h.1
  ·rw[vn,b9]at h;exact h.2
 | [],_::_,h,_,_=>h.elim
 | _::_,[],h,_,_=>h.elim
theorem Back.row (hk:Back B ρ ρ2 s w w' θ bw nm h0 h1)(hc:Conc N B M w0 ρ s a w){v:Value}{x:AR}(hv:RR w.heap.size ρ2 w' (okB ρ2 (lkH h1) w') v x)(hf:bw=[]\/KU x=true)(hi:∀id∈x.ids,okN h0 id=true):RR B (kD ρ ρ2 θ nm) w' (okB (kD ρ ρ2 θ nm) (bP s.H (usG θ nm h1)) w') v (x.re θ nm):=by cases x with|c x=>exact hk.cell hc hv hf hi|agg cs=>obtain⟨us,e,h⟩:=hv;exact⟨us,e,hk.cells hc h hf hi⟩
theorem Back.rows (hk:Back B ρ ρ2 s w w' θ bw nm h0 h1)(hc:Conc N B M w0 ρ s a w):∀{vs:List Value} {cs:List AR},RRs w.heap.size ρ2 w' (okB ρ2 (lkH h1) w') vs cs->(bw=[]\/AL cs=true)->(∀id∈cs.flatMap AR.ids,okN h0 id=true)->
  RRs B (kD ρ ρ2 θ nm) w' (okB (kD ρ ρ2 θ nm) (bP s.H (usG θ nm h1)) w') vs (Fd θ nm cs)
 | [],[],_,_,_=>trivial
 | v::vs,c::cs,h,hf,hi=>by
  refine⟨hk.row hc h.1 (hf.imp id fun h=>?_) fun id MC=>hi id (by simp[MC]),hk.rows hc h.2 (hf.imp id fun h=>?_) fun id MC=>hi id (by simp only[u7,d9];exact .inr MC)⟩
  ·rw[AL,b9]at h;exact h.1
  ·rw[AL,b9]at h;exact h.2
 | [],_::_,h,_,_=>h.elim
 | _::_,[],h,_,_=>h.elim
theorem Back.value (hk:Back B ρ ρ2 s w w' θ bw nm h0 h1)(hc:Conc N B M w0 ρ s a w){v:Value}{x:AV}(hv:RV w.heap.size ρ2 w' (okB ρ2 (lkH h1) w') v x)(hf:bw=[]\/Im x=true)(hi:∀id∈x.ids,okN h0 id=true):RV B (kD ρ ρ2 θ nm) w' (okB (kD ρ ρ2 θ nm) (bP s.H (usG θ nm h1)) w') v (x.re θ nm):=by cases x with|r x=>exact hk.row hc hv hf hi|tup xs=>obtain⟨us,e,h⟩:=hv;exact⟨us,e,hk.rows hc h hf hi⟩|el=>trivial|ro=>trivial|unk=>trivial
theorem Ip {l:List (Id×AO)}(h:vW l=true):∀p∈l,(∃cs,p.2= .box cs/\vn cs=true)\/(∃sz rows,p.2= .arr true sz rows)\/(∃kk es,p.2= .mp kk es)\/∃sz rs,p.2= .dar sz (aK rs) none:=by
 induction l with
 | nil=>simp
 | cons p l ih=>
  obtain⟨q,y⟩:=p;intro p' Pn;unfold vW at h;split at h
  ·simp at *
  ·rename_i PK;injection PK with e1 e2;injection e1 with e3 e4;rw[b9]at h;rcases d6.1 Pn with rfl|Pn
   ·obtain⟨rs,e⟩:=IW h.2;subst e;exact .inr (.inr (.inr ⟨_,_,e4⟩))
   ·subst e2;exact ih h.1 p' Pn
  ·rename_i PK;injection PK with e1 e2;injection e1 with e3 e4;rw[b9]at h;rcases d6.1 Pn with rfl|Pn
   ·exact .inl ⟨_,e4,h.1⟩
   ·subst e2;exact ih h.2 p' Pn
  ·rename_i PK;injection PK with e1 e2;injection e1 with e3 e4;rcases d6.1 Pn with rfl|Pn
   ·exact .inr (.inl ⟨_,_,e4⟩)
   ·subst e2;exact ih h p' Pn
  ·rename_i PK;injection PK with e1 e2;injection e1 with e3 e4;rcases d6.1 Pn with rfl|Pn
   ·exact .inr (.inr (.inl ⟨_,_,e4⟩))
   ·subst e2;exact ih h p' Pn
  ·cases h
theorem Back.object (hk:Back B ρ ρ2 s w w' θ bw nm h0 h1)(hc:Conc N B M w0 ρ s a w){q:Id}{y:AO}(hq:(q,y)∈h1)(hf:bw=[]\/vW h1=true):RO B (kD ρ ρ2 θ nm) w' (okB (kD ρ ρ2 θ nm) (bP s.H (usG θ nm h1)) w') (reI θ nm q) (y.re θ nm):=by
 have hv:=hk.lies.obj q y (uZ hk.h1n hq);obtain⟨hn,hh,hi⟩:=hk.h1k _ hq;have Ny:=hk.val hn;have NR:=hk.fp hn;have Ov:=hf.imp id fun h=>Ip h _ hq
 cases y with
 | arr fr sz rows=>
  obtain⟨hu,hv⟩:=hv;refine⟨hu,?_⟩;rcases hv with⟨k1,k2⟩|⟨b,cap,cur,e',fz,k1,k2,k3,k4,k5,k6,k7,k8⟩
  ·exact .inl ⟨by rw[Ny];exact k1,k2⟩
  ·refine .inr ⟨b,cap,cur,e',fz,by rw[Ny];exact k1,k2,k3,k4,k5,k6,k7.keep (fun c MB=>⟨rfl,hk.ok hc MB.1 ?_,fun e=>v5 hk.base (MB.2 e)⟩),fun e=>v5 hk.base (k8 e)⟩;rcases Ov with Ov|⟨cs,e,_⟩|⟨MR,rows',e⟩|⟨kk,es,e⟩|⟨MR,rs,e⟩
   ·exact .inl Ov
   ·cases e
   ·injection e with e;subst e;exact .inr (MB.2 rfl)
   ·cases e
   ·cases e
 | box cells=>
  obtain⟨b,cur,t,fz,k1,k2,k3,k4⟩:=hv;refine⟨b,cur,t,fz,by rw[Ny];exact k1,k2,k3,hk.cells hc k4 ?_ hi⟩;rcases Ov with Ov|⟨cs,e,h⟩|⟨MR,rows',e⟩|⟨kk,es,e⟩|⟨MR,rs,e⟩
  ·exact .inl Ov
  ·injection e with e;subst e;exact .inr h
  ·cases e
  ·cases e
  ·cases e
 | mp kk es=>
  obtain⟨b,ents,clock,k1,k2,k3⟩:=hv
  exact⟨b,ents,clock,by rw[Ny];exact k1,k2,k3⟩
 | dar sz rows hole=>
  have Pi:bw=[]\/(hole=none->∃rs,rows=aK rs):=by
   rcases Ov with Ov|⟨cs,e,_⟩|⟨MR,rows',e⟩|⟨kk,es,e⟩|⟨MR,rs,e⟩
   ·exact .inl Ov
   ·cases e
   ·cases e
   ·cases e
   ·injection e with e1 e2;exact .inr fun _=>⟨rs,e2⟩
  cases hole with
  | some p=>obtain⟨i,off,n⟩:=p;simp[vt]at hh
  | none=>
   obtain⟨hu,hv⟩:=hv;refine⟨hu,?_⟩;rcases hv with⟨k1,k2⟩|⟨b,cap,cur,e',fz,Fp,k1,k2,k3,k4,k5,k6,k7,k8,k9⟩
   ·exact .inl ⟨by rw[Ny];exact k1,k2⟩
   ·exact .inr ⟨b,cap,cur,e',fz,Fp,by rw[Ny];exact k1,k2,k3,k4,k5,k6,fun p c MB=>⟨(NR c).2 (k7 p c MB).1,(k7 p c MB).2⟩,k8,by
     rcases Pi with Pi|Pi
     ·exact k9.keep (fun c MB=>⟨rfl,hk.ok hc MB (.inl Pi)⟩) (fun p c MB=>⟨rfl,MB⟩) fun _ _ _ e=>by cases e
     ·obtain⟨rs,e⟩:=Pi rfl;refine⟨k9.1,fun p v c h1 h2=>?_⟩;have h3:=k9.2 p v c h1 h2;simp only[cq]at h3⊢;have hm:=c9 h2;rw[e]at hm;obtain⟨r,hr,Vg⟩:=E4.1 hm;obtain⟨tr,_,rfl⟩:=n7.1 hr;obtain⟨x,_,rfl⟩:=n7.1 Vg
      exact h3⟩
theorem vk {cs:List AC}{id:Id}(h:id∈(yL θ nm cs).flatMap AC.ids):∃q∈cs.flatMap AC.ids,id=reI θ nm q:=by
 induction cs with
 | nil=>simp[yL]at h
 | cons c cs ih=>
  simp only[yL,u7,d9]at h⊢;rcases h with h|h
  ·cases c<;>simp only[AC.re,AC.ids,t7,l4]at h
   all_goals exact⟨_,.inl (t7.2 rfl),h⟩
  ·obtain⟨q,h1,h2⟩:=ih h;exact⟨q,.inr h1,h2⟩
theorem El {x:AR}{id:Id}(h:id∈(x.re θ nm).ids):∃q∈x.ids,id=reI θ nm q:=by
 cases x with
 | c c=>
  have:id∈(yL θ nm [c]).flatMap AC.ids:=by simpa [yL,AR.re,AR.ids]using h
  obtain⟨q,h1,h2⟩:=vk this
  exact⟨q,by simpa [AR.ids]using h1,h2⟩
 | agg cs=>exact vk h
theorem GW {cs:List AR}{id:Id}(h:id∈(Fd θ nm cs).flatMap AR.ids):∃q∈cs.flatMap AR.ids,id=reI θ nm q:=by
 induction cs with
 | nil=>simp[Fd]at h
 | cons c cs ih=>
  simp only[Fd,u7,d9]at h⊢;rcases h with h|h
  ·obtain⟨q,h1,h2⟩:=El h;exact⟨q,.inl h1,h2⟩
  ·obtain⟨q,h1,h2⟩:=ih h;exact⟨q,.inr h1,h2⟩
theorem IR {x:AV}{id:Id}(h:id∈(x.re θ nm).ids):∃q∈x.ids,id=reI θ nm q:=by cases x with|r x=>exact El h|tup xs=>exact GW h|el=>simp[AV.re,AV.ids]at h|ro=>simp[AV.re,AV.ids]at h|unk=>simp[AV.re,AV.ids]at h
theorem Jm {x:AO}(hn:vt x=true){id:Id}(h:id∈(x.re θ nm).ids):∃q∈x.ids,id=reI θ nm q:=by
 cases x with
 | arr=>simp[AO.re,AO.ids]at h
 | mp=>simp[AO.re,AO.ids]at h
 | box cs=>exact vk h
 | dar sz rows hole=>cases hole with|none=>simp[AO.re,AO.ids]at h|some p=>obtain⟨i,off,n⟩:=p;simp[vt]at hn
theorem Back.usedN (hk:Back B ρ ρ2 s w w' θ bw nm h0 h1){q:Id}(hq:okN h0 q=true):s.U (reI θ nm q).1\/(reI θ nm q).1=nm:=by
 rcases hk.name hq with⟨o,x,g1,g2,g3,g4⟩|⟨g1,g2,g3⟩
 ·rw[g4];exact .inl (hk.used o x g2)
 ·rw[g3];exact .inr rfl
end
theorem sQ {f:FuncId}{args:Array Operand}{argTypes:Array TypeId}{nm:Nat}(ho:o.op= .call {callee:= .value (.func f),args,argTypes})(h:Gv P f nm (args.toList.map ev) H K):∃e,K e/\Good P o ev H e:=by
 obtain⟨xs,h0,r,h1,hs,h⟩:=h;obtain⟨θ1,bw1,h,_,_,QA⟩:=xV h;obtain⟨θ,bw,⟨Ub,hK0⟩,Vz,Pi,hO⟩:=BS h;have hv:=QA.mono Vz Pi;rw[b9,b9]at Ub;obtain⟨⟨hI,hJ⟩,Pj⟩:=Ub;simp only[okI,b9,o8,nodupI_iff,memI_iff,u9]at hI;obtain⟨⟨⟨⟨i1,i2⟩,i3⟩,i4⟩,i5⟩:=hI;simp only[okJ,b9,o8,nodupI_iff,H3]at hJ;obtain⟨⟨⟨j1,j2⟩,j3⟩,j4⟩:=hJ
 have Ul:bw=[]\/Im r=true:=by
  rw[w5]at Pj;rcases Pj with g|g
  ·left;simpa using g
  ·right;rw[b9]at g;exact g.1
 have Tu:bw=[]\/vW h1=true:=by
  rw[w5]at Pj;rcases Pj with g|g
  ·left;simpa using g
  ·right;rw[b9]at g;exact g.2
 refine⟨_,hK0,?_⟩;intro N B M w0 ρ s a w Q K' hc Mw hR hn hd hK;have Xm:∀o∈bw,s.H o=H o:=fun o h=>hR o aaI
 have hb:Bound s θ bw h0:=by
  refine⟨i1,fun p hp=>⟨(i4 p hp).1,fun hm=>?_⟩,fun p hp=>?_⟩
  ·have:=(i4 p hp).2;rw[memI_iff.2 hm]at this;cases this
  ·obtain⟨o,x,g1,g2,g3⟩:=hO p hp;refine⟨o,x,g1,?_,g3.congr Xm⟩;rw[hR o (d9.2 (.inl (n7.2 ⟨_,ip g1,rfl⟩)))];exact g2
 have Pg:=Cg (h0:=h0) (B':=w.heap.size) hc hb (hv.congr Xm) (fun x hx=>Mw x aak)
 have NC:=hs.2 w (args.map a.eval) (lk ρ s w θ bw) (by simpa using Pg) (FQ hc hb) (fun b MK=>by
  rcases MK with MK|MK
  ·exact .inr (.inr (.inr MK))
  ·exact .inr (.inr (.inl (ny hb MK))))
 have MD:(execOp a.eval o).run P w= .ok (.enter f (args.map a.eval)) w:=by exact V97
 unfold Oper.wp;rw[MD];show Calls P f (args.map a.eval) w _;refine NC.mono fun e w' ⟨v,ρ2,he,Oi,Qi,M4,VV,P6,MO⟩=>?_;subst he;have N6:=hn nm rfl
 have hk:Back B ρ ρ2 s w w' θ bw nm h0 h1:=by refine⟨hb,fun p hp=>by simpa using j4 p hp,j1,fun p hp=>?_,N6,fun o x ho=>(hc.usedH o x ho).1,Qi,M4,P6,MO,Oi.size,hc.base⟩;have:=j2 p hp;exact⟨this.1.1,this.1.2,this.2⟩
 show K' (a.put o.dst v) w';refine hK v w' (kD ρ ρ2 θ nm) ?_
 have UR:∀o x,o∈(θ.map (·.2))++h1.map (fun p=>reI θ nm p.1)->bP s.H (usG θ nm h1) o=some x->∃q y,(q,y)∈h1/\o=reI θ nm q/\x=y.re θ nm:=fun o x hm hx=>by
  rcases EJ s.H hx with g|⟨g,_⟩
  ·exact g
  ·exact absurd hm g
 have:=hc.step (Ms (lk ρ s w θ bw) h0) ((θ.map (·.2))++h1.map (fun p=>reI θ nm p.1)) (w':=w') (ρ':=kD ρ ρ2 θ nm) (H':=bP s.H (usG θ nm h1)) (U':=fun n=>s.U n\/n=nm) (a':=a.put o.dst v) (L':=mD s.L o.dst (r.re θ nm))
  ⟨Oi.os,Oi.tape,Oi.output,Oi.size,Oi.block⟩ (by rw[kK];exact hc.size) (by rw[gG];exact hc.defers)
  (fun o ho=>hk.oldv ho)
  (fun o x hm ho=>by
   funext c
   exact propext (hk.oldf (hc.usedH o x ho).1 (fun h=>hm aaI) c)) rfl
  (fun o hm=>by
   refine cA _ _ o fun h=>hm ?_;simp only[usG,u4,G6]at h
   exact h)
  (fun n hn=> .inl hn)
  (fun b MK hM=>by
   obtain⟨q,o,x,g1,g2,g3⟩:=ny hb hM
   exact MK.2 o x g2 g3)
  (fun o x b g1 g2 g3 hM=>by
   obtain⟨q,o',x',k1,k2,k3⟩:=ny hb hM
   exact hc.sep o o' x x' b g1 k2 (fun e=>g2 (by rw[e];exact d9.2 (.inl (n7.2 ⟨_,ip k1,rfl⟩)))) g3 k3)
  (fun b hB Yu hM=>by
   obtain⟨q,o',x',k1,k2,k3⟩:=ny hb hM;rcases(hc.rng o' x' b k2 k3).2 with g|g
   ·omega
   ·exact Yu g)
  (fun o x b g1 g2 g3=>by
   obtain⟨q,y,k1,rfl,rfl⟩:=UR o x g1 g2;rw[hk.owned (hk.h1k _ k1).1]at g3;have hl:=uZ hk.h1n k1;refine⟨P6.lt q y b hl g3,?_,?_⟩
   ·rcases MO q y b hl g3 with g|g
    ·exact .inl (v5 hc.base g)
    ·obtain⟨q',o',x',m1,m2,m3⟩:=ny hb g;exact(hc.rng o' x' b m2 m3).2
   ·rcases MO q y b hl g3 with g|g
    ·exact .inl g
    ·obtain⟨q',o',x',m1,m2,m3⟩:=ny hb g
     exact .inr ⟨o',x',m2,d9.2 (.inl (n7.2 ⟨_,ip m1,rfl⟩)),m3⟩)
  (fun o o' x x' b g1 P0 g2 QK ME g3 Ro=>by
   obtain⟨q,y,k1,rfl,rfl⟩:=UR o x g1 g2;obtain⟨q',y',UO,rfl,rfl⟩:=UR o' x' P0 QK;rw[hk.owned (hk.h1k _ k1).1]at g3;rw[hk.owned (hk.h1k _ UO).1]at Ro
   exact P6.sep q q' y y' b (uZ hk.h1n k1) (uZ hk.h1n UO) (fun e=>ME (by rw[e])) g3 Ro)
  (fun _ o x g1 g2=>by
   obtain⟨q,y,k1,rfl,rfl⟩:=UR o x g1 g2;obtain⟨m1,m2,m3⟩:=hk.h1k _ k1;refine⟨hk.object hc k1 Tu,hk.usedN m1,fun o' MV=>?_⟩;obtain⟨q',e1,rfl⟩:=Jm m2 MV
   exact hk.usedN (m3 q' e1))
  (fun _ t=>hc.slots hd (U':=fun n=>s.U n\/n=nm) (hk.value hc VV Ul j3) (fun id MC=>by
   obtain⟨q',e1,rfl⟩:=IR MC
   exact hk.usedN (j3 q' e1)) t)
 exact this.congr (fun _=>rfl) (fun _=>rfl) (fun n=>by simp[FS.app,eq_comm])
theorem uR {nm:Nat}(hΓ:Γ.chk P=true)(h:sem P Γ nm o ev H K):∃e,K e/\Good P o ev H e:=by
 unfold sem at h;split at h
 ·exact⟨_,h,ws (.inl aaj)⟩
 ·exact⟨_,h,ws (.inr aaj)⟩
 ·rename_i c x y ho;split at h
  ·rename_i t hc;have:=CO (P:=P) (H:=H) ho hc
   cases t
   ·exact⟨_,h,this⟩
   ·exact⟨_,h,this⟩
  ·exact h.elim
 ·split at h
  ·rename_i ho _ _ _ _ hd hT;exact⟨_,h,Bb hΓ hT hd ho⟩
  ·exact h.elim
 ·split at h
  ·rename_i ho _ _ _ _ hd hx;exact⟨_,h,Fa hd ho hx⟩
  ·exact h.elim
 ·split at h
  ·rename_i ho _ _ hT;obtain⟨H',us,R,h,MT⟩:=px h;obtain⟨e,h1,h2⟩:=Dr hΓ hT ho h;exact⟨_,h1,uH MT h2⟩
  ·exact h.elim
 ·split at h
  ·rename_i ho _ _ hT;obtain⟨H',us,R,h,MT⟩:=px h;obtain⟨e,h1,h2⟩:=Am hΓ hT ho h;exact⟨_,h1,uH MT h2⟩
  ·exact h.elim
 ·split at h
  ·rename_i ho _ _ hT;split at h
   ·rename_i hf;obtain⟨v,h1,h2⟩:=tG (H:=H) hΓ hT hf ho h;exact⟨_,h1,h2⟩
   ·exact h.elim
  ·exact h.elim
 ·split at h
  ·rename_i ho _ _ hT;split at h
   ·rename_i he;split at h
    ·rename_i hE;exact tO hΓ hT he hE ho h
    ·exact h.elim
   ·exact h.elim
  ·exact h.elim
 ·split at h
  ·rename_i ho _ _ hT;split at h
   ·rename_i hs;obtain⟨v,h1,h2⟩:=BD (H:=H) hΓ hT hs ho h;exact⟨_,h1,h2⟩
   ·exact h.elim
  ·exact h.elim
 ·rename_i ho;split at h
  ·split at h
   ·rename_i hT;split at h
    ·rename_i hb;obtain⟨v,h1,h2⟩:=Dw (H:=H) hΓ hT hb ho h;exact⟨_,h1,h2⟩
    ·exact h.elim
   ·exact h.elim
  ·rename_i hx;split at h
   ·rename_i hT;obtain⟨v,h1,h2⟩:=EY (H:=H) hΓ hT ho hx h.1 h.2;exact⟨_,h1,h2⟩
   ·exact h.elim
  ·obtain⟨v,h1,h2⟩:=Ft (P:=P) (H:=H) ho h;exact⟨_,h1,h2⟩
 ·rename_i ho;obtain⟨v,h1,h2⟩:=HL (P:=P) (H:=H) ho h;exact⟨_,h1,h2⟩
 ·rename_i ho;split at h
  ·rename_i hd hk;exact⟨_,h,wV hd ho⟩
  ·exact h.elim
 ·rename_i ho;exact yE hΓ ho h
 ·rename_i ho;exact yB hΓ (.inl ho) h
 ·rename_i ho;exact zn hΓ ho h
 ·rename_i ho;split at h
  ·rename_i hd hs ht;exact wW hΓ hs ht hd ho h
  ·exact h.elim
 ·rename_i ho;split at h
  ·rename_i hT;split at h
   ·exact h.elim
   ·rename_i ME;exact Bg hΓ hT ho (fun e=>ME e) h
  ·exact h.elim
 ·rename_i ho;split at h
  ·rename_i hd hT;split at h
   ·rename_i he;split at h
    ·rename_i hE;split at h
     ·rename_i hn;split at h
      ·exact sa hΓ hT he hE hd ho (by simpa using hn) h
      ·exact qJ hΓ hT he hE hd ho (by simpa using hn) h
     ·exact h.elim
    ·exact h.elim
   ·exact h.elim
  ·exact h.elim
 ·rename_i ho;split at h
  ·rename_i hd hT;split at h
   ·rename_i he;split at h
    ·rename_i hE;exact Ds hΓ hT he hE hd ho h
    ·exact h.elim
   ·exact h.elim
  ·exact h.elim
 ·rename_i ho;split at h
  ·rename_i hT;split at h
   ·rename_i he;split at h
    ·rename_i hE;split at h
     ·exact h.elim
     ·rename_i RX;exact tH hΓ hT he hE ho h (fun t ht=>RX t ht)
    ·exact h.elim
   ·split at h
    ·rename_i hs;obtain⟨t,hx,h⟩:=h;exact tQ hΓ hT hs ho hx h
    ·exact h.elim
  ·exact h.elim
 ·rename_i ho;split at h
  ·rename_i hT;split at h
   ·rename_i hf;split at h
    ·rename_i TC;obtain⟨v,h1,h2⟩:=BP (H:=H) hΓ hT hf TC ho h;exact⟨_,h1,h2⟩
    ·exact h.elim
   ·exact h.elim
  ·exact h.elim
 ·rename_i ho;obtain⟨v,h1,h2⟩:=wT (P:=P) (H:=H) ho h;exact⟨_,h1,h2⟩
 ·rename_i ho;split at h
  ·rename_i hx;exact⟨_,h,rx ho hx (.inl ⟨_,_,rfl⟩)⟩
  ·rename_i hx;exact⟨_,h,rx ho hx (.inr (.inl ⟨_,_,_,_,rfl⟩))⟩
  ·rename_i hx;exact⟨_,h,rx ho hx (.inr (.inr ⟨_,_,_,rfl⟩))⟩
  ·exact h.elim
 ·rename_i ho;split at h
  ·rename_i hT;exact Gg hΓ hT ho h
  ·exact h.elim
 ·rename_i ho;split at h
  ·rename_i hd hT hU;split at h
   ·rename_i he hk;split at h
    ·rename_i hE;exact zl hΓ hT hU he hk hE hd ho h
    ·exact h.elim
   ·exact h.elim
  ·exact h.elim
 ·rename_i ho;split at h
  ·rename_i hx hy;exact⟨_,h,EV ho hx hy⟩
  ·exact h.elim
 ·rename_i ho;split at h
  ·rename_i hx hy;exact⟨_,h,FZ ho hx hy⟩
  ·exact h.elim
 ·rename_i ho;split at h
  ·rename_i hd;rcases h with⟨ts,r,h1,h2,h3⟩|h
   ·exact⟨_,h3,Dy hd ho h1 h2⟩
   ·exact sQ ho h
  ·rename_i hd;rcases h with⟨ts,r,h1,h2,h3⟩|h
   ·exact⟨_,h3,tD hd ho h1 h2⟩
   ·exact sQ ho h
 ·exact h.elim
end
def di:List (Nat×AV)->Nat->AV
 | [],_=> .unk
 |(i,v)::r,t=>bif Nat.beq t i then v else di r t
def cj:List (Id×Option AO)->Id->Option AO
 | [],_=>none
 |(i,x)::r,o=>bif fu o i then x else cj r o
def used:List Nat->Nat->Bool
 | [],_=>false
 | i::r,n=>bif Nat.beq n i then true else used r n
structure St where
 fr:List (Nat×AV)
 h:List (Id×Option AO)
 u:List Nat
def St.fs (st:St):FS:=⟨di st.fr,cj st.h,fun n=>used st.u n=true⟩
def sV:List (Id×Option AO)->List (Id×Option AO)->List (Id×Option AO)
 | [],h=>h
 | p::r,h=>sV r (p::h)
def Ec:Option Nat->List Nat->List Nat
 | some n,u=>n::u
 | none,u=>u
def Lp:Option Nat->AV->List (Nat×AV)->List (Nat×AV)
 | some d,v,fr=>(d,v)::fr
 | none,_,fr=>fr
def St.app (st:St)(dst:Option Nat)(e:Eff):St:=⟨Lp dst e.v st.fr,sV e.us st.h,Ec e.new st.u⟩
theorem nG:∀(us h:List (Id×Option AO)) (o:Id),cj (sV us h) o=bP (cj h) us o
 | [],_,_=>rfl
 | p::us,h,o=>by
  rw[sV,nG us (p::h),bP];congr 1;funext o;simp only[cj];by_cases e:o=p.1
  ·rw[c7 e,(idEq_iff).2 e];rfl
  ·rw[b8 e]
   cases hb:fu o p.1 with|true=>exact absurd (idEq_iff.1 hb) e|false=>rfl
theorem FS.ext' {s t:FS}(hL:∀i,s.L i=t.L i)(hH:∀o,s.H o=t.H o)(hU:∀n,s.U n↔t.U n):s=t:=by obtain⟨L,H,U⟩:=s;obtain⟨L',H',U'⟩:=t;simp only at hL hH hU;rw[funext hL,funext hH,(funext fun n=>propext (hU n):U=U')]
theorem zA (st:St)(dst:Option Nat)(e:Eff):(st.app dst e).fs=st.fs.app dst e:=by
 refine FS.ext' (fun i=>?_) (fun o=>nG _ _ _) (fun n=>?_)
 ·cases dst with|none=>rfl|some d=>rfl
 ·show used (Ec e.new st.u) n=true↔used st.u n=true\/e.new=some n
  cases hn:e.new with
  | none=>simp[Ec]
  | some d=>
   simp only[Ec,used];by_cases e:n=d
   ·subst e;simp
   ·have:Nat.beq n d=false:=(by cases hb:Nat.beq n d with|false=>rfl|true=>exact absurd (r9 hb) e);simp only[this,cond_false,Option.some.injEq];exact⟨.inl,fun h=>h.elim id fun h=>absurd h.symm e⟩
abbrev mm:Eff:=⟨.tup [],[],none,[]⟩
def AC.force (x:AC)(K:AC->Prop):Prop:=
 match x with|.t y=>K (.t y)|.f y=>K (.f y)|.nils n=>K (.nils n)|.nilp=>K .nilp|.own o=>K (.own o)|.sub o k=>K (.sub o k)|.ptr o k=>K (.ptr o k)|.opq=>K .opq|.mpv o=>K (.mpv o)
abbrev lG:List AC->(List AC->Prop)->Prop
 | [],K=>K []
 | c::cs,K=>c.force fun c=>lG cs fun cs=>K (c::cs)
def AR.force (x:AR)(K:AR->Prop):Prop:=
 match x with
 | .c y=>y.force fun y=>K (.c y)
 | .agg ys=>lG ys fun ys=>K (.agg ys)
abbrev qM:List AR->(List AR->Prop)->Prop
 | [],K=>K []
 | c::cs,K=>c.force fun c=>qM cs fun cs=>K (c::cs)
def AV.force (x:AV)(K:AV->Prop):Prop:=
 match x with
 | .r y=>y.force fun y=>K (.r y)
 | .tup ys=>qM ys fun ys=>K (.tup ys)
 | .el o sz i off=>K (.el o sz i off)
 | .ro fr row off=>K (.ro fr row off)
 | .unk=>K .unk
def AO.force (x:AO)(K:AO->Prop):Prop:=
 match x with
 | .arr true sz rows=>K (.arr true sz rows)
 | .arr false sz rows=>K (.arr false sz rows)
 | .box ys=>lG ys fun ys=>K (.box ys)
 | .dar sz rows none=>K (.dar sz rows none)
 | .mp kk es=>K (.mp kk es)
 | .dar sz rows (some (i,off,(n,j,l)))=>K (.dar sz rows (some (i,off,(n,j,l))))
abbrev nP:List (Id×Option AO)->(List (Id×Option AO)->Prop)->Prop
 | [],K=>K []
 |(o,none)::l,K=>nP l fun l=>K ((o,none)::l)
 |(o,some x)::l,K=>x.force fun x=>nP l fun l=>K ((o,some x)::l)
abbrev ub:List Id->(List Id->Prop)->Prop
 | [],K=>K []
 | ⟨a,b,d⟩::l,K=>ub l fun l=>K (⟨a,b,d⟩::l)
abbrev DK:List (Id×Option AO)->(List Id->Prop)->Prop
 | [],K=>K []
 |(o,_)::l,K=>DK l fun l=>K (o::l)
abbrev wL:List (Id×Option AO)->List (Id×Option AO)->(List (Id×Option AO)->Prop)->Prop
 | [],h,K=>K h
 | p::r,h,K=>wL r (p::h) K
def St.put (st:St)(d:Option Nat)(e:Eff)(K:St->List Id×List Id->Prop):Prop:=
 match st,e with
 | ⟨fr,h,u⟩,⟨v,us,new,R⟩=>v.force fun v=>nP us fun us=>ub R fun R=>DK us fun ks=>wL us h fun h=>
   (
   match d with
   | some d=>(match new with
     | some n=>K ⟨(d,v)::fr,h,n::u⟩ (R,ks)
     | none=>K ⟨(d,v)::fr,h,u⟩ (R,ks))
   | none=>(match new with
     | some n=>K ⟨fr,h,n::u⟩ (R,ks)
     | none=>K ⟨fr,h,u⟩ (R,ks)))
theorem AC.force_eq (x:AC)(K:AC->Prop):x.force K=K x:=by cases x<;>rfl
theorem py:∀(l:List AC) (K:List AC->Prop),lG l K=K l
 | [],K=>rfl
 | c::cs,K=>by rw[lG,AC.force_eq,py cs]
theorem AR.force_eq (x:AR)(K:AR->Prop):x.force K=K x:=by cases x with|c c=>show c.force (fun c=>K (.c c))=_;rw[AC.force_eq]|agg cs=>show lG cs (fun cs=>K (.agg cs))=_;rw[py]
theorem wJ:∀(l:List AR) (K:List AR->Prop),qM l K=K l
 | [],K=>rfl
 | c::cs,K=>by rw[qM,AR.force_eq,wJ cs]
theorem AV.force_eq (x:AV)(K:AV->Prop):x.force K=K x:=by cases x with|r x=>show x.force (fun c=>K (.r c))=_;rw[AR.force_eq]|tup xs=>show qM xs (fun c=>K (.tup c))=_;rw[wJ]|_=>rfl
theorem AO.force_eq (x:AO)(K:AO->Prop):x.force K=K x:=by
 cases x with
 | arr fr sz rows=>cases fr<;>rfl
 | box cs=>show lG cs (fun cs=>K (.box cs))=_;rw[py]
 | mp kk es=>rfl
 | dar sz rows hole=>cases hole<;>rfl
theorem oR:∀(l:List (Id×Option AO)) (K:List (Id×Option AO)->Prop),nP l K=K l
 | [],K=>rfl
 |(o,none)::l,K=>by rw[nP,oR l]
 |(o,some x)::l,K=>by rw[nP,AO.force_eq,oR l]
theorem wk:∀(l:List Id) (K:List Id->Prop),ub l K=K l
 | [],K=>rfl
 | ⟨a,b,d⟩::l,K=>by rw[ub,wk l]
theorem Ak:∀(l:List (Id×Option AO)) (K:List Id->Prop),DK l K=K (l.map (·.1))
 | [],K=>rfl
 |(o,x)::l,K=>by rw[DK,Ak l];rfl
theorem rR:∀(us h:List (Id×Option AO)) (K:List (Id×Option AO)->Prop),wL us h K=K (sV us h)
 | [],h,K=>rfl
 | p::r,h,K=>by rw[wL,rR r];rfl
theorem St.put_eq (st:St)(d:Option Nat)(e:Eff)(K:St->List Id×List Id->Prop):st.put d e K=K (st.app d e) (e.R,e.us.map (·.1)):=by
 obtain⟨fr,h,u⟩:=st;obtain⟨v,us,new,R⟩:=e;unfold St.put;simp only[AV.force_eq,oR,wk,Ak,rR]
 cases d<;>cases new<;>rfl
def bD (o:Oper)(u:List Nat):Nat:=
 match o.dst with|some d=>d|none=>100000+u.length
def w1 (P:Program)(Γ:Env)(N:Nat)(o:Oper)(st:St)(K:St->List Id×List Id->Prop):Prop:=
 match o.dst with
 | some d=>(match Nat.blt d N with
   | true=>sem P Γ d o (evL (di st.fr)) (cj st.h) fun e=>
    (
     match e.new with
     | some n=>(match used st.u n with
      | false=>st.put (some d) e K
      | true=>False)
     | none=>st.put (some d) e K)
   | false=>False)
 | none=>sem P Γ (100000+st.u.length) o (evL (di st.fr)) (cj st.h) fun e=>
   (
   match e.new with
   | some n=>(match used st.u n with
     | false=>st.put none e K
     | true=>False)
   | none=>st.put none e K)
abbrev Log:=List (List Id×List Id)
def lit (st:St)(dj:Nat)(b:Bool):St:=match st with|⟨fr,h,u⟩=>⟨(dj,tB b)::fr,h,u⟩
def jk (ops:List Oper)(j:Nat):Option Nat:=(ops[j]?).bind (·.dst)
abbrev lC (P:Program)(Γ:Env)(N:Nat)(ops:List Oper):List Oper->St->Log->(St->Log->Prop)->Prop
 | [],st,log,K=>K st log
 | o::rest,st,log,K=>
  match o.guard with
  | none=>w1 P Γ N o st fun Mx e=>lC P Γ N ops rest Mx (e::log) K
  | some (j,want)=>
   (
    match jk ops j with
    | some dj=>
     (
     match di st.fr dj with
     | .r (.c (.t (.bool b)))=>
      (
       match want with
       | true=>ifB b (w1 P Γ N o (lit st dj true) fun Mx e=>lC P Γ N ops rest Mx (e::log) K)
        (
         match o.dst with
         | some d=>(match Nat.blt d N with
          | true=>(lit st dj false).put o.dst mm fun Mx e=>lC P Γ N ops rest Mx (e::log) K
          | false=>False)
         | none=>(lit st dj false).put none mm fun Mx e=>lC P Γ N ops rest Mx (e::log) K)
       | false=>ifB b
        (
         match o.dst with
         | some d=>(match Nat.blt d N with
          | true=>(lit st dj true).put o.dst mm fun Mx e=>lC P Γ N ops rest Mx (e::log) K
          | false=>False)
         | none=>(lit st dj true).put none mm fun Mx e=>lC P Γ N ops rest Mx (e::log) K)
        (w1 P Γ N o (lit st dj false) fun Mx e=>lC P Γ N ops rest Mx (e::log) K))
     | .tup []=>(match o.dst with
       | some d=>(match Nat.blt d N with
        | true=>st.put o.dst mm fun Mx e=>lC P Γ N ops rest Mx (e::log) K
        | false=>False)
       | none=>st.put none mm fun Mx e=>lC P Γ N ops rest Mx (e::log) K)
     | _=>False)
    | none=>False)
def eI (ops:List Oper)(s:FS)(o:Oper)(run:Bool):Prop:=
 match o.guard with|none=>run=true|some (j,want)=>(∃dj b,jk ops j=some dj/\s.L dj=tB b/\run=(b==want))\/(∃dj,jk ops j=some dj/\s.L dj= .tup []/\run=false)
structure StepOK (P:Program) (N:Nat) (ops:List Oper) (s:FS) (o:Oper) (run:Bool) (e:Eff):Prop where
 dst:∀d,o.dst=some d->d<N
 guard:eI ops s o run
 yes:run=true->Good P o (evL s.L) s.H e/\(∀n,e.new=some n->¬s.U n)
 no:run=false->e=mm
def fY (P:Program)(N:Nat)(ops:List Oper):FS->List Oper->List (Bool×Eff)->Prop
 | _,[],[]=>True
 | s,o::l,(b,e)::es=>StepOK P N ops s o b e/\fY P N ops (s.app o.dst e) l es
 | _,_,_=>False
def gM:FS->List Oper->List (Bool×Eff)->FS
 | s,o::l,(_,e)::es=>gM (s.app o.dst e) l es
 | s,_,_=>s
section
variable {P:Program} {Γ:Env} {N:Nat} {ops:List Oper}
theorem ul {st:St}{dj:Nat}{b:Bool}(h:di st.fr dj=tB b):(lit st dj b).fs=st.fs:=by
 obtain⟨fr,hh,u⟩:=st;refine FS.ext' (fun i=>?_) (fun _=>rfl) (fun _=>Iff.rfl);show(bif Nat.beq i dj then tB b else di fr i)=di fr i
 cases hb:Nat.beq i dj with|false=>rfl|true=>rw[r9 hb];exact h.symm
theorem V28{p:Prop}(h:p:=by
 intro d e h1;split at h1
 ·rename_i n hn;split at h1
  ·rename_i hu;rw[St.put_eq]at h1;exact⟨h1,fun n' Si=>by rw[hn]at Si;injection Si with Si;subst Si;show ¬used st.u n=true;rw[hu];simp⟩
  ·exact h1.elim
 ·rename_i hn;rw[St.put_eq]at h1
  exact⟨h1,fun n' Si=>by rw[hn]at Si;cases Si⟩):p:=h
theorem V23{p:Prop}(h:p:=by
 split at h
 ·rename_i d hd;split at h
  ·rename_i My;obtain⟨e,h1,h2⟩:=uR hΓ h;obtain⟨h3,h4⟩:=fin _ e h1;exact⟨e,by rw[hd];exact h3,fun d' NU=>by rw[hd]at NU;injection NU with NU;subst NU;simpa using My,h2,h4⟩
  ·exact h.elim
 ·rename_i hd;obtain⟨e,h1,h2⟩:=uR hΓ h;obtain⟨h3,h4⟩:=fin _ e h1
  exact⟨e,by rw[hd];exact h3,fun d' NU=>(by rw[hd]at NU;cases NU),h2,h4⟩):p:=h
theorem LA {o:Oper}{st:St}{K:St->List Id×List Id->Prop}(hΓ:Γ.chk P=true)(h:w1 P Γ N o st K):
  ∃e,K (st.app o.dst e) (e.R,e.us.map (·.1))/\(∀d,o.dst=some d->d<N)/\Good P o (evL st.fs.L) st.fs.H e/\(∀n,e.new=some n->¬st.fs.U n):=by
 have fin:∀(d:Option Nat) (e:Eff),(match e.new with
     | some n=>(match used st.u n with
      | false=>st.put d e K
      | true=>False)
     | none=>st.put d e K)->K (st.app d e) (e.R,e.us.map (·.1))/\∀n,e.new=some n->¬st.fs.U n:=by
  exact V28
 unfold w1 at h;exact V23
theorem tV (hΓ:Γ.chk P=true):∀(l:List Oper) (st:St) (log:Log) (K:St->Log->Prop),lC P Γ N ops l st log K->
  ∃es Mx,es.length=l.length/\fY P N ops st.fs l es/\Mx.fs=gM st.fs l es/\K Mx ((es.map fun p=>(p.2.R,p.2.us.map (·.1))).reverse++log)
 | [],st,log,K,h=>⟨[],st,rfl,trivial,rfl,h⟩
 | o::rest,st,log,K,h=>by
  have yes:∀(st1:St) (want:Bool),st1.fs=st.fs->eI ops st.fs o true->(w1 P Γ N o st1 fun Mx e=>lC P Γ N ops rest Mx (e::log) K)->
    ∃es Mx,es.length=(o::rest).length/\fY P N ops st.fs (o::rest) es/\Mx.fs=gM st.fs (o::rest) es/\K Mx ((es.map fun p=>(p.2.R,p.2.us.map (·.1))).reverse++log):=by
   intro st1 want Po hg h;obtain⟨e,h1,h2,h3,h4⟩:=LA hΓ h;obtain⟨es,Mx,g1,g2,g3,g4⟩:=tV hΓ rest _ _ _ h1;rw[zA,Po]at g2 g3;rw[Po]at h3 h4;refine⟨(true,e)::es,Mx,by simp[g1],⟨⟨h2,hg,fun _=>⟨h3,h4⟩,fun h=>by cases h⟩,g2⟩,g3,?_⟩;simpa using g4
  have no:∀(
         st1:St),st1.fs=st.fs->eI ops st.fs o false->(match o.dst with
         | some d=>(match Nat.blt d N with
          | true=>st1.put o.dst mm fun Mx e=>lC P Γ N ops rest Mx (e::log) K
          | false=>False)
         | none=>st1.put none mm fun Mx e=>lC P Γ N ops rest Mx (e::log) K)->
    ∃es Mx,es.length=(o::rest).length/\fY P N ops st.fs (o::rest) es/\Mx.fs=gM st.fs (o::rest) es/\K Mx ((es.map fun p=>(p.2.R,p.2.us.map (·.1))).reverse++log):=by
   intro st1 Po hg h;simp only[St.put_eq]at h
   have key:(∀d,o.dst=some d->d<N)/\lC P Γ N ops rest (st1.app o.dst mm) (([],[])::log) K:=by
    split at h
    ·rename_i d hd;split at h
     ·rename_i My;exact⟨fun d' NU=>by rw[hd]at NU;injection NU with NU;subst NU;simpa using My,h⟩
     ·exact h.elim
    ·rename_i hd;exact⟨fun d' NU=>(by rw[hd]at NU;cases NU),by rw[hd];exact h⟩
   obtain⟨es,Mx,g1,g2,g3,g4⟩:=tV hΓ rest _ _ _ key.2;rw[zA,Po]at g2 g3;refine⟨(false,mm)::es,Mx,by simp[g1],⟨⟨key.1,hg,fun h=>(by cases h),fun _=>rfl⟩,g2⟩,g3,?_⟩;simpa using g4
  rw[lC]at h;split at h
  ·rename_i Rs;exact yes st true rfl (by unfold eI;rw[Rs]) h
  ·rename_i j want Rs;split at h
   ·rename_i dj Yh;split at h
    ·rename_i b hb
     have QQ:∀run,run=(b==want)->eI ops st.fs o run:=fun run hr=>by
      unfold eI;rw[Rs];exact .inl ⟨dj,b,Yh,hb,hr⟩
     cases want with
     | true=>cases b with|true=>exact yes (lit st dj true) true (ul hb) (QQ _ rfl) h|false=>exact no (lit st dj false) (ul hb) (QQ _ rfl) h
     | false=>cases b with|true=>exact no (lit st dj true) (ul hb) (QQ _ rfl) h|false=>exact yes (lit st dj false) false (ul hb) (QQ _ rfl) h
    ·rename_i hb;exact no st rfl (by unfold eI;rw[Rs];exact .inr ⟨dj,Yh,hb,rfl⟩) h
    ·exact h.elim
   ·exact h.elim
 termination_by l=>l.length
theorem qP {B:Nat}{M:Nat->Prop}{w0:Start}{ρ:Rho}{s:FS}{a:Act}{w:World}{o:Oper}{run:Bool}(hc:Conc N B M w0 ρ s a w)(hg:eI ops s o run):Region.wanted o (yielded ops.toArray a.tmps)=run:=by
 unfold eI at hg;split at hg
 ·rename_i h;simp[Region.wanted,h,hg]
 ·rename_i j want h;rcases hg with⟨dj,b,h1,h2,rfl⟩|⟨dj,h1,h2,rfl⟩
  ·have hv:=hc.slot dj;rw[h2]at hv;have e:=fy hv
   have hy:yielded ops.toArray a.tmps j=some b:=by
    unfold yielded;have:(ops.toArray[j]?).bind (·.dst)=some dj:=(by simpa [jk]using h1);rw[this];simp only[Option.bind_some]
    have My:dj<a.tmps.size:=by
     rcases m7 dj a.tmps.size with h'|h'
     ·exact h'
     ·simp[r7,F3 h',undef]at e
    rw[w7 My];have:a.tmps[dj]= .bool b:=(by simpa [r7,My]using e);rw[this]
   simp only[Region.wanted,h,hy]
   cases b<;>cases want<;>rfl
  ·have hv:=hc.slot dj;rw[h2]at hv;obtain⟨us,e,h3⟩:=hv
   have hy:yielded ops.toArray a.tmps j=none:=by
    unfold yielded;have:(ops.toArray[j]?).bind (·.dst)=some dj:=(by simpa [jk]using h1);rw[this];simp only[Option.bind_some];rcases m7 dj a.tmps.size with My|h'
    ·rw[w7 My];have:a.tmps[dj]= .tuple us:=(by simpa [r7,My]using e);rw[this]
    ·rw[F3 h']
   simp only[Region.wanted,h,hy]
   cases want<;>rfl
theorem qQ {B:Nat}{M:Nat->Prop}{w0:Start}{Q:Exit->Act->World->Prop}:∀(l:List Oper) (es:List (Bool×Eff)) (s:FS) (ρ:Rho) (a:Act) (w:World),fY P N ops s l es->Conc N B M w0 ρ s a w->
  (∀ρ a w,Conc N B M w0 ρ (gM s l es) a w->Q .normal a w)->wpList P ops.toArray Q l a w
 | [],[],s,ρ,a,w,_,hc,hQ=>hQ ρ a w hc
 | o::l,(b,e)::es,s,ρ,a,w,NG,hc,hQ=>by
  obtain⟨h1,h2⟩:=NG;have hw:=qP hc h1.guard;unfold wpList
  cases b with
  | true=>
   rw[c7 hw];obtain⟨g1,g2⟩:=h1.yes rfl
   exact .inl (g1 N B M w0 ρ s a w Q _ hc (fun _ _=>rfl) (fun _ _=>rfl) g2 h1.dst fun v w' ρ' MB=>qQ l es _ ρ' _ w' h2 MB hQ)
  | false=>
   rw[b8 (by rw[hw];simp)];have he:=h1.no rfl;subst he
   exact qQ l es _ ρ _ w h2 (hc.put h1.dst (av:= .tup []) ⟨#[],rfl,trivial⟩ aaO []) hQ
 | [],_::_,_,_,_,_,h,_,_=>h.elim
 | _::_,[],_,_,_,_,h,_,_=>h.elim
def cJ (o:Oper):List Nat:=(o.after.toList.filter fun e=>Region.binds .any e).map (·.on)
def anc (ops:List Oper):Nat->Nat->List Nat
 | 0,_=>[]
 | f+1,i=>match ops[i]? with
  | some o=>(cJ o).flatMap fun j=>j::anc ops f j
  | none=>[]
def eY (ops:List Oper)(o:Oper):List Nat:=
 (o.op.operands.toList.filterMap fun|.tmp t=>some t|_=>none)++
 (
  match o.guard with
  | some (j,_)=>(jk ops j).toList
  | none=>[])
def Kj (t:Nat)(l:List Nat):Bool:=l.any (Nat.beq t)
def vZ (o:Oper)(l:List Nat):Bool:=match o.dst with|some d=>Kj d l|none=>false
def lc (a b:Oper):Bool:=match a.dst,b.dst with|some d,some d'=>Nat.beq d d'|_,_=>false
def eT (ops:List Oper)(a b:Oper)(ra rb:List Id×List Id):Bool:=
 vZ a (eY ops b)||vZ b (eY ops a)||lc a b||ra.2.any (fun k=>ku k rb.1||ku k rb.2)||rb.2.any (fun k=>ku k ra.1)
def yP (ms:List Nat):List Nat->Nat->Nat
 | [],m=>m
 | j::js,m=>yP ms js (Nat.lor (Nat.lor m (Nat.pow 2 j)) (ms.getD j 0))
def EF:List Nat->List Oper->List Nat
 | ms,[]=>ms
 | ms,o::l=>EF (ms++[yP ms (cJ o) 0]) l
def tX (ops:List Oper)(m:Nat->Nat)(i:Nat)(o:Oper)(r:List Id×List Id):Nat->List Oper->Log->Bool
 | j,o'::l,r'::log=>(!eT ops o o' r r'||Nat.testBit (m j) i)&&tX ops m i o r (j+1) l log
 | _,_,_=>true
def oG (ops:List Oper)(m:Nat->Nat):Nat->List Oper->Log->Bool
 | i,o::l,r::log=>(cJ o).all (fun j=>Nat.blt j i)&&tX ops m i o r (i+1) l log&&oG ops m (i+1) l log
 | _,[],[]=>true
 | _,_,_=>false
def sK (ops:List Oper)(log:Log):Bool:=oG ops (fun j=>(EF [] ops).getD j 0) 0 ops log
def sel:FS->List Oper->List (Bool×Eff)->(Nat->Bool)->Nat->FS
 | s,o::l,(_,e)::es,S,k=>sel (if S k then s.app o.dst e else s) l es S (k+1)
 | s,_,_,_,_=>s
theorem zh:∀(l:List Oper) (es:List (Bool×Eff)) (s:FS) (S:Nat->Bool) (k:Nat),(∀i,k<=i->i<k+l.length->S i=true)->sel s l es S k=gM s l es
 | [],_,_,_,_,_=>by simp[sel,gM]
 | _::_,[],_,_,_,_=>by simp[sel,gM]
 | o::l,(b,e)::es,s,S,k,h=>by
  rw[sel,gM,c7 (h k (d8 _) s_)];exact zh l es _ S (k+1) fun i h1 h2=>h i o_ (by simp only[d5];omega)
theorem mJ:∀(l:List Oper) (es:List (Bool×Eff)) (s:FS) (S:Nat->Bool) (k:Nat),(∀i,k<=i->i<k+l.length->S i=false)->sel s l es S k=s
 | [],_,_,_,_,_=>by simp[sel]
 | _::_,[],_,_,_,_=>by simp[sel]
 | o::l,(b,e)::es,s,S,k,h=>by
  rw[sel,b8 (by rw[h k (d8 _) s_];simp)];exact mJ l es _ S (k+1) fun i h1 h2=>h i o_ (by simp only[d5];omega)
theorem nu:∀(l:List Oper) (es:List (Bool×Eff)) (s:FS) (S S':Nat->Bool) (k:Nat),(∀i,k<=i->S i=S' i)->sel s l es S k=sel s l es S' k
 | [],_,_,_,_,_,_=>by simp[sel]
 | _::_,[],_,_,_,_,_=>by simp[sel]
 | o::l,(b,e)::es,s,S,S',k,h=>by
  rw[sel,sel,h k (d8 _)];exact nu l es _ S S' (k+1) fun i hi=>h i o_
theorem mi:∀(us:List (Id×Option AO)) (H H':Id->Option AO) (o:Id),o∈us.map (·.1)->bP H us o=bP H' us o
 | p::us,H,H',o,h=>by
  rw[bP,bP];by_cases h':o∈us.map (·.1)
  ·exact mi us _ _ o h'
  ·rw[cA us _ o h',cA us _ o h'];simp only[p7,d6,h',or_false]at h;rw[c7 h,c7 h]
structure Apart (d d':Option Nat) (e e':Eff):Prop where
 dst:∀t,d=some t->d'≠some t
 keys:∀o,o∈e.us.map (·.1)->o∉e'.us.map (·.1)
theorem En (L:Nat->AV)(d:Option Nat)(v:AV)(t:Nat):mD L d v t=if d=some t then v else L t:=by
 cases d with
 | none=>rfl
 | some d=>
  show(bif Nat.beq t d then v else L t)=_;by_cases e:d=t
  ·subst e;simp
  ·rw[b8 (by simpa using e)]
   cases hb:Nat.beq t d with|false=>rfl|true=>exact absurd (r9 hb).symm e
theorem GV {s:FS}{d d':Option Nat}{e e':Eff}(h:Apart d d' e e'):(s.app d e).app d' e'=(s.app d' e').app d e:=by
 refine FS.ext' (fun t=>?_) (fun o=>?_) (fun n=>?_)
 ·show mD (mD s.L d e.v) d' e'.v t=mD (mD s.L d' e'.v) d e.v t;simp only[En];by_cases h1:d=some t
  ·simp only[c7 h1,b8 (h.dst t h1)]
  ·simp only[b8 h1]
 ·show bP (bP s.H e.us) e'.us o=bP (bP s.H e'.us) e.us o;by_cases h1:o∈e.us.map (·.1)
  ·rw[cA e'.us _ o (h.keys o h1)];exact mi e.us _ _ o h1
  ·rw[cA e.us _ o h1];by_cases h2:o∈e'.us.map (·.1)
   ·exact mi e'.us _ _ o h2
   ·rw[cA e'.us _ o h2,cA e'.us _ o h2,cA e.us _ o h1]
 ·show((s.U n\/_)\/_)↔((s.U n\/_)\/_);constructor
  ·rintro((h|h)|h)
   ·exact .inl (.inl h)
   ·exact .inr h
   ·exact .inl (.inr h)
  ·rintro((h|h)|h)
   ·exact .inl (.inl h)
   ·exact .inr h
   ·exact .inl (.inr h)
theorem V72{p:Prop}(h:p:=by
 exact ih es _ (k+1) fun j o' b' e' h1 h2 h3=>QH (j+1) o' b' e' (by rw[show k+(j+1)=k+1+j by omega];exact h1) aaf aaA):p:=h
theorem za:∀(l:List Oper) (es:List (Bool×Eff)) (s:FS) (S:Nat->Bool) (k i:Nat) (o:Oper) (b:Bool) (e:Eff),l[i]?=some o->es[i]?=some (b,e)->S (k+i)=false->
  (∀j o' b' e',i<j->S (k+j)=true->l[j]?=some o'->es[j]?=some (b',e')->Apart o.dst o'.dst e e')->
  sel s l es (fun n=>if n=k+i then true else S n) k=(sel s l es S k).app o.dst e
 | [],_,_,_,_,i,_,_,_,h,_,_,_=>by simp at h
 | _::_,[],_,_,_,i,_,_,_,_,h,_,_=>by simp at h
 | o0::l,(b0,e0)::es,s,S,k,0,o,b,e,ho,he,hS,QH=>by
  simp only[e8,Option.some.injEq,Prod.mk.injEq]at ho he;obtain⟨rfl,rfl⟩:=he;subst ho;rw[sel,sel];simp only[z4,if_true]at hS⊢;rw[b8 (by rw[hS];simp)]
  have e1:sel (s.app o0.dst e0) l es (fun n=>if n=k then true else S n) (k+1)=sel (s.app o0.dst e0) l es S (k+1):=
   nu l es _ _ _ _ fun i hi=>b8 o_
  rw[e1]
  have push:∀(l:List Oper) (es:List (Bool×Eff)) (s:FS) (k:Nat),(∀j o' b' e',S (k+j)=true->l[j]?=some o'->es[j]?=some (b',e')->Apart o0.dst o'.dst e0 e')->sel (s.app o0.dst e0) l es S k=(sel s l es S k).app o0.dst e0:=by
   intro l
   induction l with
   | nil=>intro es s k _;simp[sel]
   | cons o1 l ih=>
    intro es s k QH
    cases es with
    | nil=>simp[sel]
    | cons p es=>
     obtain⟨b1,e1⟩:=p;rw[sel,sel]
     cases hk:S k with
     | true=>
      simp only[if_true];rw[GV (QH 0 o1 b1 e1 (by simpa using hk) s_ s_)]
      exact V72
     | false=>simp only[A2,if_false];exact V72
  exact push l es s (k+1) fun j o' b' e' h1 h2 h3=>QH (j+1) o' b' e' o_ (by rw[show k+(j+1)=k+1+j by omega];exact h1) aaf aaA
 | o0::l,(b0,e0)::es,s,S,k,i+1,o,b,e,ho,he,hS,QH=>by
  rw[sel,sel];have hk:(if k=k+(i+1)then true else S k)=S k:=b8 o_;simp only[hk]
  have:=za l es (if S k then s.app o0.dst e0 else s) S (k+1) i o b e aaw (by simpa using he) (by rw[show k+1+i=k+(i+1) by omega];exact hS)
   (fun j o' b' e' h1 h2 h3 h4=>QH (j+1) o' b' e' o_ (by rw[show k+(j+1)=k+1+j by omega];exact h2) aaA aaB)
  rw[show k+1+i=k+(i+1) by omega]at this;exact this
theorem GH:∀(l:List Oper) (es:List (Bool×Eff)) (s s':FS) (S S':Nat->Bool) (k t:Nat),s.L t=s'.L t->(∀j o',l[j]?=some o'->o'.dst=some t->S (k+j)=S' (k+j))->(sel s l es S k).L t=(sel s' l es S' k).L t
 | [],_,_,_,_,_,_,_,h,_=>by simpa [sel]using h
 | _::_,[],_,_,_,_,_,_,h,_=>by simpa [sel]using h
 | o::l,(b,e)::es,s,s',S,S',k,t,h,hS=>by
  rw[sel,sel];refine GH l es _ _ S S' (k+1) t ?_ fun j o' h1 h2=>by have:=hS (j+1) o' aai h2;rwa [show k+(j+1)=k+1+j by omega]at this
  have app_L:∀s:FS,(s.app o.dst e).L t=if o.dst=some t then e.v else s.L t:=fun s=>En s.L o.dst e.v t
  by_cases hd:o.dst=some t
  ·have:=hS 0 o s_ hd;simp only[z4]at this;rw[this]
   cases S' k with
   | true=>
    show(s.app o.dst e).L t=(s'.app o.dst e).L t
    rw[app_L,app_L,c7 hd,c7 hd]
   | false=>exact h
  ·have e1:(if S k then s.app o.dst e else s).L t=s.L t:=(by cases S k<;>simp[app_L,hd]);have e2:(if S' k then s'.app o.dst e else s').L t=s'.L t:=(by cases S' k<;>simp[app_L,hd]);rw[e1,e2,h]
theorem DV:∀(l:List Oper) (es:List (Bool×Eff)) (s s':FS) (S S':Nat->Bool) (k:Nat) (q:Id),s.H q=s'.H q->(∀j o' b' e',l[j]?=some o'->es[j]?=some (b',e')->q∈e'.us.map (·.1)->S (k+j)=S' (k+j))->(sel s l es S k).H q=(sel s' l es S' k).H q
 | [],_,_,_,_,_,_,_,h,_=>by simpa [sel]using h
 | _::_,[],_,_,_,_,_,_,h,_=>by simpa [sel]using h
 | o::l,(b,e)::es,s,s',S,S',k,q,h,hS=>by
  rw[sel,sel];refine DV l es _ _ S S' (k+1) q ?_ fun j o' b' e' h1 h2 h3=>by have:=hS (j+1) o' b' e' aai aaf h3;rwa [show k+(j+1)=k+1+j by omega]at this
  by_cases hd:q∈e.us.map (·.1)
  ·have:=hS 0 o b e s_ s_ hd;simp only[z4]at this;rw[this]
   cases S' k with|true=>exact mi e.us _ _ q hd|false=>exact h
  ·have e1:(if S k then s.app o.dst e else s).H q=s.H q:=by cases S k with|true=>exact cA e.us _ q hd|false=>rfl
   have e2:(if S' k then s'.app o.dst e else s').H q=s'.H q:=by cases S' k with|true=>exact cA e.us _ q hd|false=>rfl
   rw[e1,e2,h]
theorem GC:∀(l:List Oper) (es:List (Bool×Eff)) (s:FS) (S:Nat->Bool) (k n:Nat),(sel s l es S k).U n->s.U n\/∃j o' b' e',S (k+j)=true/\l[j]?=some o'/\es[j]?=some (b',e')/\e'.new=some n
 | [],_,_,_,_,_,h=> .inl (by simpa [sel]using h)
 | _::_,[],_,_,_,_,h=> .inl (by simpa [sel]using h)
 | o::l,(b,e)::es,s,S,k,n,h=>by
  rw[sel]at h;rcases GC l es _ S (k+1) n h with h'|⟨j,o',b',e',h1,h2,h3,h4⟩
  ·cases hk:S k with
   | true=>
    rw[hk]at h';rcases h' with h'|h'
    ·exact .inl h'
    ·exact .inr ⟨0,o,b,e,by simpa using hk,s_,s_,h'⟩
   | false=>rw[hk]at h';exact .inl h'
  ·exact .inr ⟨j+1,o',b',e',by rw[show k+(j+1)=k+1+j by omega];exact h1,by simpa using h2,by simpa using h3,h4⟩
theorem memN_iff {t:Nat}{l:List Nat}:Kj t l=true↔t∈l:=by simp[Kj]
theorem Ep {ms:List Nat}:∀(js:List Nat) (m i:Nat),(yP ms js m).testBit i=true->m.testBit i=true\/∃j∈js,i=j\/(ms.getD j 0).testBit i=true
 | [],m,i,h=> .inl h
 | j::js,m,i,h=>by
  rw[yP]at h;rcases Ep js _ i h with h|⟨k,h1,h2⟩
  ·have h:((m ||| 2^j) ||| ms.getD j 0).testBit i=true:=h;rw[Nat.testBit_or,Nat.testBit_or,w5,w5]at h;rcases h with(h|h)|h
   ·exact .inl h
   ·rw[Nat.testBit_two_pow]at h;exact .inr ⟨j,s_,.inl (by simpa using(f0 h).symm)⟩
   ·exact .inr ⟨j,s_,.inr h⟩
  ·exact .inr ⟨k,by simp[h1],h2⟩
theorem vD:∀(l pre:List Oper) (ms:List Nat),pre++l=ops->ms.length=pre.length->(∀j i,(ms.getD j 0).testBit i=true->∃f,i∈anc ops f j)->∀j i,((EF ms l).getD j 0).testBit i=true->∃f,i∈anc ops f j
 | [],_,ms,_,_,h,j,i,hb=>h j i hb
 | o::l,pre,ms,he,hl,h,j,i,hb=>by
  refine vD l (pre++[o]) (ms++[yP ms (cJ o) 0]) (by simpa using he) (by simp[hl]) (fun j i hb=>?_) j i hb;rcases B1 j ms.length with hj|hj|hj
  ·refine h j i ?_
   have e:(ms++[yP ms (cJ o) 0]).getD j 0=ms.getD j 0:=by simp only[List.getD_eq_getElem?_getD];rw[j7 hj]
   rwa [e]at hb
  ·subst hj;have e:(ms++[yP ms (cJ o) 0]).getD ms.length 0=yP ms (cJ o) 0:=s_;rw[e]at hb;have ho:ops[ms.length]?=some o:=(by rw[<-he,hl];simp);rcases Ep _ _ _ hb with h1|⟨k,h1,h2⟩
   ·simp at h1
   ·rcases h2 with rfl|h2
    ·exact⟨1,by simp only[anc,ho];exact u0.2 ⟨_,h1,s_⟩⟩
    ·obtain⟨f,hf⟩:=h k i h2;exact⟨f+1,by simp only[anc,ho];exact u0.2 ⟨k,h1,z9 _ hf⟩⟩
  ·have e:(ms++[yP ms (cJ o) 0]).getD j 0=0:=by simp only[List.getD_eq_getElem?_getD];rw[e9 aab];rfl
   rw[e]at hb;simp at hb
section
variable {m:Nat->Nat}
theorem pK:∀(l:List Oper) (log:Log) (k:Nat),oG ops m k l log=true->∀i o,l[i]?=some o->∀j∈cJ o,j<k+i
 | [],_,_,_,i,o,h=>by simp at h
 | o0::l,[],k,h,_,_,_=>by simp[oG]at h
 | o0::l,r::log,k,h,i,o,ho=>by
  simp only[oG,b9,o8]at h
  cases i with
  | zero=>simp at ho;subst ho;intro j hj;simpa using h.1.1 j hj
  | succ i=>intro j hj;have:=pK l log (k+1) h.2 i o aaw j hj;omega
theorem sq:∀(l:List Oper) (log:Log) (i:Nat) (o:Oper) (r:List Id×List Id) (k:Nat),tX ops m i o r k l log=true->∀j o' r',l[j]?=some o'->log[j]?=some r'->eT ops o o' r r'=false\/(m (k+j)).testBit i=true
 | [],_,_,_,_,_,_,j,o',r',h,_=>by simp at h
 | _::_,[],_,_,_,_,_,j,o',r',_,h=>by simp at h
 | o0::l,r0::log,i,o,r,k,h,j,o',r',ho,hr=>by
  simp only[tX,b9,w5,u9]at h
  cases j with
  | zero=>
   simp at ho hr;subst ho;subst hr
   exact h.1
  | succ j=>have:=sq l log i o r (k+1) h.2 j o' r' aaw aaK;rwa [show k+1+j=k+(j+1) by omega]at this
theorem pT:∀(l:List Oper) (log:Log) (k:Nat),oG ops m k l log=true->∀i j o o' r r',i<j->l[i]?=some o->l[j]?=some o'->log[i]?=some r->log[j]?=some r'->eT ops o o' r r'=false\/(m (k+j)).testBit (k+i)=true
 | [],_,_,_,i,j,o,o',r,r',_,h,_,_,_=>by simp at h
 | _::_,[],_,_,i,j,o,o',r,r',_,_,_,h,_=>by simp at h
 | o0::l,r0::log,k,h,i,j,o,o',r,r',OD,h1,h2,h3,h4=>by
  simp only[oG,b9]at h;obtain⟨j,rfl⟩:∃j',j=j'+1:=⟨j-1,o_⟩
  cases i with
  | zero=>
   simp at h1 h3;subst h1;subst h3;have:=sq l log k o0 r0 (k+1) h.1.2 j o' r' aaf aaB
   rwa [show k+1+j=k+(j+1) by omega]at this
  | succ i=>have:=pT l log (k+1) h.2 i j o o' r r' o_ aai aaf aaA aaB;rwa [show k+1+i=k+(i+1) by omega,show k+1+j=k+(j+1) by omega]at this
end
theorem AE {log:Log}(h:sK ops log=true):∀i o,ops[i]?=some o->∀j∈cJ o,j<i:=fun i o ho j hj=>by
 have:=pK ops log 0 h i o ho j hj;omega
theorem sE {log:Log}(h:sK ops log=true)(i j:Nat)(o o':Oper)(r r':List Id×List Id)(OD:i<j)(h1:ops[i]?=some o)(h2:ops[j]?=some o')(h3:log[i]?=some r)(h4:log[j]?=some r'):eT ops o o' r r'=false\/∃f,i∈anc ops f j:=by
 rcases pT ops log 0 h i j o o' r r' OD h1 h2 h3 h4 with h|h
 ·exact .inl h
 ·simp only[u5]at h;exact .inr (vD ops [] [] rfl rfl (fun j i hb=>by simp at hb) j i h)
theorem ly {S:Nat->Bool}(hS:∀i o,ops[i]?=some o->S i=true->∀j∈cJ o,S j=true):∀(f i:Nat),S i=true->∀j∈anc ops f i,S j=true
 | 0,_,_,j,hj=>by simp[anc]at hj
 | f+1,i,hi,j,hj=>by
  simp only[anc]at hj;split at hj
  ·rename_i o ho;obtain⟨k,hk,hj⟩:=u0.1 hj;have Xs:=hS i o ho hi k hk;rcases d6.1 hj with rfl|hj
   ·exact Xs
   ·exact ly hS f k Xs j hj
  ·simp at hj
theorem ym {S:Nat->Bool}(hS:∀i o,ops[i]?=some o->S i=true->∀j∈cJ o,S j=true){i:Nat}{o:Oper}(ho:ops[i]?=some o)(hr:∀j∈cJ o,S j=true)(f:Nat):∀j∈anc ops f i,S j=true:=by
 intro j hj
 cases f with
 | zero=>simp[anc]at hj
 | succ f=>
  simp only[anc,ho]at hj;obtain⟨k,hk,hj⟩:=u0.1 hj;rcases d6.1 hj with rfl|hj
  ·exact hr j hk
  ·exact ly hS f k (hr k hk) j hj
theorem qn:∀(l:List Oper) (es:List (Bool×Eff)) (s:FS) (k:Nat),fY P N ops s l es->∀i o b e,l[i]?=some o->es[i]?=some (b,e)->StepOK P N ops (sel s l es (fun n=>decide (n<k+i)) k) o b e
 | [],_,_,_,_,i,o,b,e,h,_=>by simp at h
 | _::_,[],_,_,h,_,_,_,_,_,_=>h.elim
 | o0::l,(b0,e0)::es,s,k,h,i,o,b,e,ho,he=>by
  cases i with
  | zero=>
   simp only[e8,Option.some.injEq,Prod.mk.injEq]at ho he;obtain⟨rfl,rfl⟩:=he;subst ho;rw[mJ _ _ _ _ _ fun i h1 _=>by simp;omega]
   exact h.1
  | succ i=>have:=qn l es _ (k+1) h.2 i o b e aaw (by simpa using he);rw[sel];have hd:decide (k<k+(i+1))=true:=s_;simp only[hd,if_true];rw[show k+(i+1)=k+1+i by omega];exact this
theorem nH:∀(l:List Oper) (es:List (Bool×Eff)) (s:FS) (T:Nat->Bool) (k d:Nat),s.U d->(sel s l es T k).U d
 | [],_,_,_,_,_,h=>by simpa [sel]using h
 | _::_,[],_,_,_,_,h=>by simpa [sel]using h
 | o::l,(b,e)::es,s,T,k,d,h=>by
  rw[sel];refine nH l es _ T (k+1) d ?_
  cases T k with|true=>exact .inl h|false=>exact h
theorem DJ:∀(l:List Oper) (es:List (Bool×Eff)) (s:FS) (T:Nat->Bool) (k j d:Nat) (o':Oper) (b':Bool) (e':Eff),T (k+j)=true->l[j]?=some o'->es[j]?=some (b',e')->e'.new=some d->(sel s l es T k).U d
 | [],_,_,_,_,j,_,_,_,_,_,h,_,_=>by simp at h
 | _::_,[],_,_,_,j,_,_,_,_,_,_,h,_=>by simp at h
 | o::l,(b,e)::es,s,T,k,0,d,o',b',e',hT,hl,QT,hn=>by
  simp only[e8,Option.some.injEq,Prod.mk.injEq,z4]at hl QT hT;obtain⟨rfl,rfl⟩:=QT;rw[sel,hT]
  exact nH l es _ T (k+1) d (.inr hn)
 | o::l,(b,e)::es,s,T,k,j+1,d,o',b',e',hT,hl,QT,hn=>by
  rw[sel];exact DJ l es _ T (k+1) j d o' b' e' (by rw[show k+1+j=k+(j+1) by omega];exact hT) aaJ (by simpa using QT) hn
theorem nK {s:FS}{es:List (Bool×Eff)}(NG:fY P N ops s ops es){i j n:Nat}{o o':Oper}{b b':Bool}{e e':Eff}(OD:i<j)(h1:ops[i]?=some o)(h2:ops[j]?=some o')(h3:es[i]?=some (b,e))(h4:es[j]?=some (b',e'))(h5:e.new=some n)(h6:e'.new=some n):False:=by
 have hs:=qn ops es s 0 NG j o' b' e' h2 h4
 cases b' with
 | true=>exact(hs.yes rfl).2 n h6 (DJ ops es s _ 0 i n o b e (by simpa using OD) h1 h3 h5)
 | false=>rw[hs.no rfl]at h6;cases h6
theorem Good.mono {o:Oper}{ev XB:Operand->AV}{H H':Id->Option AO}{e:Eff}(h:Good P o ev H e)(h1:∀x∈o.op.operands.toList,XB x=ev x)(h2:∀id∈e.R,H' id=H id):Good P o XB H' e:=
 fun N B M w0 ρ s a w Q K hc Mw hR hn hd hK=>h N B M w0 ρ s a w Q K hc (fun x hx=>(Mw x hx).trans (h1 x hx)) (fun id MC=>(hR id MC).trans (h2 id MC)) hn hd hK
theorem si {L L':Nat->AV}{o:Oper}(h:∀t,t∈eY ops o->L' t=L t):∀x∈o.op.operands.toList,evL L' x=evL L x:=by
 intro x hx
 cases x with|tmp t=>exact h t (by simp only[eY,d9,List.mem_filterMap];exact .inl ⟨.tmp t,hx,rfl⟩)|const=>rfl|global=>rfl|func=>rfl
theorem V9{p:Prop}(h:p:=by
 intro listed Nu hr i
 induction i using Nat.strongRecOn with
 | _ i ih=>
  intro hi
  cases hl:listed.getD i true with
  | true=>rfl
  | false=>
   have hm:i∈Region.ready .any ops.toArray listed:=by
    simp only[Region.ready,A7,F4,B0,hi,true_and,hl,F2,m9];have ho:ops.toArray[i]?=some ops[i]:=(by simp[hi]);rw[ho];simp only[x7,B5,Array.all_eq_true'];intro e he
    cases hb:Region.binds .any e with
    | false=>rfl
    | true=>have hj:e.on∈cJ ops[i]:=n7.2 ⟨e,A7.2 ⟨by simpa using he,hb⟩,rfl⟩;have My:=Qv i ops[i] (i7 hi) e.on hj;have:=ih e.on o_ o_;have hs:e.on<listed.size:=o_;simp only[r7,w7 hs,B5]at this⊢;simp[this]
   rw[hr]at hm
   cases hm):p:=h
theorem V101{p:Prop}(h:p:=by
 intro listed ρ a w Nu hc hr;rw[zh ops es s _ 0 fun i _ hi=>Oc listed Nu hr i o_]at hc
 exact hQ ρ a w hc):p:=h
theorem V11{p:Prop}(h:p:=by
 intro listed ρ a w Nu OW NA hc
 have Tz:∀i,i<ops.length->listed.getD i true=true:=by
  have MY:((List.range ops.length).filter fun i=>listed.getD i true).length≥(List.range ops.length).length:=by simpa using OW
  have PK:=List.length_filter_eq_length_iff.1 (Nat.le_antisymm (F8 _ _) MY);intro i hi;exact PK i (F4.2 hi)
 have hr:Region.ready .any ops.toArray listed=[]:=by rw[Region.ready,List.filter_eq_nil_iff];intro i hi;have:=Tz i (by simpa using hi);simp[this]
 exact⟨hr,Nf listed ρ a w Nu hc hr⟩):p:=h
theorem V10{p:Prop}(h:p:=by
 simp only[Region.ready,A7,F4,B0,b9,u9]at hi;obtain⟨h1,h2,h3⟩:=hi;have ho:ops[i]?=some ops[i]:=i7 h1;refine⟨h2,ops[i],ho,fun j hj=>?_⟩;have MV:ops.toArray[i]?=some ops[i]:=by simp[h1]
 rw[MV]at h3;simp only[x7,B5,Array.all_eq_true']at h3;obtain⟨e,he,rfl⟩:=n7.1 hj;obtain⟨Xy,Oy⟩:=A7.1 he;have h4:=h3 e (by simpa using Xy);simp only[Oy,Bool.not_true,C7]at h4;have My:=Qv i ops[i] ho e.on hj;have hs:e.on<listed.size:=o_;simp only[r7,w7 hs,B5]at h4⊢
 exact h4):p:=h
theorem V103{p:Prop}(h:p:=by
 rw[Mv];rcases m7 j ops.length with h'|h'
 ·exact h'
 ·rw[e9 h']at h1;cases h1):p:=h
theorem V60{p:Prop}(h:p:=by
 intro n;simp only[r7,Array.getElem?_setIfInBounds,S];by_cases hn:i=n
 ·subst hn;have:i<listed.size:=o_;simp[this]
 ·rw[b8 hn,b8 (fun e=>hn e.symm)]):p:=h
theorem V6{p:Prop}(h:p:=by
 have key:∀(l:List Nat),l.Nodup->i∈l->(l.filter fun n=>if n=i then true else S n).length=(l.filter fun n=>S n).length+1:=by
  intro l
  induction l with
  | nil=>intro _ h;cases h
  | cons x l ih=>
   intro OQ hm;have Uy:=F0.1 OQ;by_cases hx:x=i
   ·subst hx
    have e1:(l.filter fun n=>if n=x then true else S n)=l.filter fun n=>S n:=by apply List.filter_congr;intro n hn;have:n≠x:=fun e=>Uy.1 (e▸hn);simp[this]
    simp only[B6,if_true,Rg,A2,if_false,d5];rw[e1]
   ·have:=ih Uy.2 (by
               rcases d6.1 hm with h|h;· exact absurd h.symm hx
               ·exact h)
    simp only[B6,b8 hx]
    cases S x
    ·simp only[A2,if_false];exact this
    ·simp only[if_true,d5];rw[this]
 have h1:((List.range ops.length).filter fun n=>(listed.setIfInBounds i true).getD n true)=(List.range ops.length).filter fun n=>if n=i then true else S n:=List.filter_congr fun n _=>OB n
 rw[h1,key _ List.nodup_range (F4.2 Nz)];have e:((List.range ops.length).filter fun n=>S n).length=((List.range ops.length).filter fun i=>listed.getD i true).length:=rfl
 omega):p:=h
theorem V41{p:Prop}(h:p:=by
 intro k o1 hk Ph j hj;rw[OB]at Ph⊢;by_cases NP:j=i
 ·rw[c7 NP]
 ·rw[b8 NP];by_cases R9:k=i
  ·subst R9;rw[ho]at hk;injection hk with hk;subst hk;exact Ol j hj
  ·rw[b8 R9]at Ph
   exact NA k o1 hk Ph j hj):p:=h
theorem V36{p:Prop}(h:p:=by
 intro v w' ρ' MB;rw[<-MP]at MB;refine ih (listed.setIfInBounds i true) ρ' _ w' (by simpa using Nu) Uc Qo ?_;rw[nu ops es s (fun n=>(listed.setIfInBounds i true).getD n true) (fun n=>if n=i then true else S n) 0 fun n _=>OB n]
 exact MB):p:=h
theorem V25{p:Prop}(h:p:=by
 have hg:=Nq.guard;unfold eI at hg⊢;split at hg
 ·exact hg
 ·rename_i j want Rs;rcases hg with⟨dj,b1,k1,k2,k3⟩|⟨dj,k1,k2,k3⟩
  ·refine .inl ⟨dj,b1,k1,?_,k3⟩;rw[Og dj (by simp only[eY,Rs,d9];right;rw[k1];simp)];exact k2
  ·refine .inr ⟨dj,k1,?_,k3⟩;rw[Og dj (by simp only[eY,Rs,d9];right;rw[k1];simp)]
   exact k2):p:=h
theorem V19{p:Prop}(h:p:=by
 refine .inl (P0 N B M w0 ρ (sel s ops es S 0) a w Q _ hc (fun _ _=>rfl) (fun _ _=>rfl) (fun d hd hU=>?_) Nq.dst next);rcases GC ops es s S 0 d hU with h|⟨j,o',b',e',h1,h2,h3,h4⟩
 ·exact g2 d hd (nH ops es s _ 0 d h)
 ·simp only[u5]at h1;have NP:j≠i:=fun e=>by subst e;rw[Rg]at h1;cases h1
  rcases H4 NP with My|UH
  ·exact nK NG My h2 ho h3 he h4 hd
  ·exact nK NG UH ho h2 he h3 hd h4):p:=h
theorem V69{p:Prop}(h:p:=by
 rw[b8 (by rw[hw];simp)];have SD:=Nq.no rfl;subst SD
 exact next undef w ρ (hc.put Nq.dst (av:= .tup []) ⟨#[],rfl,trivial⟩ aaO [])):p:=h
theorem FW {B:Nat}{M:Nat->Prop}{w0:Start}{Q:Exit->Act->World->Prop}(s:FS)(es:List (Bool×Eff))(Mv:es.length=ops.length)(NG:fY P N ops s ops es)(O1:sK ops (es.map fun p=>(p.2.R,p.2.us.map (·.1)))=true)
  (hQ:∀ρ a w,Conc N B M w0 ρ (gM s ops es) a w->Q .normal a w):
  ∀(fuel:Nat) (listed:Array Bool) (ρ:Rho) (a:Act) (w:World),listed.size=ops.length->(ops.length<=fuel+((List.range ops.length).filter fun i=>listed.getD i true).length)->
   (∀i o,ops[i]?=some o->listed.getD i true=true->∀j∈cJ o,listed.getD j true=true)->
   Conc N B M w0 ρ (sel s ops es (fun i=>listed.getD i true) 0) a w->wpAny P .any ops.toArray Q fuel listed a w:=by
 have Qv:=AE (ops:=ops) O1
 have Oc:∀listed:Array Bool,listed.size=ops.length->Region.ready .any ops.toArray listed=[]->∀i,i<ops.length->listed.getD i true=true:=by exact V9
 have Nf:∀(listed:Array Bool) (ρ:Rho) (a:Act) (w:World),listed.size=ops.length->Conc N B M w0 ρ (sel s ops es (fun i=>listed.getD i true) 0) a w->Region.ready .any ops.toArray listed=[]->Q .normal a w:=by exact V101
 intro fuel
 induction fuel with
 | zero=>exact V11
 | succ fuel ih=>
  intro listed ρ a w Nu OW NA hc;refine⟨Nf listed ρ a w Nu hc,fun i hi=>?_⟩
  obtain⟨Qn,o,ho,Ol⟩:listed.getD i true=false/\∃o,ops[i]?=some o/\∀j∈cJ o,listed.getD j true=true:=by exact V10
  have Nz:i<ops.length:=by
   rcases m7 i ops.length with h'|h'
   ·exact h'
   ·rw[e9 h']at ho;cases ho
  obtain⟨b,e,he⟩:∃b e,es[i]?=some (b,e):=⟨_,_,i7 o_⟩;have Nq:=qn ops es s 0 NG i o b e ho he;simp only[u5]at Nq
  let S:Nat->Bool:=fun i=>listed.getD i true
  have MT:∀j o' b' e',ops[j]?=some o'->es[j]?=some (b',e')->j≠i->(eT ops o o' (e.R,e.us.map (·.1)) (e'.R,e'.us.map (·.1))=true\/eT ops o' o (e'.R,e'.us.map (·.1)) (e.R,e.us.map (·.1))=true)->S j=decide (j<i):=by
   intro j o' b' e' MV Nn ME MT;have g1:(es.map fun p=>(p.2.R,p.2.us.map (·.1)))[i]?=some (e.R,e.us.map (·.1)):=(by simp[he]);have g2:(es.map fun p=>(p.2.R,p.2.us.map (·.1)))[j]?=some (e'.R,e'.us.map (·.1)):=by simp[Nn]
   have Ue:∀(a b:Oper) (ra rb:List Id×List Id),eT ops a b ra rb=true->eT ops b a rb ra=true:=by
    intro a b ra rb h;simp only[eT,w5,y7]at h⊢;rcases h with(((h|h)|h)|⟨k,h1,h2|h2⟩)|⟨k,h1,h2⟩
    ·exact .inl (.inl (.inl (.inr h)))
    ·exact .inl (.inl (.inl (.inl h)))
    ·refine .inl (.inl (.inr ?_));unfold lc at h⊢;split at h
     ·rename_i d d' e1 e2;rw[e1,e2];simp at h⊢;exact h.symm
     ·cases h
    ·exact .inr ⟨k,h1,h2⟩
    ·exact .inl (.inr ⟨k,memI_iff.1 h2,.inr (memI_iff.2 h1)⟩)
    ·exact .inl (.inr ⟨k,h1,.inl h2⟩)
   rcases H4 ME with My|UH
   ·have hd:decide (j<i)=true:=(by simpa using My);rw[hd];have N5:eT ops o' o (e'.R,e'.us.map (·.1)) (e.R,e.us.map (·.1))=true:=MT.elim (Ue _ _ _ _) id;rcases sE O1 j i o' o _ _ My MV ho g2 g1 with h|⟨f,h⟩
    ·rw[N5]at h;cases h
    ·exact ym NA ho Ol _ j h
   ·have hd:decide (j<i)=false:=(by simp;omega);rw[hd];have N5:eT ops o o' (e.R,e.us.map (·.1)) (e'.R,e'.us.map (·.1))=true:=MT.elim id (Ue _ _ _ _);rcases sE O1 i j o o' _ _ UH ho MV g1 g2 with h|⟨f,h⟩
    ·rw[N5]at h;cases h
    ·cases hj:S j with
     | false=>rfl
     | true=>
      have:=ly NA _ j hj i h;rw[Qn]at this
      cases this
  have Rg:S i=false:=Qn
  have Og:∀t,t∈eY ops o->(sel s ops es S 0).L t=(sel s ops es (fun n=>decide (n<i)) 0).L t:=by
   intro t ht;refine GH ops es s s S _ 0 t rfl fun j o' h1 h2=>?_;simp only[u5];by_cases NP:j=i
   ·subst NP;rw[Rg];simp
   ·have NM:j<es.length:=by exact V103
    refine MT j o' _ _ h1 (i7 NM) NP (.inl ?_);simp only[eT,w5];refine .inl (.inl (.inl (.inr ?_)));simp only[vZ,h2];exact memN_iff.2 ht
  have TP:∀q∈e.R,(sel s ops es S 0).H q=(sel s ops es (fun n=>decide (n<i)) 0).H q:=by
   intro q hq;refine DV ops es s s S _ 0 q rfl fun j o' b' e' h1 h2 h3=>?_;simp only[u5];by_cases NP:j=i
   ·subst NP;rw[Rg];simp
   ·refine MT j o' b' e' h1 h2 NP (.inl ?_);simp only[eT,w5,y7];exact .inr ⟨q,h3,memI_iff.2 hq⟩
  have QH:∀j o' b' e',i<j->S (0+j)=true->ops[j]?=some o'->es[j]?=some (b',e')->Apart o.dst o'.dst e e':=by
   intro j o' b' e' OD SO h1 h2;simp only[u5]at SO
   have Q0:eT ops o o' (e.R,e.us.map (·.1)) (e'.R,e'.us.map (·.1))=false:=by
    cases MB:eT ops o o' (e.R,e.us.map (·.1)) (e'.R,e'.us.map (·.1))with
    | false=>rfl
    | true=>have:=MT j o' b' e' h1 h2 o_ (.inl MB);rw[SO]at this;simp at this;omega
   simp only[eT,v9,F5,w5,not_or]at Q0;obtain⟨⟨⟨_,h5⟩,h6⟩,h7⟩:=Q0;refine⟨fun t ht VS=>?_,fun q hq MG=>?_⟩
   ·simp[lc,ht,VS]at h5
   ·exact(h6 q hq).2 (memI_iff.2 MG)
  have MP:(sel s ops es (fun n=>if n=i then true else S n) 0)=(sel s ops es S 0).app o.dst e:=by have:=za ops es s S 0 i o b e ho he (by simpa using Rg) QH;simpa using this
  have OB:∀n,(listed.setIfInBounds i true).getD n true=(if n=i then true else S n):=by exact V60
  have Uc:ops.length<=fuel+((List.range ops.length).filter fun n=>(listed.setIfInBounds i true).getD n true).length:=by exact V6
  have Qo:∀k o1,ops[k]?=some o1->(listed.setIfInBounds i true).getD k true=true->∀j∈cJ o1,(listed.setIfInBounds i true).getD j true=true:=by exact V41
  have next:∀(v:Value) (w':World) (ρ':Rho),Conc N B M w0 ρ' ((sel s ops es S 0).app o.dst e) (a.put o.dst v) w'->wpAny P .any ops.toArray Q fuel (listed.setIfInBounds i true) (a.put o.dst v) w':=by exact V36
  have QQ:eI ops (sel s ops es S 0) o b:=by exact V25
  have hw:=qP (ops:=ops) hc QQ;unfold wpOp;have MV:ops.toArray[i]?=some o:=by simpa using ho
  rw[MV];show if Region.wanted o (yielded ops.toArray a.tmps)=true then _ else _
  cases b with
  | true=>
   rw[c7 hw];obtain⟨g1,g2⟩:=Nq.yes rfl;have P0:=g1.mono (si Og) TP
   exact V19
  | false=>exact V69
end
def lI (ops:List Oper)(a b:Oper)(ra rb:List Id×List Id):Bool:=
 vZ a (eY ops b)||vZ b (eY ops a)||lc a b||ra.2.any (fun k=>ku k rb.1||ku k rb.2)
def clX (ops:List Oper)(xi xj i j:Nat)(a b:Oper)(ra rb:List Id×List Id):Bool:=
 bif Nat.beq i xi&&Nat.beq j xj then lI ops a b ra rb else bif Nat.beq j xi&&Nat.beq i xj then lI ops b a rb ra else eT ops a b ra rb||eT ops b a rb ra
def qC (ops:List Oper)(xi xj:Nat)(m:Nat->Nat)(i:Nat)(o:Oper)(r:List Id×List Id):Nat->List Oper->Log->Bool
 | j,o'::l,r'::log=>(!clX ops xi xj i j o o' r r'||Nat.testBit (m j) i)&&qC ops xi xj m i o r (j+1) l log
 | _,_,_=>true
def kZ (ops:List Oper)(xi xj:Nat)(m:Nat->Nat):Nat->List Oper->Log->Bool
 | i,o::l,r::log=>(cJ o).all (fun j=>Nat.blt j i)&&qC ops xi xj m i o r (i+1) l log&&kZ ops xi xj m (i+1) l log
 | _,[],[]=>true
 | _,_,_=>false
def lf (ops:List Oper)(xi xj:Nat)(log:Log):Bool:=Nat.blt xi xj&&kZ ops xi xj (fun j=>(EF [] ops).getD j 0) 0 ops log
def w1T (P:Program)(Γ:Env)(N:Nat)(o:Oper)(st:St)(K:St->Eff->Prop):Prop:=
 match o.dst with
 | some d=>(match Nat.blt d N with
   | true=>sem P Γ d o (evL (di st.fr)) (cj st.h) fun e=>
    (
     match e.new with
     | some n=>(match used st.u n with
      | false=>st.put (some d) e fun Mx _=>K Mx e
      | true=>False)
     | none=>st.put (some d) e fun Mx _=>K Mx e)
   | false=>False)
 | none=>sem P Γ (100000+st.u.length) o (evL (di st.fr)) (cj st.h) fun e=>
   (
   match e.new with
   | some n=>(match used st.u n with
     | false=>st.put none e fun Mx _=>K Mx e
     | true=>False)
   | none=>st.put none e fun Mx _=>K Mx e)
abbrev EP (P:Program)(Γ:Env)(N:Nat):List Oper->St->List (St×Eff)->(St->List (St×Eff)->Prop)->Prop
 | [],st,tr,K=>K st tr
 | o::rest,st,tr,K=>
  match o.guard with
  | none=>w1T P Γ N o st fun Mx e=>EP P Γ N rest Mx ((st,e)::tr) K
  | some _=>False
def IQ:List (St×Eff)->Log
 | []=>[]
 | p::l=>(p.2.R,p.2.us.map (·.1))::IQ l
def Iv (P:Program)(Γ:Env)(ops:List Oper)(xi xj:Nat)(tr:List (St×Eff)):Prop:=
 match ops[xi]?,tr[xi]?,tr[xj]? with
 | some o,some (sti,ei),some (_,ej)=>sem P Γ (bD o sti.u) o (evL (di sti.fr)) (cj (sV ej.us sti.h)) fun e=>e=ei
 | _,_,_=>False
def JO (P:Program)(Γ:Env)(N:Nat)(ops:List Oper)(xi xj:Nat)(st:St)(K:St->Prop):Prop:=
 EP P Γ N ops st [] fun Mx tr=>lf ops xi xj (IQ tr.reverse)=true/\Iv P Γ ops xi xj tr.reverse/\K Mx
section
variable {P:Program} {Γ:Env} {N:Nat} {ops:List Oper} {m:Nat->Nat} {xi xj:Nat}
theorem gW (ops:List Oper)(xi xj i j:Nat)(a b:Oper)(ra rb:List Id×List Id):
  (i=xi/\j=xj/\clX ops xi xj i j a b ra rb=lI ops a b ra rb)\/(j=xi/\i=xj/\(i≠xi\/j≠xj)/\clX ops xi xj i j a b ra rb=lI ops b a rb ra)\/
  (¬(i=xi/\j=xj)/\¬(j=xi/\i=xj)/\clX ops xi xj i j a b ra rb=(eT ops a b ra rb||eT ops b a rb ra)):=by
 have hb:∀p q p' q':Nat,(Nat.beq p q&&Nat.beq p' q')=true↔p=q/\p'=q':=fun p q p' q'=>by
  rw[b9];exact⟨fun h=>⟨r9 h.1,r9 h.2⟩,fun h=>by obtain⟨rfl,rfl⟩:=h;simp⟩
 unfold clX
 cases h1:(Nat.beq i xi&&Nat.beq j xj)with
 | true=>exact .inl ⟨((hb _ _ _ _).1 h1).1,((hb _ _ _ _).1 h1).2,rfl⟩
 | false=>
  have n1:¬(i=xi/\j=xj):=fun h=>by rw[(hb _ _ _ _).2 h]at h1;cases h1
  cases h2:(Nat.beq j xi&&Nat.beq i xj)with
  | true=>
   refine .inr (.inl ⟨((hb _ _ _ _).1 h2).1,((hb _ _ _ _).1 h2).2,?_,rfl⟩);by_cases e:i=xi
   ·exact .inr fun e2=>n1 ⟨e,e2⟩
   ·exact .inl e
  | false=>exact .inr (.inr ⟨n1,(fun h=>by rw[(hb _ _ _ _).2 h]at h2;cases h2),rfl⟩)
theorem GZ {i j:Nat}{a b:Oper}{ra rb:List Id×List Id}(hx:xi<xj)(h:clX ops xi xj i j a b ra rb=true):clX ops xi xj j i b a rb ra=true:=by
 rcases gW ops xi xj i j a b ra rb with⟨e1,e2,e⟩|⟨e1,e2,_,e⟩|⟨n1,n2,e⟩<;>rw[e]at h
 ·rcases gW ops xi xj j i b a rb ra with⟨g1,g2,g⟩|⟨g1,g2,_,g⟩|⟨g1,g2,g⟩<;>rw[g]
  ·omega
  ·exact h
  ·exact absurd ⟨e1,e2⟩ g2
 ·rcases gW ops xi xj j i b a rb ra with⟨g1,g2,g⟩|⟨g1,g2,_,g⟩|⟨g1,g2,g⟩<;>rw[g]
  ·exact h
  ·omega
  ·exact absurd ⟨e1,e2⟩ g1
 ·rcases gW ops xi xj j i b a rb ra with⟨g1,g2,g⟩|⟨g1,g2,_,g⟩|⟨g1,g2,g⟩<;>rw[g]
  ·exact absurd ⟨g1,g2⟩ n2
  ·exact absurd ⟨g1,g2⟩ n1
  ·rw[Bool.or_comm];exact h
theorem Gp {i j:Nat}{o o':Oper}{r r':List Id×List Id}(h:vZ o' (eY ops o)=true):clX ops xi xj i j o o' r r'=true:=by rcases gW ops xi xj i j o o' r r' with⟨e1,e2,e⟩|⟨e1,e2,_,e⟩|⟨n1,n2,e⟩<;>rw[e]<;>simp[lI,eT,h]
theorem xT {i j:Nat}{o o':Oper}{r r':List Id×List Id}(hx:¬(i=xi/\j=xj))(h:r'.2.any (fun k=>ku k r.1)=true):clX ops xi xj i j o o' r r'=true:=by
 have h2:r'.2.any (fun k=>ku k r.1||ku k r.2)=true:=by rw[y7]at h⊢;obtain⟨q,h1,h2⟩:=h;exact⟨q,h1,by rw[h2];rfl⟩
 rcases gW ops xi xj i j o o' r r' with⟨e1,e2,e⟩|⟨e1,e2,_,e⟩|⟨n1,n2,e⟩<;>rw[e]
 ·exact absurd ⟨e1,e2⟩ hx
 ·simp only[lI,h2,Bool.or_true]
 ·simp only[eT,h,Bool.or_true,Bool.true_or]
theorem Gf {i j:Nat}{o o':Oper}{r r':List Id×List Id}(hx:xi<xj)(OD:i<j)(h:clX ops xi xj i j o o' r r'=false):lc o o'=false/\∀q∈r.2,¬ku q r'.2=true:=by
 have key:lI ops o o' r r'=false->lc o o'=false/\∀q∈r.2,¬ku q r'.2=true:=by intro h;simp only[lI,v9,F5,w5,not_or]at h;exact⟨h.1.2,fun q hq=>(h.2 q hq).2⟩
 rcases gW ops xi xj i j o o' r r' with⟨e1,e2,e⟩|⟨e1,e2,_,e⟩|⟨n1,n2,e⟩<;>rw[e]at h
 ·exact key h
 ·omega
 ·simp only[v9]at h;refine key ?_;have:=h.1;simp only[eT,v9]at this;simp only[lI,v9];exact this.1
theorem ob:∀(l:List Oper) (log:Log) (k:Nat),kZ ops xi xj m k l log=true->∀i o,l[i]?=some o->∀j∈cJ o,j<k+i
 | [],_,_,_,i,o,h=>by simp at h
 | o0::l,[],k,h,_,_,_=>by simp[kZ]at h
 | o0::l,r::log,k,h,i,o,ho=>by
  simp only[kZ,b9,o8]at h
  cases i with
  | zero=>simp at ho;subst ho;intro j hj;simpa using h.1.1 j hj
  | succ i=>intro j hj;have:=ob l log (k+1) h.2 i o aaw j hj;omega
theorem pU:∀(l:List Oper) (log:Log) (i:Nat) (o:Oper) (r:List Id×List Id) (k:Nat),qC ops xi xj m i o r k l log=true->∀j o' r',l[j]?=some o'->log[j]?=some r'->clX ops xi xj i (k+j) o o' r r'=false\/(m (k+j)).testBit i=true
 | [],_,_,_,_,_,_,j,o',r',h,_=>by simp at h
 | _::_,[],_,_,_,_,_,j,o',r',_,h=>by simp at h
 | o0::l,r0::log,i,o,r,k,h,j,o',r',ho,hr=>by
  simp only[qC,b9,w5,u9]at h
  cases j with
  | zero=>
   simp at ho hr;subst ho;subst hr
   exact h.1
  | succ j=>have:=pU l log i o r (k+1) h.2 j o' r' aaw aaK;rwa [show k+1+j=k+(j+1) by omega]at this
theorem oc:∀(l:List Oper) (log:Log) (k:Nat),kZ ops xi xj m k l log=true->∀i j o o' r r',i<j->l[i]?=some o->l[j]?=some o'->log[i]?=some r->log[j]?=some r'->clX ops xi xj (k+i) (k+j) o o' r r'=false\/(m (k+j)).testBit (k+i)=true
 | [],_,_,_,i,j,o,o',r,r',_,h,_,_,_=>by simp at h
 | _::_,[],_,_,i,j,o,o',r,r',_,_,_,h,_=>by simp at h
 | o0::l,r0::log,k,h,i,j,o,o',r,r',OD,h1,h2,h3,h4=>by
  simp only[kZ,b9]at h;obtain⟨j,rfl⟩:∃j',j=j'+1:=⟨j-1,o_⟩
  cases i with
  | zero=>
   simp at h1 h3;subst h1;subst h3;have:=pU l log k o0 r0 (k+1) h.1.2 j o' r' aaf aaB
   rwa [show k+1+j=k+(j+1) by omega]at this
  | succ i=>have:=oc l log (k+1) h.2 i j o o' r r' o_ aai aaf aaA aaB;rwa [show k+1+i=k+(i+1) by omega,show k+1+j=k+(j+1) by omega]at this
theorem zy {log:Log}(h:lf ops xi xj log=true):∀i o,ops[i]?=some o->∀j∈cJ o,j<i:=fun i o ho j hj=>by
 have:=ob ops log 0 (by unfold lf at h;rw[b9]at h;exact h.2) i o ho j hj;omega
theorem pE {log:Log}(h:lf ops xi xj log=true)(i j:Nat)(o o':Oper)(r r':List Id×List Id)(OD:i<j)(h1:ops[i]?=some o)(h2:ops[j]?=some o')(h3:log[i]?=some r)(h4:log[j]?=some r'):clX ops xi xj i j o o' r r'=false\/∃f,i∈anc ops f j:=by
 rcases oc ops log 0 (by unfold lf at h;rw[b9]at h;exact h.2) i j o o' r r' OD h1 h2 h3 h4 with h|h
 ·simp only[u5]at h;exact .inl h
 ·simp only[u5]at h;exact .inr (vD ops [] [] rfl rfl (fun j i hb=>by simp at hb) j i h)
theorem Aj:∀(l:List Oper) (es:List (Bool×Eff)) (s:FS) (S:Nat->Bool) (k j:Nat) (o:Oper) (b:Bool) (e:Eff) (q:Id),l[j]?=some o->es[j]?=some (b,e)->S (k+j)=true->q∈e.us.map (·.1)->
  (∀j' o' b' e',j<j'->l[j']?=some o'->es[j']?=some (b',e')->q∈e'.us.map (·.1)->S (k+j')=false)->∀H:Id->Option AO,(sel s l es S k).H q=bP H e.us q
 | [],_,_,_,_,j,_,_,_,_,h,_,_,_,_=>by simp at h
 | _::_,[],_,_,_,j,_,_,_,_,_,h,_,_,_=>by simp at h
 | o0::l,(b0,e0)::es,s,S,k,0,o,b,e,q,ho,he,hS,hq,MQ=>by
  intro H;simp only[e8,Option.some.injEq,Prod.mk.injEq,z4]at ho he hS;obtain⟨rfl,rfl⟩:=he;subst ho;rw[sel,c7 hS]
  have h1:=DV l es (s.app o0.dst e0) (s.app o0.dst e0) S (fun _=>false) (k+1) q rfl fun j o' b' e' h1 h2 h3=>by
   have:=MQ (j+1) o' b' e' o_ aai aaf h3;rwa [show k+(j+1)=k+1+j by omega]at this
  rw[h1,mJ l es _ _ _ fun _ _ _=>rfl]
  exact mi e0.us _ _ q hq
 | o0::l,(b0,e0)::es,s,S,k,j+1,o,b,e,q,ho,he,hS,hq,MQ=>by
  intro H;rw[sel];refine Aj l es _ S (k+1) j o b e q aaw (by simpa using he) (by rw[show k+1+j=k+(j+1) by omega];exact hS) hq (fun j' o' b' e' h0 h1 h2 h3=>?_) H;have:=MQ (j'+1) o' b' e' o_ aai aaf h3;rwa [show k+(j'+1)=k+1+j' by omega]at this
theorem KH {o:Oper}{st:St}{K:St->Eff->Prop}(hΓ:Γ.chk P=true)(h:w1T P Γ N o st K):
  ∃e,K (st.app o.dst e) e/\(∀d,o.dst=some d->d<N)/\Good P o (evL st.fs.L) st.fs.H e/\(∀n,e.new=some n->¬st.fs.U n):=by
 have fin:∀(d:Option Nat) (e:Eff),(match e.new with
     | some n=>(match used st.u n with
      | false=>st.put d e fun Mx _=>K Mx e
      | true=>False)
     | none=>st.put d e fun Mx _=>K Mx e)->K (st.app d e) e/\∀n,e.new=some n->¬st.fs.U n:=by
  exact V28
 unfold w1T at h;exact V23
theorem DH:∀(T:List (St×Eff)),IQ T=(T.map fun p=>(true,p.2)).map fun p=>(p.2.R,p.2.us.map (·.1))
 | []=>rfl
 | p::T=>by rw[IQ,DH T];rfl
theorem BN (hΓ:Γ.chk P=true):∀(l:List Oper) (st:St) (tr:List (St×Eff)) (K:St->List (St×Eff)->Prop),EP P Γ N l st tr K->
  ∃(T:List (St×Eff)) (Mx:St),T.length=l.length/\fY P N ops st.fs l (T.map fun p=>(true,p.2))/\(∀k i p,T[i]?=some p->p.1.fs=sel st.fs l (T.map fun p=>(true,p.2)) (fun n=>decide (n<k+i)) k)/\Mx.fs=gM st.fs l (T.map fun p=>(true,p.2))/\K Mx (T.reverse++tr)
 | [],st,tr,K,h=>⟨[],st,rfl,trivial,fun _ _ _ h=>by simp at h,rfl,h⟩
 | o::rest,st,tr,K,h=>by
  rw[EP]at h;split at h
  ·rename_i Rs;obtain⟨e,h1,h2,h3,h4⟩:=KH hΓ h;obtain⟨T,Mx,g1,g2,g3,g4,g5⟩:=BN hΓ rest _ _ _ h1;rw[zA]at g2 g4;refine⟨(st,e)::T,Mx,by simp[g1],⟨⟨h2,by unfold eI;rw[Rs],fun _=>⟨h3,h4⟩,fun h=>by cases h⟩,g2⟩,fun k i p hp=>?_,g4,by simpa using g5⟩
   cases i with
   | zero=>
    simp only[e8,Option.some.injEq]at hp;subst hp
    rw[mJ _ _ _ _ _ fun i h1 _=>by simp;omega]
   | succ i=>have:=g3 (k+1) i p (by simpa using hp);rw[zA]at this;rw[this,p7,sel];have hd:decide (k<k+(i+1))=true:=s_;simp only[hd,if_true];rw[show k+(i+1)=k+1+i by omega]
  ·exact h.elim
 termination_by l=>l.length
theorem DD {xi xj:Nat}{B:Nat}{M:Nat->Prop}{w0:Start}{Q:Exit->Act->World->Prop}(s:FS)(es:List (Bool×Eff))(Mv:es.length=ops.length)(NG:fY P N ops s ops es)(TD:xi<xj)(O1:lf ops xi xj (es.map fun p=>(p.2.R,p.2.us.map (·.1)))=true)
  {oi oj:Oper} {bj:Bool} {ei ej:Eff} (Vc:ops[xi]?=some oi) (XP:es[xi]?=some (true,ei)) (Wy:ops[xj]?=some oj) (So:es[xj]?=some (bj,ej)) (hX:Good P oi (evL (sel s ops es (fun n=>decide (n<xi)) 0).L) (bP (sel s ops es (fun n=>decide (n<xi)) 0).H ej.us) ei)
  (hQ:∀ρ a w,Conc N B M w0 ρ (gM s ops es) a w->Q .normal a w):
  ∀(fuel:Nat) (listed:Array Bool) (ρ:Rho) (a:Act) (w:World),listed.size=ops.length->(ops.length<=fuel+((List.range ops.length).filter fun i=>listed.getD i true).length)->
   (∀i o,ops[i]?=some o->listed.getD i true=true->∀j∈cJ o,listed.getD j true=true)->
   Conc N B M w0 ρ (sel s ops es (fun i=>listed.getD i true) 0) a w->wpAny P .any ops.toArray Q fuel listed a w:=by
 have Qv:=zy (ops:=ops) O1
 have Oc:∀listed:Array Bool,listed.size=ops.length->Region.ready .any ops.toArray listed=[]->∀i,i<ops.length->listed.getD i true=true:=by exact V9
 have Nf:∀(listed:Array Bool) (ρ:Rho) (a:Act) (w:World),listed.size=ops.length->Conc N B M w0 ρ (sel s ops es (fun i=>listed.getD i true) 0) a w->Region.ready .any ops.toArray listed=[]->Q .normal a w:=by exact V101
 intro fuel
 induction fuel with
 | zero=>exact V11
 | succ fuel ih=>
  intro listed ρ a w Nu OW NA hc;refine⟨Nf listed ρ a w Nu hc,fun i hi=>?_⟩
  obtain⟨Qn,o,ho,Ol⟩:listed.getD i true=false/\∃o,ops[i]?=some o/\∀j∈cJ o,listed.getD j true=true:=by exact V10
  have Nz:i<ops.length:=by
   rcases m7 i ops.length with h'|h'
   ·exact h'
   ·rw[e9 h']at ho;cases ho
  obtain⟨b,e,he⟩:∃b e,es[i]?=some (b,e):=⟨_,_,i7 o_⟩;have Nq:=qn ops es s 0 NG i o b e ho he;simp only[u5]at Nq
  let S:Nat->Bool:=fun i=>listed.getD i true
  have MT:∀j o' b' e',ops[j]?=some o'->es[j]?=some (b',e')->j≠i->clX ops xi xj i j o o' (e.R,e.us.map (·.1)) (e'.R,e'.us.map (·.1))=true->S j=decide (j<i):=by
   intro j o' b' e' MV Nn ME MT;have g1:(es.map fun p=>(p.2.R,p.2.us.map (·.1)))[i]?=some (e.R,e.us.map (·.1)):=(by simp[he]);have g2:(es.map fun p=>(p.2.R,p.2.us.map (·.1)))[j]?=some (e'.R,e'.us.map (·.1)):=(by simp[Nn]);rcases H4 ME with My|UH
   ·have hd:decide (j<i)=true:=(by simpa using My);rw[hd];have N5:clX ops xi xj j i o' o (e'.R,e'.us.map (·.1)) (e.R,e.us.map (·.1))=true:=GZ TD MT;rcases pE O1 j i o' o _ _ My MV ho g2 g1 with h|⟨f,h⟩
    ·rw[N5]at h;cases h
    ·exact ym NA ho Ol _ j h
   ·have hd:decide (j<i)=false:=(by simp;omega);rw[hd];rcases pE O1 i j o o' _ _ UH ho MV g1 g2 with h|⟨f,h⟩
    ·rw[MT]at h;cases h
    ·cases hj:S j with
     | false=>rfl
     | true=>
      have:=ly NA _ j hj i h;rw[Qn]at this
      cases this
  have Rg:S i=false:=Qn
  have Og:∀t,t∈eY ops o->(sel s ops es S 0).L t=(sel s ops es (fun n=>decide (n<i)) 0).L t:=by
   intro t ht;refine GH ops es s s S _ 0 t rfl fun j o' h1 h2=>?_;simp only[u5];by_cases NP:j=i
   ·subst NP;rw[Rg];simp
   ·have NM:j<es.length:=by exact V103
    refine MT j o' _ _ h1 (i7 NM) NP (Gp ?_);simp only[vZ,h2];exact memN_iff.2 ht
  have Qs:∀q∈e.R,(∀j o' b' e',ops[j]?=some o'->es[j]?=some (b',e')->q∈e'.us.map (·.1)->i=xi->j=xj->S j=false)->(sel s ops es S 0).H q=(sel s ops es (fun n=>decide (n<i)) 0).H q:=by
   intro q hq MQ;refine DV ops es s s S _ 0 q rfl fun j o' b' e' h1 h2 h3=>?_;simp only[u5];by_cases NP:j=i
   ·subst NP;rw[Rg];simp
   ·by_cases hx:i=xi/\j=xj
    ·rw[MQ j o' b' e' h1 h2 h3 hx.1 hx.2];symm;rw[p9];omega
    ·refine MT j o' b' e' h1 h2 NP ?_;exact xT hx (y7.2 ⟨q,h3,memI_iff.2 hq⟩)
  have TX:Good P o (evL (sel s ops es S 0).L) (sel s ops es S 0).H e\/b=false:=by
   cases b with
   | false=>exact .inr rfl
   | true=>
    left;obtain⟨k1,_⟩:=Nq.yes rfl;by_cases hx:i=xi/\S xj=true
    ·obtain⟨SI,SO⟩:=hx;subst SI;have eo:oi=o:=(by rw[ho]at Vc;injection Vc with h;exact h.symm);have ee:ei=e:=(by rw[he]at XP;injection XP with h;injection h with _ h;exact h.symm);subst eo;subst ee;have hg:=hX;refine hg.mono (si Og) fun q hq=>?_;by_cases hk:q∈ej.us.map (·.1)
     ·have h1:=Aj ops es s S 0 xj oj bj ej q Wy So (by simpa using SO) hk (fun j o' b' e' hj h1 h2 h3=>by
       simp only[u5];have NP:j≠i:=o_;have hx:¬(i=i/\j=xj):=fun h=>o_;have:=MT j o' b' e' h1 h2 NP (xT hx (y7.2 ⟨q,h3,memI_iff.2 hq⟩))
       rw[this,p9];omega) (sel s ops es (fun n=>decide (n<i)) 0).H
      exact h1
     ·rw[cA ej.us _ q hk];refine Qs q hq fun j o' b' e' h1 h2 h3 _ OS=>?_;subst OS;rw[So]at h2;injection h2 with h2;injection h2 with _ h2;subst h2;exact absurd h3 hk
    ·refine k1.mono (si Og) fun q hq=>Qs q hq fun j o' b' e' h1 h2 h3 SI OS=>?_;subst OS
     cases hS:S j with|false=>rfl|true=>exact absurd ⟨SI,hS⟩ hx
  have QH:∀j o' b' e',i<j->S (0+j)=true->ops[j]?=some o'->es[j]?=some (b',e')->Apart o.dst o'.dst e e':=by
   intro j o' b' e' OD SO h1 h2;simp only[u5]at SO
   have Q0:clX ops xi xj i j o o' (e.R,e.us.map (·.1)) (e'.R,e'.us.map (·.1))=false:=by
    cases MB:clX ops xi xj i j o o' (e.R,e.us.map (·.1)) (e'.R,e'.us.map (·.1))with
    | false=>rfl
    | true=>have:=MT j o' b' e' h1 h2 o_ MB;rw[SO]at this;simp at this;omega
   obtain⟨h5,h6⟩:=Gf TD OD Q0;refine⟨fun t ht VS=>?_,fun q hq MG=>?_⟩
   ·simp[lc,ht,VS]at h5
   ·exact h6 q hq (memI_iff.2 MG)
  have MP:(sel s ops es (fun n=>if n=i then true else S n) 0)=(sel s ops es S 0).app o.dst e:=by have:=za ops es s S 0 i o b e ho he (by simpa using Rg) QH;simpa using this
  have OB:∀n,(listed.setIfInBounds i true).getD n true=(if n=i then true else S n):=by exact V60
  have Uc:ops.length<=fuel+((List.range ops.length).filter fun n=>(listed.setIfInBounds i true).getD n true).length:=by exact V6
  have Qo:∀k o1,ops[k]?=some o1->(listed.setIfInBounds i true).getD k true=true->∀j∈cJ o1,(listed.setIfInBounds i true).getD j true=true:=by exact V41
  have next:∀(v:Value) (w':World) (ρ':Rho),Conc N B M w0 ρ' ((sel s ops es S 0).app o.dst e) (a.put o.dst v) w'->wpAny P .any ops.toArray Q fuel (listed.setIfInBounds i true) (a.put o.dst v) w':=by exact V36
  have QQ:eI ops (sel s ops es S 0) o b:=by exact V25
  have hw:=qP (ops:=ops) hc QQ;unfold wpOp;have MV:ops.toArray[i]?=some o:=by simpa using ho
  rw[MV];show if Region.wanted o (yielded ops.toArray a.tmps)=true then _ else _
  cases b with
  | true=>
   rw[c7 hw];obtain⟨g1,g2⟩:=Nq.yes rfl;have P0:Good P o (evL (sel s ops es S 0).L) (sel s ops es S 0).H e:=TX.resolve_right s_
   exact V19
  | false=>exact V69
theorem Ii (hΓ:Γ.chk P=true){st:St}{K:St->Prop}(h:JO P Γ N ops xi xj st K):∃es Mx,es.length=ops.length/\fY P N ops st.fs ops es/\xi<xj/\lf ops xi xj (es.map fun p=>(p.2.R,p.2.us.map (·.1)))=true/\
  (∃oi oj bj ei ej,ops[xi]?=some oi/\es[xi]?=some (true,ei)/\ops[xj]?=some oj/\es[xj]?=some (bj,ej)/\Good P oi (evL (sel st.fs ops es (fun n=>decide (n<xi)) 0).L) (bP (sel st.fs ops es (fun n=>decide (n<xi)) 0).H ej.us) ei)/\Mx.fs=gM st.fs ops es/\K Mx:=by
 obtain⟨T,Mx,h1,h2,h3,h4,h5,h6,h7⟩:=BN (ops:=ops) hΓ ops st [] _ h;simp only[m6,List.reverse_reverse]at h5 h6;refine⟨T.map fun p=>(true,p.2),Mx,by simp[h1],h2,?_,by rw[<-DH];exact h5,?_,h4,h7⟩
 ·unfold lf at h5;rw[b9]at h5;simpa using h5.1
 ·unfold Iv at h6;split at h6
  ·rename_i oi sti ei _ ej g1 g2 g3;obtain⟨e,g4,g5⟩:=uR hΓ h6;subst g4
   have hl:xj<ops.length:=by
    rw[<-h1];rcases m7 xj T.length with h'|h'
    ·exact h'
    ·rw[e9 h']at g3;cases g3
   have hs:=h3 0 xi _ g2;simp only[u5]at hs;refine⟨oi,ops[xj],true,e,ej,g1,by simp[g2],i7 hl,by simp[g3],?_⟩;rw[<-hs];have e2:bP sti.fs.H ej.us=cj (sV ej.us sti.h):=(by funext o;exact(nG ej.us sti.h o).symm);show Good P oi (evL sti.fs.L) (bP sti.fs.H ej.us) e;rw[e2];exact g5
  ·exact h6.elim
end
end Go.Sim
