import Derived.Test.YtoglejgmjeojoaaGreatGb
namespace Go.Sim
open Go.RowKit
section
variable {P:Program} {Γ:Env} {N B:Nat} {M:Nat->Prop} {w0:Start} {ρ:Rho} {s:F_} {a:Act} {w:World} {o:Oper} {ev:Operand->AV} {H:Id->Option AO} {K:Eff->Prop} {KV:AV->Prop}
theorem HH (x y:List UInt8):((⟨x.toArray⟩:ByteArray)==⟨y.toArray⟩)=(x==y):=by
 cases h:(x==y)with
 | true=>
  have e:x=y:=by simpa using h
  subst e
  exact(Go.MapKept.bytes_beq _ _).2 rfl
 | false=>
  cases h2:((⟨x.toArray⟩:ByteArray)==⟨y.toArray⟩)with
  | false=>rfl
  | true=>have e:=(Go.MapKept.bytes_beq _ _).1 h2;injection e with e;have:x=y:=(by simpa using e);subst this;simp at h
theorem ka {d:TypeDesc}{kk:Option IntKind}(hd:(∃k,d= .int k/\kk=some k)\/(d= .string/\kk=none)){x y:Tr}(hx:dv kk x)(hy:dv kk y):
  Instr.sameNow d (jT x) (jT y)=some (qi x y)/\Go.MapKept.IsKey d (jT x):=by
 rcases hd with⟨k,rfl,rfl⟩|⟨rfl,rfl⟩
 ·cases x<;>simp only[dv]at hx
  cases y<;>simp only[dv]at hy
  subst hx;subst hy;simp[jT,Instr.sameNow,qi,Go.MapKept.IsKey]
 ·cases x<;>simp only[dv]at hx
  cases y<;>simp only[dv]at hy
  refine⟨?_,trivial⟩;show some _=some _;rw[HH];rfl
theorem xX {kk:Option IntKind}{x y:Tr}(hx:dv kk x)(hy:dv kk y)(h:qi x y=true):jT x=jT y:=by
 cases kk with
 | some k=>
  cases x<;>simp only[dv]at hx
  cases y<;>simp only[dv]at hy
  subst hx;subst hy;simp only[qi,w9]at h
  rw[h]
 | none=>
  cases x<;>simp only[dv]at hx
  cases y<;>simp only[dv]at hy
  simp only[qi,w9]at h;rw[h]
theorem qz {d:TypeDesc}{kk:Option IntKind}(hd:(∃k,d= .int k/\kk=some k)\/(d= .string/\kk=none)){key:Tr}(hk:dv kk key):∀(l:List MapEntry) (es:List (Tr×Int)) (i:Nat),l.map (fun e=>(e.key,e.val))=es.map AF->(∀p∈es,dv kk p.1)->
  (Instr.findNow d (jT key) l i=some none/\jy es key=none/\(∀v,oy es key v=es++[(key,v)])/\oP es key=es)\/
  ∃j e q n,Instr.findNow d (jT key) l i=some (some (i+j,.int .i64 n))/\l[j]?=some e/\e.key=jT key/\jy es key=some n/\es[j]?=some (q,n)/\jT q=jT key/\(∀v,oy es key v=es.set j (q,v))/\oP es key=es.eraseIdx j
 | [],[],i,_,_=> .inl ⟨rfl,rfl,fun _=>rfl,rfl⟩
 | [],_::_,_,h,_=>by simp at h
 | _::_,[],_,h,_=>by simp at h
 | e::l,(q,n)::es,i,h,hf=>by
  simp only[p7,List.cons.injEq,AF,Prod.mk.injEq]at h;obtain⟨⟨h1,h2⟩,h3⟩:=h;obtain⟨hs,_⟩:=ka hd hk (hf (q,n) s_);have hq:=hf (q,n) s_
  cases hb:qi key q with
  | true=>
   rw[hb]at hs;refine .inr ⟨0,e,q,n,?_,rfl,?_,?_,rfl,(xX hk hq hb).symm,fun v=>?_,?_⟩
   ·simp only[Instr.findNow,h1,hs,h2,y6]
   ·rw[h1];exact(xX hk hq hb).symm
   ·simp[jy,wR,hb]
   ·simp[oy,Cw,hb]
   ·simp[oP,At,hb]
  | false=>
   rw[hb]at hs;rcases qz hd hk l es (i+1) h3 (fun p hp=>hf p (by simp[hp]))with⟨g1,g2,g3,g4⟩|⟨j,e',q',n',g1,g2,g3,g4,g5,g6,g7,g8⟩
   ·refine .inl ⟨?_,?_,fun v=>?_,?_⟩
    ·simp only[Instr.findNow,h1,hs,g1]
    ·have Rx:=g2;unfold jy at Rx;simp[jy,wR,hb,Rx]
    ·have RP:=g3 v;unfold oy at RP;simp[oy,Cw,hb,RP]
    ·have Te:=g4;unfold oP at Te;simp[oP,At,hb,Te]
   ·refine .inr ⟨j+1,e',q',n',?_,by simpa using g2,g3,?_,by simpa using g5,g6,fun v=>?_,?_⟩
    ·simp only[Instr.findNow,h1,hs,g1];congr 3;omega
    ·have Te:=g4;unfold jy at Te;simp[jy,wR,hb,Te]
    ·have X9:=g7 v;unfold oy at X9;simp[oy,Cw,hb,X9]
    ·have YB:=g8;unfold oP at YB;simp[oP,At,hb,YB]
theorem kz {α β:Type}(f:α->β):∀(l:List α) (j:Nat),(l.eraseIdx j).map f=(l.map f).eraseIdx j
 | [],_=>rfl
 | _::_,0=>rfl
 | x::l,j+1=>by simp[kz f l j]
theorem ny (hΓ:Γ.chk P=true){T:TypeId}{kk:Option IntKind}(h:nY Γ T=some kk):∃kt et d i,P.underlying T=some (.map kt et)/\P.underlying kt=some d/\((∃k,d= .int k/\kk=some k)\/(d= .string/\kk=none))/\P.info? et=some i/\i.zero=some (.int .i64 0):=by
 unfold nY at h
 cases hT:Γ.get T with
 | none=>rw[hT]at h;cases h
 | some ti=>
  rw[hT]at h;dsimp only at h;obtain⟨ii,d,fit⟩:=Env.fit hΓ hT;have hm:=fit.map;rw[h]at hm
  cases d<;>simp only[Ip]at hm<;>try(cases hm;done)
  rename_i kt et;split at hm
  ·rename_i i hi;split at hm
   ·rename_i n hz;split at hm
    ·rename_i k h1 h2;injection hm with hm;have:n=0:=d9 h1;subst this;exact⟨kt,et,_,i,fit.und,h2,.inl ⟨k,rfl,hm.symm⟩,hi,hz⟩
    ·rename_i h1 h2;injection hm with hm;have:n=0:=d9 h1;subst this;exact⟨kt,et,_,i,fit.und,h2,.inr ⟨rfl,hm.symm⟩,hi,hz⟩
    ·cases hm
   ·cases hm
  ·cases hm
theorem Conc.mp (hc:Conc N B M w0 ρ s a w){q:Id}{kk:Option IntKind}{es:List (Tr×Int)}(h:s.H q=some (.mp kk es)):∃b ents clock,ρ q= .map (some b)/\w.heap[b]?=some (.map ents clock)/\ents.toList.map (fun e=>(e.key,e.val))=es.map AF/\∀p∈es,dv kk p.1:=hc.obj q _ h
theorem Turn.setBlock (w:World)(b:Nat){ents:Array MapEntry}{clock:Nat}(hb:w.heap[b]?=some (.map ents clock))(x:Obj):Turn (fun k=>k=b) w (Go.ChangeMaps.setBlock w b x):=
 ⟨rfl,rfl,rfl,by simp[Go.ChangeMaps.setBlock],fun k _ hk=>Go.ChangeMaps.heap_setBlock_other hb x hk⟩
theorem zr {ok:Nat->Prop}{v:Value}{x:Tr}{kk:Option IntKind}(hk:dv kk x)(h:RT w ok v x):v=jT x:=by
 cases x with
 | lst=>cases kk<;>exact hk.elim
 | bool=>cases kk<;>exact hk.elim
 | int k n=>cases h;rfl
 | str b=>cases h;rfl
theorem xn {T:TypeId}{d:Nat}{kk:Option IntKind}(Nq:o.dst=some d)(ho:o.op= .makeMap T none):
  Good P o ev H ⟨.r (.c (.mpv (d,0,0))),[((d,0,0),some (.mp kk []))],some d,[]⟩:=by
 intro N B M w0 ρ s a w Q K hc M1 hR hn hd hK;rw[Nq]at hd hK
 obtain⟨ρ',h'⟩:=hc.make (hd d rfl) (hn d rfl) (D:=fun _=>False) [] (Turn.alloc _ _ (.map #[] 0)) (v:= .map (some w.heap.size)) (vv:= .map (some w.heap.size)) (x:= .mp kk []) (av:= .r (.c (.mpv (d,0,0)))) (R:=[]) (fun _=>False) (fun _ h=>h.elim) (fun b hb=>by
   injection hb with hb;subst hb;exact⟨s_,.inl (d8 _)⟩) (fun _ h=>h.elim) aaU (fun id M7=>by
   simp[AV.ids,AR.ids,AC.ids]at M7;left;rw[M7]) (fun ρ' ok' hk _ hρ hq _=>⟨⟨w.heap.size,#[],0,hq,kN w _,rfl,s_⟩,⟨_,hq⟩,hq.symm⟩)
 have M8:(execOp a.eval o).run P w= .ok (.value (.map (some w.heap.size))) (w.alloc (.map #[] 0)):=by simp[execOp,ho,Instr.makeMap]
 exact V123
theorem zP {T:TypeId}{x k:Operand}{c:Bool}(hΓ:Γ.chk P=true)(ho:o.op= .lookup T x k c)(h:rP Γ T (ev x) (ev k) c H K):∃e,K e/\Good P o ev H e:=by
 have Na:x∈o.op.operands.toList:=by simp[ho,Op.operands]
 have QZ:k∈o.op.operands.toList:=by simp[ho,Op.operands]
 unfold rP at h;split at h
 ·rename_i q key hx Tz;split at h
  ·rename_i kk es hq;obtain⟨hm,hf,h⟩:=h;obtain⟨kt,et,d,i,u1,u2,hd,hi,hz⟩:=ny hΓ hm
   have base:∀(N B:Nat) (M:Nat->Prop) (w0:Start) (ρ:Rho) (s:F_) (a:Act) (w:World),Conc N B M w0 ρ s a w->(∀x∈o.op.operands.toList,evL s.L x=ev x)->s.H q=H q->
     (Instr.lookup T (a.eval x) (a.eval k) c).run P w= .ok (if c then .tuple #[.int .i64 (vX (jy es key)),.bool (jy es key).isSome]else .int .i64 (vX (jy es key))) w:=by
    intro N B M w0 ρ s a w hc M1 hR;obtain⟨b,ents,clock,g1,g2,g3,g4⟩:=hc.mp (hR.trans hq);have Pc:=(hc.eval x).1;rw[M1 x Na,hx]at Pc;have Za:=(hc.eval k).1;rw[M1 k QZ,Tz]at Za;have ex:a.eval x= .map (some b):=(by rw[<-g1];exact Pc.2);have ek:a.eval k=jT key:=zr hf Za;have Pe:=(ka hd hf hf).2;rw[ex,ek];have Vc:=fF (w:=w) hi hz;rcases qz hd hf ents.toList es 0 g3 g4 with⟨f1,f2,_,_⟩|⟨j,e,q',n,f1,_,_,f4,_⟩
    ·rw[f2]
     cases c<;>simp[Instr.lookup,run_underlying u1,Go.MapKept.run_getObj_map g2,Go.MapKept.run_checkKey u2 Pe,Go.MapKept.run_findKey u2 f1,Vc,Result.andThen,vX]
    ·rw[f4]
     cases c<;>simp[Instr.lookup,run_underlying u1,Go.MapKept.run_getObj_map g2,Go.MapKept.run_checkKey u2 Pe,Go.MapKept.run_findKey u2 f1,Result.andThen,vX]
   cases c with
   | true=>
    refine⟨_,h,aG fun N B M w0 ρ s a w hc M1 hR=>?_⟩;have:=base N B M w0 ρ s a w hc M1 (hR q s_)
    exact⟨_,by simp only[execOp,ho,m8,this,j5,o9];rfl,⟨#[.int .i64 (vX (jy es key)),.bool (jy es key).isSome],rfl,(show RRs _ _ _ _ [_,_] [_,_] from⟨RT.int _ _,RT.bool _,trivial⟩)⟩,by simp[AV.ids,AR.ids,AC.ids]⟩
   | false=>refine⟨_,h,aG fun N B M w0 ρ s a w hc M1 hR=>?_⟩;have:=base N B M w0 ρ s a w hc M1 (hR q s_);exact⟨_,by simp only[execOp,ho,m8,this,j5,o9];rfl,RT.int _ _,by simp[AV.ids,AR.ids,AC.ids]⟩
  ·exact h.elim
 ·exact h.elim
theorem zm {T:TypeId}{x k v:Operand}(hΓ:Γ.chk P=true)(ho:o.op= .mapUpdate T x k v\/o.op= .insert T x k v)(h:rF Γ T (ev x) (ev k) (ev v) H K):∃e,K e/\Good P o ev H e:=by
 have Na:x∈o.op.operands.toList:=by rcases ho with ho|ho<;>simp[ho,Op.operands]
 have QZ:k∈o.op.operands.toList:=by rcases ho with ho|ho<;>simp[ho,Op.operands]
 have Xp:v∈o.op.operands.toList:=by rcases ho with ho|ho<;>simp[ho,Op.operands]
 unfold rF at h;split at h
 ·rename_i q key n hx Tz Pc;split at h
  ·rename_i kk es hq;obtain⟨hm,hf,h⟩:=h;obtain⟨kt,et,d,i,u1,u2,hd,hi,hz⟩:=ny hΓ hm;refine⟨_,h,?_⟩;intro N B M w0 ρ s a w Q K hc M1 hR Nl Su hK;have Nb:s.H q=some (.mp kk es):=(by rw[hR q s_];exact hq);obtain⟨b,ents,clock,g1,g2,g3,g4⟩:=hc.mp Nb;have e1:=(hc.eval x).1;rw[M1 x Na,hx]at e1;have e2:=(hc.eval k).1;rw[M1 k QZ,Tz]at e2;have e3:=(hc.eval v).1;rw[M1 v Xp,Pc]at e3;have ex:a.eval x= .map (some b):=(by rw[<-g1];exact e1.2);have ek:a.eval k=jT key:=zr hf e2;have evv:a.eval v= .int .i64 n:=cI e3;have Pe:=(ka hd hf hf).2
   have fin:∀(NS:Array MapEntry) (OG:Nat) (Ot:List (Tr×Int)),(Instr.mapUpdate T (.map (some b)) (jT key) (.int .i64 n)).run P w= .ok () (Go.ChangeMaps.setBlock w b (.map NS OG))->NS.toList.map (fun e=>(e.key,e.val))=Ot.map AF->(∀p∈Ot,dv kk p.1)->Ot=oy es key n->o.wp P a w K Q:=by
    intro NS OG Ot M8 k1 k2 k3;subst k3;obtain⟨ρ',this⟩:=hc.upd Nb (x':= .mp kk (oy es key n)) (b:=b) aai [] s_ (fun _=>False) (fun _ h=>h.elim) (Turn.setBlock w b g2 (.map NS OG)) aaU (fun ρ' ok' hρ _ hk _ _ _=>⟨b,NS,OG,by rw[hρ];exact g1,Go.ChangeMaps.heap_setBlock_same g2 _,k1,k2⟩) Su undef [q]
    have NK:(execOp a.eval o).run P w= .ok .skip (Go.ChangeMaps.setBlock w b (.map NS OG)):=by rcases ho with ho|ho<;>simp only[execOp,ho,ex,ek,evv,m8,M8,j5,o9]
    unfold Oper.wp;rw[NK];exact hK _ _ ρ' this
   rcases qz hd hf ents.toList es 0 g3 g4 with⟨f1,f2,f3,_⟩|⟨j,e,q',n',f1,f2,f3,f4,f5,f6,f7,_⟩
   ·refine fin (ents.push {key:=jT key,val:= .int .i64 n,born:=clock}) (clock+1) (es++[(key,n)]) ?_ ?_ ?_ (f3 n).symm
    ·simp[Instr.mapUpdate,run_underlying u1,Go.MapKept.run_getObj_map g2,Go.MapKept.run_checkKey u2 Pe,Go.MapKept.run_findKey u2 f1,Go.MapKept.run_setObj_map _ g2,Result.andThen,Go.ChangeMaps.setBlock]
    ·simp[g3,AF]
    ·intro p hp;rcases f0.1 hp with hp|hp
     ·exact g4 p hp
     ·rw[t8.1 hp];exact hf
   ·have ST:ents[j]?=some e:=(by simpa using f2);refine fin (ents.modify j fun e=>{e with key:=jT key,val:= .int .i64 n}) clock (es.set j (q',n)) ?_ ?_ ?_ (f7 n).symm
    ·have QT:(((ents[j]?).map (·.key)).getD (jT key))=jT key:=(by rw[ST];simpa using f3);simp[Instr.mapUpdate,run_underlying u1,Go.MapKept.run_getObj_map g2,Go.MapKept.run_checkKey u2 Pe,Go.MapKept.run_findKey u2 f1,QT,Go.MapKept.run_keyThatStays Pe,Go.MapKept.run_setObj_map _ g2,Result.andThen,Go.ChangeMaps.setBlock]
    ·apply I0;intro m;have gm:=congrArg (·[m]?) g3;simp only[p6,Array.getElem?_toList,Array.getElem?_modify,List.getElem?_set]at gm⊢;by_cases Ya:j=m
     ·subst Ya;have M3:j<es.length:=(by rcases m5 j es.length with h|h;exact h;rw[e9 h]at f5;cases f5);simp[ST,M3,AF,f6]
     ·simp[Ya]at gm⊢;exact gm
    ·intro p hp;rcases u7 hp with hp|rfl
     ·exact g4 p hp
     ·exact g4 (q',n') (c9 f5)
  ·exact h.elim
 ·exact h.elim
theorem V58{p:Prop}(h:p:=by
 simp[Builtin.delete_,run_underlying u1,Go.MapKept.run_getObj_map g2,Go.MapKept.run_checkKey u2 Pe,Go.MapKept.run_findKey u2 f1,Go.MapKept.run_setObj_map _ g2,Result.andThen,Go.ChangeMaps.setBlock]):p:=h
theorem zF {T T2:TypeId}{x k:Operand}(hΓ:Γ.chk P=true)(ho:o.op= .call {callee:= .builtin .delete,args:=⟨[x,k]⟩,argTypes:=⟨[T,T2]⟩})(h:sk Γ T (ev x) (ev k) H K):∃e,K e/\Good P o ev H e:=by
 have Na:x∈o.op.operands.toList:=by simp[ho,Op.operands,Call.operands]
 have QZ:k∈o.op.operands.toList:=by simp[ho,Op.operands,Call.operands]
 unfold sk at h;split at h
 ·rename_i q key hx Tz;split at h
  ·rename_i kk es hq;obtain⟨hm,hf,h⟩:=h;obtain⟨kt,et,d,i,u1,u2,hd,hi,hz⟩:=ny hΓ hm;refine⟨_,h,?_⟩;intro N B M w0 ρ s a w Q K hc M1 hR Nl Su hK;have Nb:s.H q=some (.mp kk es):=(by rw[hR q s_];exact hq);obtain⟨b,ents,clock,g1,g2,g3,g4⟩:=hc.mp Nb;have e1:=(hc.eval x).1;rw[M1 x Na,hx]at e1;have e2:=(hc.eval k).1;rw[M1 k QZ,Tz]at e2;have ex:a.eval x= .map (some b):=(by rw[<-g1];exact e1.2);have ek:a.eval k=jT key:=zr hf e2;have Pe:=(ka hd hf hf).2
   have fin:∀(NS:Array MapEntry) (Ot:List (Tr×Int)),(Builtin.delete_ #[T,T2] o.type #[.map (some b),jT key]).run P w= .ok (.tuple #[]) (Go.ChangeMaps.setBlock w b (.map NS clock))->NS.toList.map (fun e=>(e.key,e.val))=Ot.map AF->(∀p∈Ot,dv kk p.1)->Ot=oP es key->o.wp P a w K Q:=by
    intro NS Ot M8 k1 k2 k3;subst k3;obtain⟨ρ',this⟩:=hc.upd Nb (x':= .mp kk (oP es key)) (b:=b) aai [] s_ (fun _=>False) (fun _ h=>h.elim) (Turn.setBlock w b g2 (.map NS clock)) aaU (fun ρ' ok' hρ _ hk _ _ _=>⟨b,NS,clock,by rw[hρ];exact g1,Go.ChangeMaps.heap_setBlock_same g2 _,k1,k2⟩) Su (.tuple #[]) [q]
    have NK:(execOp a.eval o).run P w= .ok (.value (.tuple #[])) (Go.ChangeMaps.setBlock w b (.map NS clock)):=by simp only[execOp,ho,resolve,invoke,builtin,List.map_toArray,p7,C7,ex,ek,m8,o9,M8,j5]
    unfold Oper.wp;rw[NK];exact hK _ _ ρ' this
   rcases qz hd hf ents.toList es 0 g3 g4 with⟨f1,f2,f3,f4⟩|⟨j,e,q',n',f1,f2,f3,_,f5,f6,_,f8⟩
   ·refine fin ents es ?_ g3 g4 f4.symm;exact V58
   ·refine fin (ents.eraseIdxIfInBounds j) (es.eraseIdx j) ?_ ?_ ?_ f8.symm
    ·exact V58
    ·have M3:j<ents.size:=by
      rcases m5 j ents.size with h|h
      ·exact h
      ·have:ents.toList[j]?=none:=(by rw[e9];simpa using h);rw[this]at f2;cases f2
     rw[Array.eraseIdxIfInBounds,dif_pos M3,Array.toList_eraseIdx,kz,g3,<-kz]
    ·exact fun p hp=>g4 p (List.mem_of_mem_eraseIdx hp)
  ·exact h.elim
 ·exact h.elim
end
section
variable {P:Program} {Γ:Env} {N B:Nat} {M:Nat->Prop} {w0:Start} {ρ ρ':Rho} {s:F_} {a:Act} {w w':World} {o:Oper} {ev:Operand->AV} {H:Id->Option AO} {K:Eff->Prop} {KV:AV->Prop}
def ext (θ θ':List (Id×Id)):Prop:=∀q o,lkI θ q=some o->lkI θ' q=some o
theorem ext.refl (θ:List (Id×Id)):ext θ θ:=fun _ _ h=>h
theorem ext.trans {θ θ' θ'':List (Id×Id)}(h:ext θ θ')(h':ext θ' θ''):ext θ θ'':=fun q o hq=>h' q o (h q o hq)
theorem zK {α:Type}(x y:Id)(A C:α):(bif fw x y then A else C)=if x=y then A else C:=by
 cases hb:fw x y with
 | true=>rw[idEq_iff]at hb;simp[hb]
 | false=>
  have:¬x=y:=fun e=>by rw[idEq_iff.2 e]at hb;cases hb
  simp[this]
theorem vm (i x:Id)(θ:List (Id×Id))(o:Id):lkI ((i,x)::θ) o=if o=i then some x else lkI θ o:=by rw[lkI,zK]
theorem pp {θ:List (Id×Id)}{q o:Id}{K:List (Id×Id)->Prop}(h:Cl θ q o K):∃θ',K θ'/\ext θ θ'/\lkI θ' q=some o:=by
 unfold Cl at h;split at h
 ·rename_i o' hq;obtain⟨h1,h2⟩:=h;rw[idEq_iff]at h1;exact⟨θ,h2,ext.refl _,by rw[h1];exact hq⟩
 ·rename_i hq;refine⟨_,h,fun q' o' h'=>?_,by rw[vm,c7 rfl]⟩;rw[vm];split
  ·rename_i e;subst e;rw[hq]at h';cases h'
  ·exact h'
def relC (H:Id->Option AO)(θ:List (Id×Id))(bw:List Id)(x y:AC):Prop:=
 (∃o q,x= .own o/\y= .own q/\lkI θ q=some o)\/(∃o q n,x= .ptr o n/\y= .ptr q n/\lkI θ q=some o)\/(x= .nilp/\y= .nilp)\/(∃n m,x= .nils n/\y= .nils m)\/(∃o q,x= .mpv o/\y= .mpv q/\lkI θ q=some o)\/
  y= .opq\/∃t,y= .t t/\eJ H x t/\∀o∈x.ids,o∈bw
theorem relC.mono {θ θ':List (Id×Id)}{bw NU:List Id}{x y:AC}(h:relC H θ bw x y)(h1:ext θ θ')(h2:∀o∈bw,o∈NU):relC H θ' NU x y:=by
 rcases h with⟨o,q,rfl,rfl,h⟩|⟨o,q,n,rfl,rfl,h⟩|⟨rfl,rfl⟩|⟨n,m,rfl,rfl⟩|⟨o,q,rfl,rfl,h⟩|rfl|⟨t,rfl,h3,h4⟩
 ·exact .inl ⟨o,q,rfl,rfl,h1 _ _ h⟩
 ·exact .inr (.inl ⟨o,q,n,rfl,rfl,h1 _ _ h⟩)
 ·exact .inr (.inr (.inl ⟨rfl,rfl⟩))
 ·exact .inr (.inr (.inr (.inl ⟨n,m,rfl,rfl⟩)))
 ·exact .inr (.inr (.inr (.inr (.inl ⟨o,q,rfl,rfl,h1 _ _ h⟩))))
 ·exact .inr (.inr (.inr (.inr (.inr (.inl rfl)))))
 ·exact .inr (.inr (.inr (.inr (.inr (.inr ⟨t,rfl,h3,fun o ho=>h2 o (h4 o ho)⟩)))))
theorem V80{p:Prop}(h:p:=by
 exact⟨θ,_,h.2,ext.refl _,fun o ho=>z9 _ ho,.inr (.inr (.inr (.inr (.inr (.inr ⟨_,rfl,h.1,fun o ho=>by simp[AC.ids]at ho;simp[ho]⟩)))))⟩):p:=h
theorem AG {θ:List (Id×Id)}{bw:List Id}{x y:AC}{K:List (Id×Id)->List Id->Prop}(h:maC H θ bw x y K):∃θ' NU,K θ' NU/\ext θ θ'/\(∀o∈bw,o∈NU)/\relC H θ' NU x y:=by
 unfold maC at h;split at h
 ·obtain⟨θ',h1,h2,h3⟩:=pp h;exact⟨θ',bw,h1,h2,fun _ h=>h,.inl ⟨_,_,rfl,rfl,h3⟩⟩
 ·obtain⟨rfl,h⟩:=h;obtain⟨θ',h1,h2,h3⟩:=pp h;exact⟨θ',bw,h1,h2,fun _ h=>h,.inr (.inl ⟨_,_,_,rfl,rfl,h3⟩)⟩
 ·exact⟨θ,bw,h,ext.refl _,fun _ h=>h,.inr (.inr (.inl ⟨rfl,rfl⟩))⟩
 ·obtain⟨θ',h1,h2,h3⟩:=pp h;exact⟨θ',bw,h1,h2,fun _ h=>h,.inr (.inr (.inr (.inr (.inl ⟨_,_,rfl,rfl,h3⟩))))⟩
 ·exact⟨θ,bw,h,ext.refl _,fun _ h=>h,.inr (.inr (.inr (.inl ⟨_,_,rfl,rfl⟩)))⟩
 ·exact V80
 ·exact V80
 ·rename_i h1 h2;refine⟨θ,_,h.2,ext.refl _,fun _ h=>h,.inr (.inr (.inr (.inr (.inr (.inr ⟨_,rfl,h.1,fun o ho=>?_⟩)))))⟩;have ht:=h.1
  cases x with|own o=>exact absurd rfl (h1 o)|sub o k=>exact absurd rfl (h2 o k)|ptr o k=>exact ht.elim|t x=>simp[AC.ids]at ho|f x=>simp[AC.ids]at ho|nils n=>simp[AC.ids]at ho|nilp=>simp[AC.ids]at ho|opq=>simp[AC.ids]at ho|mpv o=>exact ht.elim
 ·exact⟨θ,bw,h,ext.refl _,fun _ h=>h,.inr (.inr (.inr (.inr (.inr (.inl rfl)))))⟩
 ·exact h.elim
def relCs (H:Id->Option AO)(θ:List (Id×Id))(bw:List Id):List AC->List AC->Prop
 | [],[]=>True
 | x::xs,y::ys=>relC H θ bw x y/\relCs H θ bw xs ys
 | _,_=>False
theorem relCs.mono {θ θ':List (Id×Id)}{bw NU:List Id}:∀{xs ys:List AC},relCs H θ bw xs ys->ext θ θ'->(∀o∈bw,o∈NU)->relCs H θ' NU xs ys
 | [],[],_,_,_=>trivial
 | _::_,_::_,h,h1,h2=>⟨h.1.mono h1 h2,relCs.mono h.2 h1 h2⟩
 | [],_::_,h,_,_=>h.elim
 | _::_,[],h,_,_=>h.elim
theorem rU:∀{xs ys:List AC} {θ:List (Id×Id)} {bw:List Id} {K:List (Id×Id)->List Id->Prop},Kb H θ bw xs ys K->∃θ' NU,K θ' NU/\ext θ θ'/\(∀o∈bw,o∈NU)/\relCs H θ' NU xs ys
 | [],[],_,_,_,h=>⟨_,_,h,ext.refl _,fun _ h=>h,trivial⟩
 | x::xs,y::ys,_,_,_,h=>by
  obtain⟨θ1,bw1,h1,h2,h3,h4⟩:=AG h;obtain⟨θ2,bw2,h5,h6,h7,h8⟩:=rU h1
  exact⟨θ2,bw2,h5,h2.trans h6,fun o ho=>h7 o (h3 o ho),h4.mono h6 h7,h8⟩
 | [],_::_,_,_,_,h=>h.elim
 | _::_,[],_,_,_,h=>h.elim
def relV (H:Id->Option AO)(θ:List (Id×Id))(bw:List Id):AV->AV->Prop
 | .r (.c x),.r (.c y)=>relC H θ bw x y
 | .r (.agg xs),.r (.agg ys)=>relCs H θ bw xs ys
 | _,_=>False
theorem relV.mono {θ θ':List (Id×Id)}{bw NU:List Id}{x y:AV}(h:relV H θ bw x y)(h1:ext θ θ')(h2:∀o∈bw,o∈NU):relV H θ' NU x y:=by
 unfold relV at h⊢;split at h
 ·exact relC.mono h h1 h2
 ·exact relCs.mono h h1 h2
 ·exact h.elim
theorem ID {θ:List (Id×Id)}{bw:List Id}{x y:AV}{K:List (Id×Id)->List Id->Prop}(h:maV H θ bw x y K):∃θ' NU,K θ' NU/\ext θ θ'/\(∀o∈bw,o∈NU)/\relV H θ' NU x y:=by
 unfold maV at h;split at h
 ·exact AG h
 ·exact rU h
 ·exact h.elim
def relVs (H:Id->Option AO)(θ:List (Id×Id))(bw:List Id):List AV->List AV->Prop
 | [],[]=>True
 | x::xs,y::ys=>relV H θ bw x y/\relVs H θ bw xs ys
 | _,_=>False
theorem relVs.mono {θ θ':List (Id×Id)}{bw NU:List Id}:∀{xs ys:List AV},relVs H θ bw xs ys->ext θ θ'->(∀o∈bw,o∈NU)->relVs H θ' NU xs ys
 | [],[],_,_,_=>trivial
 | _::_,_::_,h,h1,h2=>⟨h.1.mono h1 h2,relVs.mono h.2 h1 h2⟩
 | [],_::_,h,_,_=>h.elim
 | _::_,[],h,_,_=>h.elim
theorem yj:∀{xs ys:List AV} {θ:List (Id×Id)} {bw:List Id} {K:List (Id×Id)->List Id->Prop},HD H θ bw xs ys K->∃θ' NU,K θ' NU/\ext θ θ'/\(∀o∈bw,o∈NU)/\relVs H θ' NU xs ys
 | [],[],_,_,_,h=>⟨_,_,h,ext.refl _,fun _ h=>h,trivial⟩
 | x::xs,y::ys,_,_,_,h=>by
  obtain⟨θ1,bw1,h1,h2,h3,h4⟩:=ID h;obtain⟨θ2,bw2,h5,h6,h7,h8⟩:=yj h1
  exact⟨θ2,bw2,h5,h2.trans h6,fun o ho=>h7 o (h3 o ho),h4.mono h6 h7,h8⟩
 | [],_::_,_,_,_,h=>h.elim
 | _::_,[],_,_,_,h=>h.elim
def relO (H:Id->Option AO)(θ:List (Id×Id))(bw:List Id)(x y:AO):Prop:=
 (∃cs ds,x= .box cs/\y= .box ds/\relCs H θ bw cs ds)\/(∃fr sz rows,x= .arr fr sz rows/\y= .arr false sz rows)\/(∃sz rows,x= .dar sz rows none/\y= .dar sz rows none)\/∃kk es,x= .mp kk es/\y= .mp kk es
theorem relO.mono {θ θ':List (Id×Id)}{bw NU:List Id}{x y:AO}(h:relO H θ bw x y)(h1:ext θ θ')(h2:∀o∈bw,o∈NU):relO H θ' NU x y:=by
 rcases h with⟨cs,ds,rfl,rfl,h⟩|h|h
 ·exact .inl ⟨cs,ds,rfl,rfl,h.mono h1 h2⟩
 ·exact .inr (.inl h)
 ·exact .inr (.inr h)
theorem Ai:∀{l:List (Id×AO)} {θ:List (Id×Id)} {bw:List Id} {K:List (Id×Id)->List Id->Prop},maO H θ bw l K->∃θ' NU,K θ' NU/\ext θ θ'/\(∀o∈bw,o∈NU)/\∀p∈l,∃o x,lkI θ' p.1=some o/\H o=some x/\relO H θ' NU x p.2
 | [],_,_,_,h=>⟨_,_,h,ext.refl _,fun _ h=>h,s_⟩
 |(q,y)::l,θ,bw,K,h=>by
  simp only[maO]at h;split at h
  ·rename_i o hq
   have one:∀{θ1:List (Id×Id)} {bw1:List Id} {x:AO},maO H θ1 bw1 l K->ext θ θ1->(∀o∈bw,o∈bw1)->H o=some x->relO H θ1 bw1 x y->
     ∃θ' NU,K θ' NU/\ext θ θ'/\(∀o∈bw,o∈NU)/\∀p∈(q,y)::l,∃o x,lkI θ' p.1=some o/\H o=some x/\relO H θ' NU x p.2:=by
    intro θ1 bw1 x h1 h2 h3 h4 h5;obtain⟨θ2,bw2,k1,k2,k3,k4⟩:=Ai h1;refine⟨θ2,bw2,k1,h2.trans k2,fun o ho=>k3 o (h3 o ho),fun p hp=>?_⟩;rcases d7.1 hp with rfl|hp
    ·exact⟨o,x,k2 _ _ (h2 _ _ hq),h4,h5.mono k2 k3⟩
    ·exact k4 p hp
   split at h
   ·rename_i cs hx;split at h
    ·rename_i ds;obtain⟨θ1,bw1,h1,h2,h3,h4⟩:=rU h;exact one h1 h2 h3 hx (.inl ⟨cs,ds,rfl,rfl,h4⟩)
    ·exact h.elim
   ·rename_i fr sz rows hx;split at h
    ·rename_i fr' Nn rows';obtain⟨rfl,rfl,rfl,h⟩:=h;exact one h (ext.refl _) (fun _ h=>h) hx (.inr (.inl ⟨fr,_,_,rfl,rfl⟩))
    ·exact h.elim
   ·rename_i sz rows hx;split at h
    ·obtain⟨rfl,rfl,h⟩:=h;exact one h (ext.refl _) (fun _ h=>h) hx (.inr (.inr (.inl ⟨_,_,rfl,rfl⟩)))
    ·exact h.elim
   ·rename_i kk es hx;split at h
    ·obtain⟨rfl,rfl,h⟩:=h;exact one h (ext.refl _) (fun _ h=>h) hx (.inr (.inr (.inr ⟨_,_,rfl,rfl⟩)))
    ·exact h.elim
   ·exact h.elim
  ·exact h.elim
theorem iy {l:List (Id×AO)}{q:Id}{y:AO}(h:lkH l q=some y):(q,y)∈l:=by
 induction l with
 | nil=>cases h
 | cons p l ih=>
  obtain⟨i,x⟩:=p;rw[lkH,zK]at h;split at h
  ·rename_i e;injection h with h;subst e;subst h;simp
  ·exact z9 _ (ih h)
theorem vf {l:List (Id×AO)}(hn:(l.map (·.1)).Nodup){q:Id}{y:AO}(h:(q,y)∈l):lkH l q=some y:=by
 induction l with
 | nil=>cases h
 | cons p l ih=>
  obtain⟨i,x⟩:=p;rw[lkH,zK];simp only[p7,F2]at hn;rcases d7.1 h with h|h
  ·injection h with h1 h2;subst h1;subst h2;simp
  ·have:q≠i:=fun e=>hn.1 (by rw[<-e];exact n9.2 ⟨_,h,rfl⟩);rw[b8 this];exact ih hn.2 h
theorem DK {l:List (Id×AO)}{q:Id}(h:q∈l.map (·.1)):(lkH l q).isSome=true:=by
 induction l with
 | nil=>cases h
 | cons p l ih=>
  obtain⟨i,x⟩:=p;rw[lkH,zK];split
  ·rfl
  ·rename_i M9;simp only[p7,d7]at h;exact ih (h.resolve_left M9)
theorem iA {θ:List (Id×Id)}{q o:Id}(h:lkI θ q=some o):(q,o)∈θ:=by
 induction θ with
 | nil=>cases h
 | cons p l ih=>
  obtain⟨i,x⟩:=p;rw[vm]at h;split at h
  ·rename_i e;injection h with h;subst e;subst h;simp
  ·exact z9 _ (ih h)
theorem FJ {θ:List (Id×Id)}(hn:(θ.map (·.2)).Nodup){q q' o:Id}(h:(q,o)∈θ)(h':(q',o)∈θ):q=q':=by
 induction θ with
 | nil=>cases h
 | cons p l ih=>
  simp only[p7,F2]at hn;rcases d7.1 h with e|h1
  ·rcases d7.1 h' with e'|Um
   ·rw[<-e]at e';injection e' with e';exact e'.symm
   ·exact absurd (n9.2 ⟨_,Um,by rw[<-e]⟩) hn.1
  ·rcases d7.1 h' with e'|Um
   ·exact absurd (n9.2 ⟨_,h1,by rw[<-e']⟩) hn.1
   ·exact ih hn.2 h1 Um
theorem relC.congr {H':Id->Option AO}{θ:List (Id×Id)}{bw:List Id}{x y:AC}(hH:∀o∈bw,H' o=H o)(h:relC H θ bw x y):relC H' θ bw x y:=by
 rcases h with h|h|h|h|h|rfl|⟨t,rfl,h3,h4⟩
 ·exact .inl h
 ·exact .inr (.inl h)
 ·exact .inr (.inr (.inl h))
 ·exact .inr (.inr (.inr (.inl h)))
 ·exact .inr (.inr (.inr (.inr (.inl h))))
 ·exact .inr (.inr (.inr (.inr (.inr (.inl rfl)))))
 ·exact .inr (.inr (.inr (.inr (.inr (.inr ⟨t,rfl,lq (fun o ho=>hH o (h4 o ho)) h3,h4⟩)))))
theorem relCs.congr {H':Id->Option AO}{θ:List (Id×Id)}{bw:List Id}(hH:∀o∈bw,H' o=H o):∀{xs ys:List AC},relCs H θ bw xs ys->relCs H' θ bw xs ys
 | [],[],_=>trivial
 | _::_,_::_,h=>⟨h.1.congr hH,relCs.congr hH h.2⟩
 | [],_::_,h=>h.elim
 | _::_,[],h=>h.elim
theorem relV.congr {H':Id->Option AO}{θ:List (Id×Id)}{bw:List Id}(hH:∀o∈bw,H' o=H o){x y:AV}(h:relV H θ bw x y):relV H' θ bw x y:=by
 unfold relV at h⊢;split at h
 ·exact relC.congr hH h
 ·exact relCs.congr hH h
 ·exact h.elim
theorem relVs.congr {H':Id->Option AO}{θ:List (Id×Id)}{bw:List Id}(hH:∀o∈bw,H' o=H o):∀{xs ys:List AV},relVs H θ bw xs ys->relVs H' θ bw xs ys
 | [],[],_=>trivial
 | _::_,_::_,h=>⟨h.1.congr hH,relVs.congr hH h.2⟩
 | [],_::_,h=>h.elim
 | _::_,[],h=>h.elim
theorem relO.congr {H':Id->Option AO}{θ:List (Id×Id)}{bw:List Id}(hH:∀o∈bw,H' o=H o){x y:AO}(h:relO H θ bw x y):relO H' θ bw x y:=by
 rcases h with⟨cs,ds,rfl,rfl,h⟩|h
 ·exact .inl ⟨cs,ds,rfl,rfl,h.congr hH⟩
 ·exact .inr h
def JV (ρ:Rho)(θ:List (Id×Id))(al:Nat->Prop):Rho:=⟨fun q=>match lkI θ q with|some o=>ρ o|none=> .tuple #[],fun q c=>match lkI θ q with|some o=>ρ.fp o c|none=>False,al⟩
theorem eY {θ:List (Id×Id)}{al:Nat->Prop}{q o:Id}(h:lkI θ q=some o):JV ρ θ al q=ρ o:=by show(match lkI θ q with|some o=>ρ o|none=> .tuple #[])=ρ o;rw[h]
theorem Fe {θ:List (Id×Id)}{al:Nat->Prop}{q o:Id}(h:lkI θ q=some o)(c:Nat):(JV ρ θ al).fp q c↔ρ.fp o c:=by show(match lkI θ q with|some o=>ρ.fp o c|none=>False)↔_;rw[h]
theorem kK {θ:List (Id×Id)}{al:Nat->Prop}{q o:Id}(h:lkI θ q=some o)(b:Nat):Own (JV ρ θ al) q b↔Own ρ o b:=by unfold Own;rw[eY h,Fe h]
structure Bound (s:F_) (θ:List (Id×Id)) (bw:List Id) (h0:List (Id×AO)):Prop where
 vals:(θ.map (·.2)).Nodup
 keys:∀p∈θ,p.1∈h0.map (·.1)/\p.2∉bw
 obj:∀p∈h0,∃o x,lkI θ p.1=some o/\s.H o=some x/\relO s.H θ bw x p.2
theorem Bound.get {θ:List (Id×Id)}{bw:List Id}{h0:List (Id×AO)}(hb:Bound s θ bw h0){q o:Id}(h:lkI θ q=some o):∃x,s.H o=some x:=by obtain⟨h1,_⟩:=hb.keys _ (iA h);obtain⟨p,hp,e⟩:=n9.1 h1;obtain⟨o',x,g1,g2,_⟩:=hb.obj p hp;simp only at e;rw[e,h]at g1;injection g1 with g1;exact⟨x,by rw[g1];exact g2⟩
theorem Bound.inj {θ:List (Id×Id)}{bw:List Id}{h0:List (Id×AO)}(hb:Bound s θ bw h0){q q' o:Id}(h:lkI θ q=some o)(h':lkI θ q'=some o):q=q':=FJ hb.vals (iA h) (iA h')
def alC (ρ:Rho)(s:F_)(w:World)(θ:List (Id×Id))(bw:List Id)(b:Nat):Prop:=
 okB ρ s.H w b\/(∃o x,o∈bw/\s.H o=some x/\Own ρ o b)\/(∃q o x,lkI θ q=some o/\s.H o=some x/\Own ρ o b)\/w.heap.size<=b
abbrev lO (ρ:Rho)(s:F_)(w:World)(θ:List (Id×Id))(bw:List Id):Rho:=JV ρ θ (alC ρ s w θ bw)
theorem zg {θ:List (Id×Id)}{bw:List Id}{h0:List (Id×AO)}(hb:Bound s θ bw h0){b:Nat}(h:okB ρ s.H w b):okB (lO ρ s w θ bw) (lkH h0) w b:=by refine⟨⟨h.1.1,.inl h⟩,fun q y hq ho=>?_⟩;obtain⟨o,x,g1,g2,_⟩:=hb.obj _ (iy hq);rw[kK g1]at ho;exact h.2 o x g2 ho
theorem IY (hc:Conc N B M w0 ρ s a w){θ:List (Id×Id)}{bw:List Id}{h0:List (Id×AO)}(hb:Bound s θ bw h0){b:Nat}{o:Id}{x:AO}(h1:o∈bw)(h2:s.H o=some x)(h3:Own ρ o b):okB (lO ρ s w θ bw) (lkH h0) w b:=by refine⟨⟨(hc.rng o x b h2 h3).1,.inr (.inl ⟨o,x,h1,h2,h3⟩)⟩,fun q y hq ho=>?_⟩;obtain⟨o',x',g1,g2,_⟩:=hb.obj _ (iy hq);rw[kK g1]at ho;have:=(hb.keys _ (iA g1)).2;exact hc.sep o o' x x' b h2 g2 (fun e=>this (e▸h1)) h3 ho
theorem Ey (hc:Conc N B M w0 ρ s a w){θ:List (Id×Id)}{bw:List Id}{h0:List (Id×AO)}(hb:Bound s θ bw h0){B':Nat}{v:Value}{x y:AC}(h:relC s.H θ bw x y)(hv:RC B ρ w (okB ρ s.H w) v x):RC B' (lO ρ s w θ bw) w (okB (lO ρ s w θ bw) (lkH h0) w) v y:=by
 rcases h with⟨o,q,rfl,rfl,h⟩|⟨o,q,n,rfl,rfl,h⟩|⟨rfl,rfl⟩|⟨n,m,rfl,rfl⟩|⟨o,q,rfl,rfl,h⟩|rfl|⟨t,rfl,h3,h4⟩
 ·rw[RC,eY h];exact hv
 ·rw[RC,eY h];exact hv
 ·exact hv
 ·exact hv
 ·rw[RC,eY h];exact hv
 ·exact⟨RC.one hv,RC.cells1 hv⟩
 ·exact jI hc (fun b Nf=>zg hb Nf) (fun q hq x b hx ho=>IY hc hb (h4 q hq) hx ho) hv h3
theorem vg (hc:Conc N B M w0 ρ s a w){θ:List (Id×Id)}{bw:List Id}{h0:List (Id×AO)}(hb:Bound s θ bw h0){B':Nat}:∀{vs:List Value} {xs ys:List AC},relCs s.H θ bw xs ys->RCs B ρ w (okB ρ s.H w) vs xs->RCs B' (lO ρ s w θ bw) w (okB (lO ρ s w θ bw) (lkH h0) w) vs ys
 | [],[],[],_,_=>trivial
 | _::_,_::_,_::_,h,hv=>⟨Ey hc hb h.1 hv.1,vg hc hb h.2 hv.2⟩
 | [],_::_,_,_,hv=>hv.elim
 | _::_,[],_,_,hv=>hv.elim
 | [],[],_::_,h,_=>h.elim
 | _::_,_::_,[],h,_=>h.elim
theorem JG (hc:Conc N B M w0 ρ s a w){θ:List (Id×Id)}{bw:List Id}{h0:List (Id×AO)}(hb:Bound s θ bw h0){B':Nat}{v:Value}{x y:AV}(h:relV s.H θ bw x y)(hv:RV B ρ w (okB ρ s.H w) v x):RV B' (lO ρ s w θ bw) w (okB (lO ρ s w θ bw) (lkH h0) w) v y:=by
 unfold relV at h;split at h
 ·exact Ey hc hb h hv
 ·obtain⟨us,e,hv⟩:=hv;exact⟨us,e,vg hc hb h hv⟩
 ·exact h.elim
theorem Bk (hc:Conc N B M w0 ρ s a w){θ:List (Id×Id)}{bw:List Id}{h0:List (Id×AO)}(hb:Bound s θ bw h0){B':Nat}:∀{xs:List Operand} {ys:List AV},relVs s.H θ bw (xs.map ev) ys->(∀x∈xs,evL s.L x=ev x)->RVs B' (lO ρ s w θ bw) w (okB (lO ρ s w θ bw) (lkH h0) w) (xs.map a.eval) ys
 | [],[],_,_=>trivial
 | x::xs,y::ys,h,hx=>by
  refine⟨JG hc hb h.1 ?_,Bk hc hb h.2 fun z hz=>hx z (by simp[hz])⟩;have:=(hc.eval x).1
  rwa [hx x s_]at this
 | [],_::_,h,_=>h.elim
 | _::_,[],h,_=>h.elim
theorem Kf (hc:Conc N B M w0 ρ s a w){θ:List (Id×Id)}{bw:List Id}{h0:List (Id×AO)}(hb:Bound s θ bw h0){B':Nat}{q o:Id}{x y:AO}(hq:lkI θ q=some o)(h:relO s.H θ bw x y)(hv:RO B ρ w (okB ρ s.H w) o x):RO B' (lO ρ s w θ bw) w (okB (lO ρ s w θ bw) (lkH h0) w) q y:=by
 rcases h with⟨cs,ds,rfl,rfl,h⟩|⟨fr,sz,rows,rfl,rfl⟩|⟨sz,rows,rfl,rfl⟩|⟨kk,es,rfl,rfl⟩
 ·obtain⟨b,cur,t,fz,h1,h2,h3,h4⟩:=hv;exact⟨b,cur,t,fz,by rw[eY hq];exact h1,h2,h3,vg hc hb h h4⟩
 ·obtain⟨hu,hv⟩:=hv;refine⟨hu,?_⟩;rcases hv with hv|⟨b,cap,cur,e,fz,h1,h2,h3,h4,h5,h6,h7,h8⟩
  ·exact .inl (by rw[eY hq];exact hv)
  ·exact .inr ⟨b,cap,cur,e,fz,by rw[eY hq];exact h1,h2,h3,h4,h5,h6,h7.keep (fun c M6=>⟨rfl,zg hb M6.1,fun e=>by cases e⟩),fun e=>by cases e⟩
 ·obtain⟨hu,hv⟩:=hv;refine⟨hu,?_⟩;rcases hv with⟨hv,h2⟩|⟨b,cap,cur,e,fz,Fp,h1,h2,h3,h4,h5,h6,h7,h8,h9⟩
  ·exact .inl ⟨by rw[eY hq];exact hv,h2⟩
  ·exact .inr ⟨b,cap,cur,e,fz,Fp,by rw[eY hq];exact h1,h2,h3,h4,h5,h6,fun p c M6=>⟨(Fe hq c).2 (h7 p c M6).1,(h7 p c M6).2⟩,h8,h9.keep (fun c M6=>⟨rfl,zg hb M6⟩) (fun p c M6=>⟨rfl,M6⟩) fun _ _ _ e=>by cases e⟩
 ·obtain⟨b,ents,clock,h1,h2,h3⟩:=hv;exact⟨b,ents,clock,by rw[eY hq];exact h1,h2,h3⟩
theorem Gy (hc:Conc N B M w0 ρ s a w){θ:List (Id×Id)}{bw:List Id}{h0:List (Id×AO)}(hb:Bound s θ bw h0):Lies w.heap.size (lO ρ s w θ bw) w h0:=by
 refine⟨fun q y hq=>?_,fun q q' y y' b hq Nb M9 ho Nr=>?_,fun q y b hq ho=>?_⟩
 ·obtain⟨o,x,g1,g2,g3⟩:=hb.obj _ (iy hq);exact Kf hc hb g1 g3 (hc.obj o x g2)
 ·obtain⟨o,x,g1,g2,_⟩:=hb.obj _ (iy hq);obtain⟨o',x',QQ,Rx,_⟩:=hb.obj _ (iy Nb);rw[kK g1]at ho;rw[kK QQ]at Nr;exact hc.sep o o' x x' b g2 Rx (fun e=>M9 (hb.inj g1 (by rw[e];exact QQ))) ho Nr
 ·obtain⟨o,x,g1,g2,_⟩:=hb.obj _ (iy hq);rw[kK g1]at ho;exact(hc.rng o x b g2 ho).1
theorem ou {θ:List (Id×Id)}{bw:List Id}{h0:List (Id×AO)}(hb:Bound s θ bw h0){b:Nat}(h:Ms (lO ρ s w θ bw) h0 b):∃q o x,lkI θ q=some o/\s.H o=some x/\Own ρ o b:=by obtain⟨q,y,hq,ho⟩:=h;obtain⟨o,x,g1,g2,_⟩:=hb.obj _ (iy hq);rw[kK g1]at ho;exact⟨q,o,x,g1,g2,ho⟩
def kZ (ρ ρ2:Rho)(θ:List (Id×Id))(nm:Nat):Rho:=
 ⟨fun o=>if o.1=nm then ρ2 (1,o.2)else ρ o,fun o c=>(o.1=nm/\ρ2.fp (1,o.2) c)\/(o.1≠nm/\((∃q,lkI θ q=some o/\ρ2.fp q c)\/((¬∃q,lkI θ q=some o)/\ρ.fp o c))),ρ.al⟩
structure Back (B:Nat) (ρ ρ2:Rho) (s:F_) (w w':World) (θ:List (Id×Id)) (bw:List Id) (nm:Nat) (h0 h1:List (Id×AO)):Prop where
 bound:Bound s θ bw h0
 h0n:∀p∈h0,p.1.1=0
 h1n:(h1.map (·.1)).Nodup
 h1k:∀p∈h1,okN h0 p.1=true/\vU p.2=true/\∀id∈p.2.ids,okN h0 id=true
 new:¬s.U nm
 used:∀o x,s.H o=some x->s.U o.1
 keep:∀o,(lkH h0 o).isSome=true->ρ2 o=lO ρ s w θ bw o
 al:ρ2.al=(lO ρ s w θ bw).al
 lies:Lies w.heap.size ρ2 w' h1
 own:∀o x b,lkH h1 o=some x->Own ρ2 o b->w.heap.size<=b\/Ms (lO ρ s w θ bw) h0 b
 size:w.heap.size<=w'.heap.size
 base:B<=w.heap.size
section
variable {ρ2:Rho} {θ:List (Id×Id)} {bw:List Id} {nm:Nat} {h0 h1:List (Id×AO)}
theorem Back.name (hk:Back B ρ ρ2 s w w' θ bw nm h0 h1){q:Id}(hq:okN h0 q=true):(∃o x,lkI θ q=some o/\s.H o=some x/\o.1≠nm/\reI θ nm q=o)\/(lkI θ q=none/\q.1=1/\reI θ nm q=(nm,q.2)):=by
 cases h:lkI θ q with
 | some o=>
  obtain⟨x,hx⟩:=hk.bound.get h
  exact .inl ⟨o,x,rfl,hx,fun e=>hk.new (by rw[<-e];exact hk.used o x hx),by unfold reI;rw[h]⟩
 | none=>
  right;refine⟨rfl,?_,by unfold reI;rw[h]⟩;unfold okN at hq;rw[w5,memI_iff]at hq;rcases hq with hq|hq
  ·obtain⟨p,hp,e⟩:=n9.1 hq;obtain⟨o,x,g,_⟩:=hk.bound.obj p hp;rw[e,h]at g;cases g
  ·simpa using hq
theorem Back.val (hk:Back B ρ ρ2 s w w' θ bw nm h0 h1){q:Id}(hq:okN h0 q=true):kZ ρ ρ2 θ nm (reI θ nm q)=ρ2 q:=by
 rcases hk.name hq with⟨o,x,g1,g2,g3,g4⟩|⟨g1,g2,g3⟩
 ·rw[g4];show(if o.1=nm then _ else ρ o)=_;rw[b8 g3,hk.keep q (DK (hk.bound.keys _ (iA g1)).1),eY g1]
 ·rw[g3];show(if nm=nm then ρ2 (1,q.2)else _)=_;rw[c7 rfl,<-g2]
theorem Back.fp (hk:Back B ρ ρ2 s w w' θ bw nm h0 h1){q:Id}(hq:okN h0 q=true)(c:Nat):(kZ ρ ρ2 θ nm).fp (reI θ nm q) c↔ρ2.fp q c:=by
 rcases hk.name hq with⟨o,x,g1,g2,g3,g4⟩|⟨g1,g2,g3⟩
 ·rw[g4];constructor
  ·rintro(⟨e,_⟩|⟨_,⟨q',e1,e2⟩|⟨e1,_⟩⟩)
   ·exact absurd e g3
   ·rw[hk.bound.inj g1 e1];exact e2
   ·exact absurd ⟨q,g1⟩ e1
  ·exact fun h=> .inr ⟨g3,.inl ⟨q,g1,h⟩⟩
 ·rw[g3];constructor
  ·rintro(⟨_,h⟩|⟨e,_⟩)
   ·rw[<-g2]at h;exact h
   ·exact absurd rfl e
  ·intro h;left;refine⟨rfl,?_⟩;rw[<-g2];exact h
theorem Back.owned (hk:Back B ρ ρ2 s w w' θ bw nm h0 h1){q:Id}(hq:okN h0 q=true)(c:Nat):Own (kZ ρ ρ2 θ nm) (reI θ nm q) c↔Own ρ2 q c:=by unfold Own;rw[hk.val hq,hk.fp hq]
theorem Back.inj (hk:Back B ρ ρ2 s w w' θ bw nm h0 h1){q q':Id}(hq:okN h0 q=true)(Nb:okN h0 q'=true)(e:reI θ nm q=reI θ nm q'):q=q':=by
 rcases hk.name hq with⟨o,x,g1,g2,g3,g4⟩|⟨g1,g2,g3⟩<;>rcases hk.name Nb with⟨o',x',k1,k2,k3,k4⟩|⟨k1,k2,k3⟩
 ·rw[g4,k4]at e;subst e;exact hk.bound.inj g1 k1
 ·rw[g4,k3]at e;subst e;exact absurd rfl g3
 ·rw[g3,k4]at e;subst e;exact absurd rfl k3
 ·rw[g3,k3]at e;have:q.2=q'.2:=congrArg (·.2) e;exact Prod.ext (g2.trans k2.symm) this
theorem Back.oldv (hk:Back B ρ ρ2 s w w' θ bw nm h0 h1){o:Id}(ho:s.U o.1):kZ ρ ρ2 θ nm o=ρ o:=b8 fun e:o.1=nm=>hk.new aaV
theorem Back.oldf (hk:Back B ρ ρ2 s w w' θ bw nm h0 h1){o:Id}(ho:s.U o.1)(hn:o∉θ.map (·.2))(c:Nat):(kZ ρ ρ2 θ nm).fp o c↔ρ.fp o c:=by
 have h1:o.1≠nm:=fun e=>hk.new aaV;have h2:¬∃q,lkI θ q=some o:=fun⟨q,h⟩=>hn (n9.2 ⟨_,iA h,rfl⟩);constructor
 ·rintro(⟨e,_⟩|⟨_,h|⟨_,h⟩⟩)
  ·exact absurd e h1
  ·exact absurd (h.elim fun q h=>⟨q,h.1⟩) h2
  ·exact h
 ·exact fun h=> .inr ⟨h1,.inr ⟨h2,h⟩⟩
theorem EE (H:Id->Option AO){o:Id}{x:AO}(h:bW H (usG θ nm h1) o=some x):(∃q y,(q,y)∈h1/\o=reI θ nm q/\x=y.re θ nm)\/(o∉(θ.map (·.2))++h1.map (fun p=>reI θ nm p.1)/\H o=some x):=by
 rw[usG,nq]at h;have h':bW (bW H (θ.map fun p=>(p.2,none))) ((h1.map fun p=>(reI θ nm p.1,p.2.re θ nm)).map fun p=>(p.1,some p.2)) o=some x:=by rw[G7];exact h
 rcases rH _ _ o x h' with h2|⟨h2,h3⟩
 ·obtain⟨p,hp,e⟩:=n9.1 h2;injection e with e1 e2;exact .inl ⟨p.1,p.2,hp,e1.symm,e2.symm⟩
 ·have XY:o∉h1.map fun p=>reI θ nm p.1:=by simpa [G7]using h2
  have nonek:∀(l:List Id) (H:Id->Option AO),bW H (l.map fun r=>(r,none)) o=some x->o∉l/\H o=some x:=by
   intro l
   induction l with
   | nil=>intro H h;exact⟨s_,h⟩
   | cons r l ih=>
    intro H h;simp only[p7,bW]at h;obtain⟨g1,g2⟩:=ih _ h;by_cases e:o=r
    ·rw[c7 e]at g2;cases g2
    ·rw[b8 e]at g2;exact⟨by simp[e,g1],g2⟩
  have P2:bW H ((θ.map (·.2)).map fun r=>(r,none)) o=some x:=by rw[G7];exact h3
  obtain⟨g1,g2⟩:=nonek _ _ P2;refine .inr ⟨fun hm=>?_,g2⟩;rcases f0.1 hm with hm|hm
  ·exact g1 hm
  ·exact XY hm
theorem Back.ok (hk:Back B ρ ρ2 s w w' θ bw nm h0 h1)(hc:Conc N B M w0 ρ s a w){b:Nat}(hb:okB ρ2 (lkH h1) w' b)(hf:bw=[]\/w.heap.size<=b):okB (kZ ρ ρ2 θ nm) (bW s.H (usG θ nm h1)) w' b:=by
 have NA:alC ρ s w θ bw b:=by have:=hb.1.2;rw[hk.al]at this;exact this
 have QO:w.heap.size<=b->ρ.al b:=fun h=>hc.alw b (.inl (v6 hk.base h))
 have Sv:(∃o x,o∈bw/\s.H o=some x/\Own ρ o b)->w.heap.size<=b:=fun⟨o,x,h1,h2,h3⟩=>by
  rcases hf with hf|hf
  ·rw[hf]at h1;cases h1
  ·exact hf
 refine⟨⟨hb.1.1,?_⟩,fun o x ho he=>?_⟩
 ·show ρ.al b;rcases NA with h|h|⟨q,o,x,_,h2,h3⟩|h
  ·exact h.1.2
  ·exact QO (Sv h)
  ·exact hc.alw b (hc.rng o x b h2 h3).2
  ·exact QO h
 ·rcases EE s.H ho with⟨q,y,g1,rfl,_⟩|⟨g1,g2⟩
  ·rw[hk.owned (hk.h1k _ g1).1]at he;exact hb.2 q y (vf hk.h1n g1) he
  ·have hU:=hk.used o x g2
   have NV:Own ρ o b:=by unfold Own at he⊢;rw[hk.oldv hU,hk.oldf hU (fun h=>g1 aaM)]at he;exact he
   have M3:=(hc.rng o x b g2 NV).1;rcases NA with h|h|⟨q,o',x',h1,h2,h3⟩|h
   ·exact h.2 o x g2 NV
   ·have:=Sv h;omega
   ·exact hc.sep o' o x' x b h2 g2 (fun e=>g1 (by rw[<-e];exact f0.2 (.inl (n9.2 ⟨_,iA h1,rfl⟩)))) h3 NV
   ·omega
theorem Back.cell (hk:Back B ρ ρ2 s w w' θ bw nm h0 h1)(hc:Conc N B M w0 ρ s a w){v:Value}{c:AC}(hv:RC w.heap.size ρ2 w' (okB ρ2 (lkH h1) w') v c)(hf:bw=[]\/Kn c=true)(hi:∀id∈c.ids,okN h0 id=true):RC B (kZ ρ ρ2 θ nm) w' (okB (kZ ρ ρ2 θ nm) (bW s.H (usG θ nm h1)) w') v (c.re θ nm):=by
 cases c with
 | t x=>
  rcases hf with hf|hf
  ·exact RT.keep hv fun b hb=>⟨rfl,hk.ok hc hb (.inl hf)⟩
  ·cases x with
   | lst=>simp[Kn]at hf
   | int=>cases hv;exact RT.int _ _
   | bool=>cases hv;exact RT.bool _
   | str=>cases hv;exact RT.str _
 | f x=>exact RT.keep hv fun b hb=>⟨rfl,hk.ok hc hb.1 (.inr (hb.2 rfl)),fun _=>v6 hk.base (hb.2 rfl)⟩
 | nils n=>exact hv
 | nilp=>exact hv
 | opq=>exact hv
 | mpv q=>
  have:=hk.val (hi q aam);show RC _ _ _ _ v (.mpv (reI θ nm q))
  rw[RC,this];exact hv
 | own q=>
  have:=hk.val (hi q aam);show RC _ _ _ _ v (.own (reI θ nm q))
  rw[RC,this];exact hv
 | sub q k=>
  have:=hk.val (hi q aam);show RC _ _ _ _ v (.sub (reI θ nm q) k)
  rw[RC,this];exact hv
 | ptr q k=>have:=hk.val (hi q aam);show RC _ _ _ _ v (.ptr (reI θ nm q) k);rw[RC,this];exact hv
theorem Back.cells (hk:Back B ρ ρ2 s w w' θ bw nm h0 h1)(hc:Conc N B M w0 ρ s a w):∀{vs:List Value} {cs:List AC},RCs w.heap.size ρ2 w' (okB ρ2 (lkH h1) w') vs cs->(bw=[]\/wc cs=true)->(∀id∈cs.flatMap AC.ids,okN h0 id=true)->
  RCs B (kZ ρ ρ2 θ nm) w' (okB (kZ ρ ρ2 θ nm) (bW s.H (usG θ nm h1)) w') vs (zj θ nm cs)
 | [],[],_,_,_=>trivial
 | v::vs,c::cs,h,hf,hi=>by
  refine⟨hk.cell hc h.1 (hf.imp id fun h=>?_) fun id M7=>hi id (by simp[M7]),hk.cells hc h.2 (hf.imp id fun h=>?_) fun id M7=>hi id (by simp only[u9,f0];exact .inr M7)⟩
  ·rw[wc,b9]at h;exact h.1
  ·rw[wc,b9]at h;exact h.2
 | [],_::_,h,_,_=>h.elim
 | _::_,[],h,_,_=>h.elim
theorem Back.row (hk:Back B ρ ρ2 s w w' θ bw nm h0 h1)(hc:Conc N B M w0 ρ s a w){v:Value}{x:AR}(hv:RR w.heap.size ρ2 w' (okB ρ2 (lkH h1) w') v x)(hf:bw=[]\/Ld x=true)(hi:∀id∈x.ids,okN h0 id=true):RR B (kZ ρ ρ2 θ nm) w' (okB (kZ ρ ρ2 θ nm) (bW s.H (usG θ nm h1)) w') v (x.re θ nm):=by cases x with|c x=>exact hk.cell hc hv hf hi|agg cs=>obtain⟨us,e,h⟩:=hv;exact⟨us,e,hk.cells hc h hf hi⟩
theorem Back.rows (hk:Back B ρ ρ2 s w w' θ bw nm h0 h1)(hc:Conc N B M w0 ρ s a w):∀{vs:List Value} {cs:List AR},RRs w.heap.size ρ2 w' (okB ρ2 (lkH h1) w') vs cs->(bw=[]\/Bz cs=true)->(∀id∈cs.flatMap AR.ids,okN h0 id=true)->
  RRs B (kZ ρ ρ2 θ nm) w' (okB (kZ ρ ρ2 θ nm) (bW s.H (usG θ nm h1)) w') vs (Gg θ nm cs)
 | [],[],_,_,_=>trivial
 | v::vs,c::cs,h,hf,hi=>by
  refine⟨hk.row hc h.1 (hf.imp id fun h=>?_) fun id M7=>hi id (by simp[M7]),hk.rows hc h.2 (hf.imp id fun h=>?_) fun id M7=>hi id (by simp only[u9,f0];exact .inr M7)⟩
  ·rw[Bz,b9]at h;exact h.1
  ·rw[Bz,b9]at h;exact h.2
 | [],_::_,h,_,_=>h.elim
 | _::_,[],h,_,_=>h.elim
theorem Back.value (hk:Back B ρ ρ2 s w w' θ bw nm h0 h1)(hc:Conc N B M w0 ρ s a w){v:Value}{x:AV}(hv:RV w.heap.size ρ2 w' (okB ρ2 (lkH h1) w') v x)(hf:bw=[]\/Ia x=true)(hi:∀id∈x.ids,okN h0 id=true):RV B (kZ ρ ρ2 θ nm) w' (okB (kZ ρ ρ2 θ nm) (bW s.H (usG θ nm h1)) w') v (x.re θ nm):=by cases x with|r x=>exact hk.row hc hv hf hi|tup xs=>obtain⟨us,e,h⟩:=hv;exact⟨us,e,hk.rows hc h hf hi⟩|el=>trivial|ro=>trivial|unk=>trivial
theorem Hx {l:List (Id×AO)}(h:uM l=true):∀p∈l,(∃cs,p.2= .box cs/\wc cs=true)\/(∃sz rows,p.2= .arr true sz rows)\/(∃kk es,p.2= .mp kk es)\/∃sz rs,p.2= .dar sz (aL rs) none:=by
 induction l with
 | nil=>simp
 | cons p l ih=>
  obtain⟨q,y⟩:=p;intro p' P1;unfold uM at h;split at h
  ·simp at *
  ·rename_i Qu;injection Qu with e1 e2;injection e1 with e3 e4;rw[b9]at h;rcases d7.1 P1 with rfl|P1
   ·obtain⟨rs,e⟩:=Kk h.2;subst e;exact .inr (.inr (.inr ⟨_,_,e4⟩))
   ·subst e2;exact ih h.1 p' P1
  ·rename_i Qu;injection Qu with e1 e2;injection e1 with e3 e4;rw[b9]at h;rcases d7.1 P1 with rfl|P1
   ·exact .inl ⟨_,e4,h.1⟩
   ·subst e2;exact ih h.2 p' P1
  ·rename_i Qu;injection Qu with e1 e2;injection e1 with e3 e4;rcases d7.1 P1 with rfl|P1
   ·exact .inr (.inl ⟨_,_,e4⟩)
   ·subst e2;exact ih h p' P1
  ·rename_i Qu;injection Qu with e1 e2;injection e1 with e3 e4;rcases d7.1 P1 with rfl|P1
   ·exact .inr (.inr (.inl ⟨_,_,e4⟩))
   ·subst e2;exact ih h p' P1
  ·cases h
theorem Back.object (hk:Back B ρ ρ2 s w w' θ bw nm h0 h1)(hc:Conc N B M w0 ρ s a w){q:Id}{y:AO}(hq:(q,y)∈h1)(hf:bw=[]\/uM h1=true):RO B (kZ ρ ρ2 θ nm) w' (okB (kZ ρ ρ2 θ nm) (bW s.H (usG θ nm h1)) w') (reI θ nm q) (y.re θ nm):=by
 have hv:=hk.lies.obj q y (vf hk.h1n hq);obtain⟨hn,hh,hi⟩:=hk.h1k _ hq;have N5:=hk.val hn;have Ov:=hk.fp hn;have O7:=hf.imp id fun h=>Hx h _ hq
 cases y with
 | arr fr sz rows=>
  obtain⟨hu,hv⟩:=hv;refine⟨hu,?_⟩;rcases hv with⟨k1,k2⟩|⟨b,cap,cur,e',fz,k1,k2,k3,k4,k5,k6,k7,k8⟩
  ·exact .inl ⟨by rw[N5];exact k1,k2⟩
  ·refine .inr ⟨b,cap,cur,e',fz,by rw[N5];exact k1,k2,k3,k4,k5,k6,k7.keep (fun c M6=>⟨rfl,hk.ok hc M6.1 ?_,fun e=>v6 hk.base (M6.2 e)⟩),fun e=>v6 hk.base (k8 e)⟩;rcases O7 with O7|⟨cs,e,_⟩|⟨Nn,rows',e⟩|⟨kk,es,e⟩|⟨Nn,rs,e⟩
   ·exact .inl O7
   ·cases e
   ·injection e with e;subst e;exact .inr (M6.2 rfl)
   ·cases e
   ·cases e
 | box cells=>
  obtain⟨b,cur,t,fz,k1,k2,k3,k4⟩:=hv;refine⟨b,cur,t,fz,by rw[N5];exact k1,k2,k3,hk.cells hc k4 ?_ hi⟩;rcases O7 with O7|⟨cs,e,h⟩|⟨Nn,rows',e⟩|⟨kk,es,e⟩|⟨Nn,rs,e⟩
  ·exact .inl O7
  ·injection e with e;subst e;exact .inr h
  ·cases e
  ·cases e
  ·cases e
 | mp kk es=>
  obtain⟨b,ents,clock,k1,k2,k3⟩:=hv
  exact⟨b,ents,clock,by rw[N5];exact k1,k2,k3⟩
 | dar sz rows hole=>
  have P0:bw=[]\/(hole=none->∃rs,rows=aL rs):=by
   rcases O7 with O7|⟨cs,e,_⟩|⟨Nn,rows',e⟩|⟨kk,es,e⟩|⟨Nn,rs,e⟩
   ·exact .inl O7
   ·cases e
   ·cases e
   ·cases e
   ·injection e with e1 e2;exact .inr fun _=>⟨rs,e2⟩
  cases hole with
  | some p=>obtain⟨i,off,n⟩:=p;simp[vU]at hh
  | none=>
   obtain⟨hu,hv⟩:=hv;refine⟨hu,?_⟩;rcases hv with⟨k1,k2⟩|⟨b,cap,cur,e',fz,Fp,k1,k2,k3,k4,k5,k6,k7,k8,k9⟩
   ·exact .inl ⟨by rw[N5];exact k1,k2⟩
   ·exact .inr ⟨b,cap,cur,e',fz,Fp,by rw[N5];exact k1,k2,k3,k4,k5,k6,fun p c M6=>⟨(Ov c).2 (k7 p c M6).1,(k7 p c M6).2⟩,k8,by
     rcases P0 with P0|P0
     ·exact k9.keep (fun c M6=>⟨rfl,hk.ok hc M6 (.inl P0)⟩) (fun p c M6=>⟨rfl,M6⟩) fun _ _ _ e=>by cases e
     ·obtain⟨rs,e⟩:=P0 rfl;refine⟨k9.1,fun p v c h1 h2=>?_⟩;have h3:=k9.2 p v c h1 h2;simp only[cA]at h3⊢;have hm:=c9 h2;rw[e]at hm;obtain⟨r,hr,VM⟩:=E7.1 hm;obtain⟨tr,_,rfl⟩:=n9.1 hr;obtain⟨x,_,rfl⟩:=n9.1 VM
      exact h3⟩
theorem vu {cs:List AC}{id:Id}(h:id∈(zj θ nm cs).flatMap AC.ids):∃q∈cs.flatMap AC.ids,id=reI θ nm q:=by
 induction cs with
 | nil=>simp[zj]at h
 | cons c cs ih=>
  simp only[zj,u9,f0]at h⊢;rcases h with h|h
  ·cases c<;>simp only[AC.re,AC.ids,t8,l9]at h
   all_goals exact⟨_,.inl (t8.2 rfl),h⟩
  ·obtain⟨q,h1,h2⟩:=ih h;exact⟨q,.inr h1,h2⟩
theorem Fd {x:AR}{id:Id}(h:id∈(x.re θ nm).ids):∃q∈x.ids,id=reI θ nm q:=by
 cases x with
 | c c=>
  have:id∈(zj θ nm [c]).flatMap AC.ids:=by simpa [zj,AR.re,AR.ids]using h
  obtain⟨q,h1,h2⟩:=vu this
  exact⟨q,by simpa [AR.ids]using h1,h2⟩
 | agg cs=>exact vu h
theorem IM {cs:List AR}{id:Id}(h:id∈(Gg θ nm cs).flatMap AR.ids):∃q∈cs.flatMap AR.ids,id=reI θ nm q:=by
 induction cs with
 | nil=>simp[Gg]at h
 | cons c cs ih=>
  simp only[Gg,u9,f0]at h⊢;rcases h with h|h
  ·obtain⟨q,h1,h2⟩:=Fd h;exact⟨q,.inl h1,h2⟩
  ·obtain⟨q,h1,h2⟩:=ih h;exact⟨q,.inr h1,h2⟩
theorem Ka {x:AV}{id:Id}(h:id∈(x.re θ nm).ids):∃q∈x.ids,id=reI θ nm q:=by cases x with|r x=>exact Fd h|tup xs=>exact IM h|el=>simp[AV.re,AV.ids]at h|ro=>simp[AV.re,AV.ids]at h|unk=>simp[AV.re,AV.ids]at h
theorem Ji {x:AO}(hn:vU x=true){id:Id}(h:id∈(x.re θ nm).ids):∃q∈x.ids,id=reI θ nm q:=by
 cases x with
 | arr=>simp[AO.re,AO.ids]at h
 | mp=>simp[AO.re,AO.ids]at h
 | box cs=>exact vu h
 | dar sz rows hole=>cases hole with|none=>simp[AO.re,AO.ids]at h|some p=>obtain⟨i,off,n⟩:=p;simp[vU]at hn
theorem Back.usedN (hk:Back B ρ ρ2 s w w' θ bw nm h0 h1){q:Id}(hq:okN h0 q=true):s.U (reI θ nm q).1\/(reI θ nm q).1=nm:=by
 rcases hk.name hq with⟨o,x,g1,g2,g3,g4⟩|⟨g1,g2,g3⟩
 ·rw[g4];exact .inl (hk.used o x g2)
 ·rw[g3];exact .inr rfl
end
theorem tO {f:FuncId}{args:Array Operand}{argTypes:Array TypeId}{nm:Nat}(ho:o.op= .call {callee:= .value (.func f),args,argTypes})(h:IR P f nm (args.toList.map ev) H K):∃e,K e/\Good P o ev H e:=by
 obtain⟨xs,h0,r,h1,hs,h⟩:=h;obtain⟨θ1,bw1,h,_,_,QL⟩:=yj h;obtain⟨θ,bw,⟨U3,hK0⟩,X7,P0,hO⟩:=Ai h;have hv:=QL.mono X7 P0;rw[b9,b9]at U3;obtain⟨⟨hI,hJ⟩,PP⟩:=U3;simp only[okI,b9,o8,nodupI_iff,memI_iff,v2]at hI;obtain⟨⟨⟨⟨i1,i2⟩,i3⟩,i4⟩,i5⟩:=hI;simp only[okJ,b9,o8,nodupI_iff,H4]at hJ;obtain⟨⟨⟨j1,j2⟩,j3⟩,j4⟩:=hJ
 have Ug:bw=[]\/Ia r=true:=by
  rw[w5]at PP;rcases PP with g|g
  ·left;simpa using g
  ·right;rw[b9]at g;exact g.1
 have UH:bw=[]\/uM h1=true:=by
  rw[w5]at PP;rcases PP with g|g
  ·left;simpa using g
  ·right;rw[b9]at g;exact g.2
 refine⟨_,hK0,?_⟩;intro N B M w0 ρ s a w Q K' hc M1 hR hn hd hK;have Zg:∀o∈bw,s.H o=H o:=fun o h=>hR o aaM
 have hb:Bound s θ bw h0:=by
  refine⟨i1,fun p hp=>⟨(i4 p hp).1,fun hm=>?_⟩,fun p hp=>?_⟩
  ·have:=(i4 p hp).2;rw[memI_iff.2 hm]at this;cases this
  ·obtain⟨o,x,g1,g2,g3⟩:=hO p hp;refine⟨o,x,g1,?_,g3.congr Zg⟩;rw[hR o (f0.2 (.inl (n9.2 ⟨_,iA g1,rfl⟩)))];exact g2
 have OU:=Bk (h0:=h0) (B':=w.heap.size) hc hb (hv.congr Zg) (fun x hx=>M1 x aal)
 have Oc:=hs.2 w (args.map a.eval) (lO ρ s w θ bw) (by simpa using OU) (Gy hc hb) (fun b Nf=>by
  rcases Nf with Nf|Nf
  ·exact .inr (.inr (.inr Nf))
  ·exact .inr (.inr (.inl (ou hb Nf))))
 have M8:(execOp a.eval o).run P w= .ok (.enter f (args.map a.eval)) w:=by exact V108
 unfold Oper.wp;rw[M8];show Calls P f (args.map a.eval) w _;refine Oc.mono fun e w' ⟨v,ρ2,he,OP,QH,NA,X0,QJ,Nj⟩=>?_;subst he;have OE:=hn nm rfl
 have hk:Back B ρ ρ2 s w w' θ bw nm h0 h1:=by refine⟨hb,fun p hp=>by simpa using j4 p hp,j1,fun p hp=>?_,OE,fun o x ho=>(hc.usedH o x ho).1,QH,NA,QJ,Nj,OP.size,hc.base⟩;have:=j2 p hp;exact⟨this.1.1,this.1.2,this.2⟩
 show K' (a.put o.dst v) w';refine hK v w' (kZ ρ ρ2 θ nm) ?_
 have VH:∀o x,o∈(θ.map (·.2))++h1.map (fun p=>reI θ nm p.1)->bW s.H (usG θ nm h1) o=some x->∃q y,(q,y)∈h1/\o=reI θ nm q/\x=y.re θ nm:=fun o x hm hx=>by
  rcases EE s.H hx with g|⟨g,_⟩
  ·exact g
  ·exact absurd hm g
 have:=hc.step (Ms (lO ρ s w θ bw) h0) ((θ.map (·.2))++h1.map (fun p=>reI θ nm p.1)) (w':=w') (ρ':=kZ ρ ρ2 θ nm) (H':=bW s.H (usG θ nm h1)) (U':=fun n=>s.U n\/n=nm) (a':=a.put o.dst v) (L':=mE s.L o.dst (r.re θ nm))
  ⟨OP.os,OP.tape,OP.output,OP.size,OP.block⟩ (by rw[kY];exact hc.size) (by rw[ir];exact hc.defers)
  (fun o ho=>hk.oldv ho)
  (fun o x hm ho=>by
   funext c
   exact propext (hk.oldf (hc.usedH o x ho).1 (fun h=>hm aaM) c)) rfl
  (fun o hm=>by
   refine cE _ _ o fun h=>hm ?_;simp only[usG,u5,G7]at h
   exact h)
  (fun n hn=> .inl hn)
  (fun b Nf hM=>by
   obtain⟨q,o,x,g1,g2,g3⟩:=ou hb hM
   exact Nf.2 o x g2 g3)
  (fun o x b g1 g2 g3 hM=>by
   obtain⟨q,o',x',k1,k2,k3⟩:=ou hb hM
   exact hc.sep o o' x x' b g1 k2 (fun e=>g2 (by rw[e];exact f0.2 (.inl (n9.2 ⟨_,iA k1,rfl⟩)))) g3 k3)
  (fun b hB hnM hM=>by
   obtain⟨q,o',x',k1,k2,k3⟩:=ou hb hM;rcases(hc.rng o' x' b k2 k3).2 with g|g
   ·omega
   ·exact hnM g)
  (fun o x b g1 g2 g3=>by
   obtain⟨q,y,k1,rfl,rfl⟩:=VH o x g1 g2;rw[hk.owned (hk.h1k _ k1).1]at g3;have hl:=vf hk.h1n k1;refine⟨QJ.lt q y b hl g3,?_,?_⟩
   ·rcases Nj q y b hl g3 with g|g
    ·exact .inl (v6 hc.base g)
    ·obtain⟨q',o',x',m1,m2,m3⟩:=ou hb g;exact(hc.rng o' x' b m2 m3).2
   ·rcases Nj q y b hl g3 with g|g
    ·exact .inl g
    ·obtain⟨q',o',x',m1,m2,m3⟩:=ou hb g
     exact .inr ⟨o',x',m2,f0.2 (.inl (n9.2 ⟨_,iA m1,rfl⟩)),m3⟩)
  (fun o o' x x' b g1 QQ g2 Rx M9 g3 RP=>by
   obtain⟨q,y,k1,rfl,rfl⟩:=VH o x g1 g2;obtain⟨q',y',VZ,rfl,rfl⟩:=VH o' x' QQ Rx;rw[hk.owned (hk.h1k _ k1).1]at g3;rw[hk.owned (hk.h1k _ VZ).1]at RP
   exact QJ.sep q q' y y' b (vf hk.h1n k1) (vf hk.h1n VZ) (fun e=>M9 (by rw[e])) g3 RP)
  (fun _ o x g1 g2=>by
   obtain⟨q,y,k1,rfl,rfl⟩:=VH o x g1 g2;obtain⟨m1,m2,m3⟩:=hk.h1k _ k1;refine⟨hk.object hc k1 UH,hk.usedN m1,fun o' Nr=>?_⟩;obtain⟨q',e1,rfl⟩:=Ji m2 Nr
   exact hk.usedN (m3 q' e1))
  (fun _ t=>hc.slots hd (U':=fun n=>s.U n\/n=nm) (hk.value hc X0 Ug j3) (fun id M7=>by
   obtain⟨q',e1,rfl⟩:=Ka M7
   exact hk.usedN (j3 q' e1)) t)
 exact this.congr (fun _=>rfl) (fun _=>rfl) (fun n=>by simp[F_.app,eq_comm])
theorem wO {nm:Nat}(hΓ:Γ.chk P=true)(h:sem P Γ nm o ev H K):∃e,K e/\Good P o ev H e:=by
 unfold sem at h;split at h
 ·exact⟨_,h,uU (.inl aak)⟩
 ·exact⟨_,h,uU (.inr aak)⟩
 ·rename_i c x y ho;split at h
  ·rename_i t hc;have:=Dv (P:=P) (H:=H) ho hc
   cases t
   ·exact⟨_,h,this⟩
   ·exact⟨_,h,this⟩
  ·exact h.elim
 ·split at h
  ·rename_i ho _ _ _ _ hd hT;exact⟨_,h,AN hΓ hT hd ho⟩
  ·exact h.elim
 ·split at h
  ·rename_i ho _ _ _ _ hd hx;exact⟨_,h,Gw hd ho hx⟩
  ·exact h.elim
 ·split at h
  ·rename_i ho _ _ hT;obtain⟨H',us,R,h,Np⟩:=pB h;obtain⟨e,h1,h2⟩:=Dk hΓ hT ho h;exact⟨_,h1,vY Np h2⟩
  ·exact h.elim
 ·split at h
  ·rename_i ho _ _ hT;obtain⟨H',us,R,h,Np⟩:=pB h;obtain⟨e,h1,h2⟩:=Bm hΓ hT ho h;exact⟨_,h1,vY Np h2⟩
  ·exact h.elim
 ·split at h
  ·rename_i ho _ _ hT;split at h
   ·rename_i hf;obtain⟨v,h1,h2⟩:=un (H:=H) hΓ hT hf ho h;exact⟨_,h1,h2⟩
   ·exact h.elim
  ·exact h.elim
 ·split at h
  ·rename_i ho _ _ hT;split at h
   ·rename_i he;split at h
    ·rename_i hE;exact um hΓ hT he hE ho h
    ·exact h.elim
   ·exact h.elim
  ·exact h.elim
 ·split at h
  ·rename_i ho _ _ hT;split at h
   ·rename_i hs;obtain⟨v,h1,h2⟩:=Bg (H:=H) hΓ hT hs ho h;exact⟨_,h1,h2⟩
   ·exact h.elim
  ·exact h.elim
 ·rename_i ho;split at h
  ·split at h
   ·rename_i hT;split at h
    ·rename_i hb;obtain⟨v,h1,h2⟩:=Eb (H:=H) hΓ hT hb ho h;exact⟨_,h1,h2⟩
    ·exact h.elim
   ·exact h.elim
  ·rename_i hx;split at h
   ·rename_i hT;obtain⟨v,h1,h2⟩:=FK (H:=H) hΓ hT ho hx h.1 h.2;exact⟨_,h1,h2⟩
   ·exact h.elim
  ·obtain⟨v,h1,h2⟩:=Gc (P:=P) (H:=H) ho h;exact⟨_,h1,h2⟩
 ·rename_i ho;obtain⟨v,h1,h2⟩:=HE (P:=P) (H:=H) ho h;exact⟨_,h1,h2⟩
 ·rename_i ho;split at h
  ·rename_i hd hk;exact⟨_,h,xn hd ho⟩
  ·exact h.elim
 ·rename_i ho;exact zP hΓ ho h
 ·rename_i ho;exact zm hΓ (.inl ho) h
 ·rename_i ho;exact zF hΓ ho h
 ·rename_i ho;split at h
  ·rename_i hd hs ht;exact xl hΓ hs ht hd ho h
  ·exact h.elim
 ·rename_i ho;split at h
  ·rename_i hT;split at h
   ·exact h.elim
   ·rename_i M9;exact AA hΓ hT ho (fun e=>M9 e) h
  ·exact h.elim
 ·rename_i ho;split at h
  ·rename_i hd hT;split at h
   ·rename_i he;split at h
    ·rename_i hE;split at h
     ·rename_i hn;split at h
      ·exact sn hΓ hT he hE hd ho (by simpa using hn) h
      ·exact qZ hΓ hT he hE hd ho (by simpa using hn) h
     ·exact h.elim
    ·exact h.elim
   ·exact h.elim
  ·exact h.elim
 ·rename_i ho;split at h
  ·rename_i hd hT;split at h
   ·rename_i he;split at h
    ·rename_i hE;exact CQ hΓ hT he hE hd ho h
    ·exact h.elim
   ·exact h.elim
  ·exact h.elim
 ·rename_i ho;split at h
  ·rename_i hT;split at h
   ·rename_i he;split at h
    ·rename_i hE;split at h
     ·exact h.elim
     ·rename_i SL;exact uo hΓ hT he hE ho h (fun t ht=>SL t ht)
    ·exact h.elim
   ·split at h
    ·rename_i hs;obtain⟨t,hx,h⟩:=h;exact tU hΓ hT hs ho hx h
    ·exact h.elim
  ·exact h.elim
 ·rename_i ho;split at h
  ·rename_i hT;split at h
   ·rename_i hf;split at h
    ·rename_i Uk;obtain⟨v,h1,h2⟩:=Br (H:=H) hΓ hT hf Uk ho h;exact⟨_,h1,h2⟩
    ·exact h.elim
   ·exact h.elim
  ·exact h.elim
 ·rename_i ho;obtain⟨v,h1,h2⟩:=xx (P:=P) (H:=H) ho h;exact⟨_,h1,h2⟩
 ·rename_i ho;split at h
  ·rename_i hx;exact⟨_,h,so ho hx (.inl ⟨_,_,rfl⟩)⟩
  ·rename_i hx;exact⟨_,h,so ho hx (.inr (.inl ⟨_,_,_,_,rfl⟩))⟩
  ·rename_i hx;exact⟨_,h,so ho hx (.inr (.inr ⟨_,_,_,rfl⟩))⟩
  ·exact h.elim
 ·rename_i ho;split at h
  ·rename_i hT;exact FE hΓ hT ho h
  ·exact h.elim
 ·rename_i ho;split at h
  ·rename_i hd hT hU;split at h
   ·rename_i he hk;split at h
    ·rename_i hE;exact zk hΓ hT hU he hk hE hd ho h
    ·exact h.elim
   ·exact h.elim
  ·exact h.elim
 ·rename_i ho;split at h
  ·rename_i hx hy;exact⟨_,h,FG ho hx hy⟩
  ·exact h.elim
 ·rename_i ho;split at h
  ·rename_i hx hy;exact⟨_,h,Gj ho hx hy⟩
  ·exact h.elim
 ·rename_i ho;split at h
  ·rename_i hd;rcases h with⟨ts,r,h1,h2,h3⟩|h
   ·exact⟨_,h3,Dw hd ho h1 h2⟩
   ·exact tO ho h
  ·rename_i hd;rcases h with⟨ts,r,h1,h2,h3⟩|h
   ·exact⟨_,h3,uh hd ho h1 h2⟩
   ·exact tO ho h
 ·exact h.elim
end
def dn:List (Nat×AV)->Nat->AV
 | [],_=> .unk
 |(i,v)::r,t=>bif Nat.beq t i then v else dn r t
def cq:List (Id×Option AO)->Id->Option AO
 | [],_=>none
 |(i,x)::r,o=>bif fw o i then x else cq r o
def used:List Nat->Nat->Bool
 | [],_=>false
 | i::r,n=>bif Nat.beq n i then true else used r n
structure St where
 fr:List (Nat×AV)
 h:List (Id×Option AO)
 u:List Nat
def St.fs (st:St):F_:=⟨dn st.fr,cq st.h,fun n=>used st.u n=true⟩
def tp:List (Id×Option AO)->List (Id×Option AO)->List (Id×Option AO)
 | [],h=>h
 | p::r,h=>tp r (p::h)
def Fy:Option Nat->List Nat->List Nat
 | some n,u=>n::u
 | none,u=>u
def LV:Option Nat->AV->List (Nat×AV)->List (Nat×AV)
 | some d,v,fr=>(d,v)::fr
 | none,_,fr=>fr
def St.app (st:St)(dst:Option Nat)(e:Eff):St:=⟨LV dst e.v st.fr,tp e.us st.h,Fy e.new st.u⟩
theorem od:∀(us h:List (Id×Option AO)) (o:Id),cq (tp us h) o=bW (cq h) us o
 | [],_,_=>rfl
 | p::us,h,o=>by
  rw[tp,od us (p::h),bW];congr 1;funext o;simp only[cq];by_cases e:o=p.1
  ·rw[c7 e,(idEq_iff).2 e];rfl
  ·rw[b8 e]
   cases hb:fw o p.1 with|true=>exact absurd (idEq_iff.1 hb) e|false=>rfl
theorem F_.ext' {s t:F_}(hL:∀i,s.L i=t.L i)(hH:∀o,s.H o=t.H o)(hU:∀n,s.U n↔t.U n):s=t:=by obtain⟨L,H,U⟩:=s;obtain⟨L',H',U'⟩:=t;simp only at hL hH hU;rw[funext hL,funext hH,(funext fun n=>propext (hU n):U=U')]
theorem zc (st:St)(dst:Option Nat)(e:Eff):(st.app dst e).fs=st.fs.app dst e:=by
 refine F_.ext' (fun i=>?_) (fun o=>od _ _ _) (fun n=>?_)
 ·cases dst with|none=>rfl|some d=>rfl
 ·show used (Fy e.new st.u) n=true↔used st.u n=true\/e.new=some n
  cases hn:e.new with
  | none=>simp[Fy]
  | some d=>
   simp only[Fy,used];by_cases e:n=d
   ·subst e;simp
   ·have:Nat.beq n d=false:=(by cases hb:Nat.beq n d with|false=>rfl|true=>exact absurd (s9 hb) e);simp only[this,cond_false,Option.some.injEq];exact⟨.inl,fun h=>h.elim id fun h=>absurd h.symm e⟩
abbrev nh:Eff:=⟨.tup [],[],none,[]⟩
def AC.force (x:AC)(K:AC->Prop):Prop:=
 match x with|.t y=>K (.t y)|.f y=>K (.f y)|.nils n=>K (.nils n)|.nilp=>K .nilp|.own o=>K (.own o)|.sub o k=>K (.sub o k)|.ptr o k=>K (.ptr o k)|.opq=>K .opq|.mpv o=>K (.mpv o)
abbrev lx:List AC->(List AC->Prop)->Prop
 | [],K=>K []
 | c::cs,K=>c.force fun c=>lx cs fun cs=>K (c::cs)
def AR.force (x:AR)(K:AR->Prop):Prop:=
 match x with
 | .c y=>y.force fun y=>K (.c y)
 | .agg ys=>lx ys fun ys=>K (.agg ys)
abbrev rk:List AR->(List AR->Prop)->Prop
 | [],K=>K []
 | c::cs,K=>c.force fun c=>rk cs fun cs=>K (c::cs)
def AV.force (x:AV)(K:AV->Prop):Prop:=
 match x with
 | .r y=>y.force fun y=>K (.r y)
 | .tup ys=>rk ys fun ys=>K (.tup ys)
 | .el o sz i off=>K (.el o sz i off)
 | .ro fr row off=>K (.ro fr row off)
 | .unk=>K .unk
def AO.force (x:AO)(K:AO->Prop):Prop:=
 match x with
 | .arr true sz rows=>K (.arr true sz rows)
 | .arr false sz rows=>K (.arr false sz rows)
 | .box ys=>lx ys fun ys=>K (.box ys)
 | .dar sz rows none=>K (.dar sz rows none)
 | .mp kk es=>K (.mp kk es)
 | .dar sz rows (some (i,off,(n,j,l)))=>K (.dar sz rows (some (i,off,(n,j,l))))
abbrev oe:List (Id×Option AO)->(List (Id×Option AO)->Prop)->Prop
 | [],K=>K []
 |(o,none)::l,K=>oe l fun l=>K ((o,none)::l)
 |(o,some x)::l,K=>x.force fun x=>oe l fun l=>K ((o,some x)::l)
abbrev uH:List Id->(List Id->Prop)->Prop
 | [],K=>K []
 | ⟨a,b,d⟩::l,K=>uH l fun l=>K (⟨a,b,d⟩::l)
abbrev Ei:List (Id×Option AO)->(List Id->Prop)->Prop
 | [],K=>K []
 |(o,_)::l,K=>Ei l fun l=>K (o::l)
abbrev wq:List (Id×Option AO)->List (Id×Option AO)->(List (Id×Option AO)->Prop)->Prop
 | [],h,K=>K h
 | p::r,h,K=>wq r (p::h) K
def St.put (st:St)(d:Option Nat)(e:Eff)(K:St->List Id×List Id->Prop):Prop:=
 match st,e with
 | ⟨fr,h,u⟩,⟨v,us,new,R⟩=>v.force fun v=>oe us fun us=>uH R fun R=>Ei us fun ks=>wq us h fun h=>
   (
   match d with
   | some d=>(match new with
     | some n=>K ⟨(d,v)::fr,h,n::u⟩ (R,ks)
     | none=>K ⟨(d,v)::fr,h,u⟩ (R,ks))
   | none=>(match new with
     | some n=>K ⟨fr,h,n::u⟩ (R,ks)
     | none=>K ⟨fr,h,u⟩ (R,ks)))
theorem AC.force_eq (x:AC)(K:AC->Prop):x.force K=K x:=by cases x<;>rfl
theorem pf:∀(l:List AC) (K:List AC->Prop),lx l K=K l
 | [],K=>rfl
 | c::cs,K=>by rw[lx,AC.force_eq,pf cs]
theorem AR.force_eq (x:AR)(K:AR->Prop):x.force K=K x:=by cases x with|c c=>show c.force (fun c=>K (.c c))=_;rw[AC.force_eq]|agg cs=>show lx cs (fun cs=>K (.agg cs))=_;rw[pf]
theorem vw:∀(l:List AR) (K:List AR->Prop),rk l K=K l
 | [],K=>rfl
 | c::cs,K=>by rw[rk,AR.force_eq,vw cs]
theorem AV.force_eq (x:AV)(K:AV->Prop):x.force K=K x:=by cases x with|r x=>show x.force (fun c=>K (.r c))=_;rw[AR.force_eq]|tup xs=>show rk xs (fun c=>K (.tup c))=_;rw[vw]|_=>rfl
theorem AO.force_eq (x:AO)(K:AO->Prop):x.force K=K x:=by
 cases x with
 | arr fr sz rows=>cases fr<;>rfl
 | box cs=>show lx cs (fun cs=>K (.box cs))=_;rw[pf]
 | mp kk es=>rfl
 | dar sz rows hole=>cases hole<;>rfl
theorem oR:∀(l:List (Id×Option AO)) (K:List (Id×Option AO)->Prop),oe l K=K l
 | [],K=>rfl
 |(o,none)::l,K=>by rw[oe,oR l]
 |(o,some x)::l,K=>by rw[oe,AO.force_eq,oR l]
theorem wb:∀(l:List Id) (K:List Id->Prop),uH l K=K l
 | [],K=>rfl
 | ⟨a,b,d⟩::l,K=>by rw[uH,wb l]
theorem Az:∀(l:List (Id×Option AO)) (K:List Id->Prop),Ei l K=K (l.map (·.1))
 | [],K=>rfl
 |(o,x)::l,K=>by rw[Ei,Az l];rfl
theorem si:∀(us h:List (Id×Option AO)) (K:List (Id×Option AO)->Prop),wq us h K=K (tp us h)
 | [],h,K=>rfl
 | p::r,h,K=>by rw[wq,si r];rfl
theorem St.put_eq (st:St)(d:Option Nat)(e:Eff)(K:St->List Id×List Id->Prop):st.put d e K=K (st.app d e) (e.R,e.us.map (·.1)):=by
 obtain⟨fr,h,u⟩:=st;obtain⟨v,us,new,R⟩:=e;unfold St.put;simp only[AV.force_eq,oR,wb,Az,si]
 cases d<;>cases new<;>rfl
def bK (o:Oper)(u:List Nat):Nat:=
 match o.dst with|some d=>d|none=>100000+u.length
def w1 (P:Program)(Γ:Env)(N:Nat)(o:Oper)(st:St)(K:St->List Id×List Id->Prop):Prop:=
 match o.dst with
 | some d=>(match Nat.blt d N with
   | true=>sem P Γ d o (evL (dn st.fr)) (cq st.h) fun e=>
    (
     match e.new with
     | some n=>(match used st.u n with
      | false=>st.put (some d) e K
      | true=>False)
     | none=>st.put (some d) e K)
   | false=>False)
 | none=>sem P Γ (100000+st.u.length) o (evL (dn st.fr)) (cq st.h) fun e=>
   (
   match e.new with
   | some n=>(match used st.u n with
     | false=>st.put none e K
     | true=>False)
   | none=>st.put none e K)
abbrev Log:=List (List Id×List Id)
def lit (st:St)(dj:Nat)(b:Bool):St:=match st with|⟨fr,h,u⟩=>⟨(dj,tB b)::fr,h,u⟩
def ju (ops:List Oper)(j:Nat):Option Nat:=(ops[j]?).bind (·.dst)
abbrev lF (P:Program)(Γ:Env)(N:Nat)(ops:List Oper):List Oper->St->Log->(St->Log->Prop)->Prop
 | [],st,log,K=>K st log
 | o::rest,st,log,K=>
  match o.guard with
  | none=>w1 P Γ N o st fun M2 e=>lF P Γ N ops rest M2 (e::log) K
  | some (j,want)=>
   (
    match ju ops j with
    | some dj=>
     (
     match dn st.fr dj with
     | .r (.c (.t (.bool b)))=>
      (
       match want with
       | true=>ifB b (w1 P Γ N o (lit st dj true) fun M2 e=>lF P Γ N ops rest M2 (e::log) K)
        (
         match o.dst with
         | some d=>(match Nat.blt d N with
          | true=>(lit st dj false).put o.dst nh fun M2 e=>lF P Γ N ops rest M2 (e::log) K
          | false=>False)
         | none=>(lit st dj false).put none nh fun M2 e=>lF P Γ N ops rest M2 (e::log) K)
       | false=>ifB b
        (
         match o.dst with
         | some d=>(match Nat.blt d N with
          | true=>(lit st dj true).put o.dst nh fun M2 e=>lF P Γ N ops rest M2 (e::log) K
          | false=>False)
         | none=>(lit st dj true).put none nh fun M2 e=>lF P Γ N ops rest M2 (e::log) K)
        (w1 P Γ N o (lit st dj false) fun M2 e=>lF P Γ N ops rest M2 (e::log) K))
     | .tup []=>(match o.dst with
       | some d=>(match Nat.blt d N with
        | true=>st.put o.dst nh fun M2 e=>lF P Γ N ops rest M2 (e::log) K
        | false=>False)
       | none=>st.put none nh fun M2 e=>lF P Γ N ops rest M2 (e::log) K)
     | _=>False)
    | none=>False)
def eO (ops:List Oper)(s:F_)(o:Oper)(run:Bool):Prop:=
 match o.guard with|none=>run=true|some (j,want)=>(∃dj b,ju ops j=some dj/\s.L dj=tB b/\run=(b==want))\/(∃dj,ju ops j=some dj/\s.L dj= .tup []/\run=false)
structure StepOK (P:Program) (N:Nat) (ops:List Oper) (s:F_) (o:Oper) (run:Bool) (e:Eff):Prop where
 dst:∀d,o.dst=some d->d<N
 guard:eO ops s o run
 yes:run=true->Good P o (evL s.L) s.H e/\(∀n,e.new=some n->¬s.U n)
 no:run=false->e=nh
def go (P:Program)(N:Nat)(ops:List Oper):F_->List Oper->List (Bool×Eff)->Prop
 | _,[],[]=>True
 | s,o::l,(b,e)::es=>StepOK P N ops s o b e/\go P N ops (s.app o.dst e) l es
 | _,_,_=>False
def gZ:F_->List Oper->List (Bool×Eff)->F_
 | s,o::l,(_,e)::es=>gZ (s.app o.dst e) l es
 | s,_,_=>s
section
variable {P:Program} {Γ:Env} {N:Nat} {ops:List Oper}
theorem vI {st:St}{dj:Nat}{b:Bool}(h:dn st.fr dj=tB b):(lit st dj b).fs=st.fs:=by
 obtain⟨fr,hh,u⟩:=st;refine F_.ext' (fun i=>?_) (fun _=>rfl) (fun _=>Iff.rfl);show(bif Nat.beq i dj then tB b else dn fr i)=dn fr i
 cases hb:Nat.beq i dj with|false=>rfl|true=>rw[s9 hb];exact h.symm
theorem V33{p:Prop}(h:p:=by
 intro d e h1;split at h1
 ·rename_i n hn;split at h1
  ·rename_i hu;rw[St.put_eq]at h1;exact⟨h1,fun n' SO=>by rw[hn]at SO;injection SO with SO;subst SO;show ¬used st.u n=true;rw[hu];simp⟩
  ·exact h1.elim
 ·rename_i hn;rw[St.put_eq]at h1
  exact⟨h1,fun n' SO=>by rw[hn]at SO;cases SO⟩):p:=h
theorem V26{p:Prop}(h:p:=by
 split at h
 ·rename_i d hd;split at h
  ·rename_i M3;obtain⟨e,h1,h2⟩:=wO hΓ h;obtain⟨h3,h4⟩:=fin _ e h1;exact⟨e,by rw[hd];exact h3,fun d' Oo=>by rw[hd]at Oo;injection Oo with Oo;subst Oo;simpa using M3,h2,h4⟩
  ·exact h.elim
 ·rename_i hd;obtain⟨e,h1,h2⟩:=wO hΓ h;obtain⟨h3,h4⟩:=fin _ e h1
  exact⟨e,by rw[hd];exact h3,fun d' Oo=>(by rw[hd]at Oo;cases Oo),h2,h4⟩):p:=h
theorem LJ {o:Oper}{st:St}{K:St->List Id×List Id->Prop}(hΓ:Γ.chk P=true)(h:w1 P Γ N o st K):
  ∃e,K (st.app o.dst e) (e.R,e.us.map (·.1))/\(∀d,o.dst=some d->d<N)/\Good P o (evL st.fs.L) st.fs.H e/\(∀n,e.new=some n->¬st.fs.U n):=by
 have fin:∀(d:Option Nat) (e:Eff),(match e.new with
     | some n=>(match used st.u n with
      | false=>st.put d e K
      | true=>False)
     | none=>st.put d e K)->K (st.app d e) (e.R,e.us.map (·.1))/\∀n,e.new=some n->¬st.fs.U n:=by
  exact V33
 unfold w1 at h;exact V26
theorem ux (hΓ:Γ.chk P=true):∀(l:List Oper) (st:St) (log:Log) (K:St->Log->Prop),lF P Γ N ops l st log K->
  ∃es M2,es.length=l.length/\go P N ops st.fs l es/\M2.fs=gZ st.fs l es/\K M2 ((es.map fun p=>(p.2.R,p.2.us.map (·.1))).reverse++log)
 | [],st,log,K,h=>⟨[],st,rfl,trivial,rfl,h⟩
 | o::rest,st,log,K,h=>by
  have yes:∀(st1:St) (want:Bool),st1.fs=st.fs->eO ops st.fs o true->(w1 P Γ N o st1 fun M2 e=>lF P Γ N ops rest M2 (e::log) K)->
    ∃es M2,es.length=(o::rest).length/\go P N ops st.fs (o::rest) es/\M2.fs=gZ st.fs (o::rest) es/\K M2 ((es.map fun p=>(p.2.R,p.2.us.map (·.1))).reverse++log):=by
   intro st1 want PQ hg h;obtain⟨e,h1,h2,h3,h4⟩:=LJ hΓ h;obtain⟨es,M2,g1,g2,g3,g4⟩:=ux hΓ rest _ _ _ h1;rw[zc,PQ]at g2 g3;rw[PQ]at h3 h4;refine⟨(true,e)::es,M2,by simp[g1],⟨⟨h2,hg,fun _=>⟨h3,h4⟩,fun h=>by cases h⟩,g2⟩,g3,?_⟩;simpa using g4
  have no:∀(
         st1:St),st1.fs=st.fs->eO ops st.fs o false->(match o.dst with
         | some d=>(match Nat.blt d N with
          | true=>st1.put o.dst nh fun M2 e=>lF P Γ N ops rest M2 (e::log) K
          | false=>False)
         | none=>st1.put none nh fun M2 e=>lF P Γ N ops rest M2 (e::log) K)->
    ∃es M2,es.length=(o::rest).length/\go P N ops st.fs (o::rest) es/\M2.fs=gZ st.fs (o::rest) es/\K M2 ((es.map fun p=>(p.2.R,p.2.us.map (·.1))).reverse++log):=by
   intro st1 PQ hg h;simp only[St.put_eq]at h
   have key:(∀d,o.dst=some d->d<N)/\lF P Γ N ops rest (st1.app o.dst nh) (([],[])::log) K:=by
    split at h
    ·rename_i d hd;split at h
     ·rename_i M3;exact⟨fun d' Oo=>by rw[hd]at Oo;injection Oo with Oo;subst Oo;simpa using M3,h⟩
     ·exact h.elim
    ·rename_i hd;exact⟨fun d' Oo=>(by rw[hd]at Oo;cases Oo),by rw[hd];exact h⟩
   obtain⟨es,M2,g1,g2,g3,g4⟩:=ux hΓ rest _ _ _ key.2;rw[zc,PQ]at g2 g3;refine⟨(false,nh)::es,M2,by simp[g1],⟨⟨key.1,hg,fun h=>(by cases h),fun _=>rfl⟩,g2⟩,g3,?_⟩;simpa using g4
  rw[lF]at h;split at h
  ·rename_i Sf;exact yes st true rfl (by unfold eO;rw[Sf]) h
  ·rename_i j want Sf;split at h
   ·rename_i dj Yn;split at h
    ·rename_i b hb
     have Rv:∀run,run=(b==want)->eO ops st.fs o run:=fun run hr=>by
      unfold eO;rw[Sf];exact .inl ⟨dj,b,Yn,hb,hr⟩
     cases want with
     | true=>cases b with|true=>exact yes (lit st dj true) true (vI hb) (Rv _ rfl) h|false=>exact no (lit st dj false) (vI hb) (Rv _ rfl) h
     | false=>cases b with|true=>exact no (lit st dj true) (vI hb) (Rv _ rfl) h|false=>exact yes (lit st dj false) false (vI hb) (Rv _ rfl) h
    ·rename_i hb;exact no st rfl (by unfold eO;rw[Sf];exact .inr ⟨dj,Yn,hb,rfl⟩) h
    ·exact h.elim
   ·exact h.elim
 termination_by l=>l.length
theorem sj {B:Nat}{M:Nat->Prop}{w0:Start}{ρ:Rho}{s:F_}{a:Act}{w:World}{o:Oper}{run:Bool}(hc:Conc N B M w0 ρ s a w)(hg:eO ops s o run):Region.wanted o (yielded ops.toArray a.tmps)=run:=by
 unfold eO at hg;split at hg
 ·rename_i h;simp[Region.wanted,h,hg]
 ·rename_i j want h;rcases hg with⟨dj,b,h1,h2,rfl⟩|⟨dj,h1,h2,rfl⟩
  ·have hv:=hc.slot dj;rw[h2]at hv;have e:=fD hv
   have hy:yielded ops.toArray a.tmps j=some b:=by
    unfold yielded;have:(ops.toArray[j]?).bind (·.dst)=some dj:=(by simpa [ju]using h1);rw[this];simp only[Option.bind_some]
    have M3:dj<a.tmps.size:=by
     rcases m5 dj a.tmps.size with h'|h'
     ·exact h'
     ·simp[r8,F6 h',undef]at e
    rw[w8 M3];have:a.tmps[dj]= .bool b:=(by simpa [r8,M3]using e);rw[this]
   simp only[Region.wanted,h,hy]
   cases b<;>cases want<;>rfl
  ·have hv:=hc.slot dj;rw[h2]at hv;obtain⟨us,e,h3⟩:=hv
   have hy:yielded ops.toArray a.tmps j=none:=by
    unfold yielded;have:(ops.toArray[j]?).bind (·.dst)=some dj:=(by simpa [ju]using h1);rw[this];simp only[Option.bind_some];rcases m5 dj a.tmps.size with M3|h'
    ·rw[w8 M3];have:a.tmps[dj]= .tuple us:=(by simpa [r8,M3]using e);rw[this]
    ·rw[F6 h']
   simp only[Region.wanted,h,hy]
   cases want<;>rfl
theorem sd {B:Nat}{M:Nat->Prop}{w0:Start}{Q:Exit->Act->World->Prop}:∀(l:List Oper) (es:List (Bool×Eff)) (s:F_) (ρ:Rho) (a:Act) (w:World),go P N ops s l es->Conc N B M w0 ρ s a w->
  (∀ρ a w,Conc N B M w0 ρ (gZ s l es) a w->Q .normal a w)->wpList P ops.toArray Q l a w
 | [],[],s,ρ,a,w,_,hc,hQ=>hQ ρ a w hc
 | o::l,(b,e)::es,s,ρ,a,w,Of,hc,hQ=>by
  obtain⟨h1,h2⟩:=Of;have hw:=sj hc h1.guard;unfold wpList
  cases b with
  | true=>
   rw[c7 hw];obtain⟨g1,g2⟩:=h1.yes rfl
   exact .inl (g1 N B M w0 ρ s a w Q _ hc (fun _ _=>rfl) (fun _ _=>rfl) g2 h1.dst fun v w' ρ' M6=>sd l es _ ρ' _ w' h2 M6 hQ)
  | false=>
   rw[b8 (by rw[hw];simp)];have he:=h1.no rfl;subst he
   exact sd l es _ ρ _ w h2 (hc.put h1.dst (av:= .tup []) ⟨#[],rfl,trivial⟩ aaT []) hQ
 | [],_::_,_,_,_,_,h,_,_=>h.elim
 | _::_,[],_,_,_,_,h,_,_=>h.elim
def cP (o:Oper):List Nat:=(o.after.toList.filter fun e=>Region.binds .any e).map (·.on)
def anc (ops:List Oper):Nat->Nat->List Nat
 | 0,_=>[]
 | f+1,i=>match ops[i]? with
  | some o=>(cP o).flatMap fun j=>j::anc ops f j
  | none=>[]
def fk (ops:List Oper)(o:Oper):List Nat:=
 (o.op.operands.toList.filterMap fun|.tmp t=>some t|_=>none)++
 (
  match o.guard with
  | some (j,_)=>(ju ops j).toList
  | none=>[])
def KL (t:Nat)(l:List Nat):Bool:=l.any (Nat.beq t)
def wD (o:Oper)(l:List Nat):Bool:=match o.dst with|some d=>KL d l|none=>false
def lK (a b:Oper):Bool:=match a.dst,b.dst with|some d,some d'=>Nat.beq d d'|_,_=>false
def eZ (ops:List Oper)(a b:Oper)(ra rb:List Id×List Id):Bool:=
 wD a (fk ops b)||wD b (fk ops a)||lK a b||ra.2.any (fun k=>kG k rb.1||kG k rb.2)||rb.2.any (fun k=>kG k ra.1)
def zH (ms:List Nat):List Nat->Nat->Nat
 | [],m=>m
 | j::js,m=>zH ms js (Nat.lor (Nat.lor m (Nat.pow 2 j)) (ms.getD j 0))
def Eo:List Nat->List Oper->List Nat
 | ms,[]=>ms
 | ms,o::l=>Eo (ms++[zH ms (cP o) 0]) l
def ur (ops:List Oper)(m:Nat->Nat)(i:Nat)(o:Oper)(r:List Id×List Id):Nat->List Oper->Log->Bool
 | j,o'::l,r'::log=>(!eZ ops o o' r r'||Nat.testBit (m j) i)&&ur ops m i o r (j+1) l log
 | _,_,_=>true
def pd (ops:List Oper)(m:Nat->Nat):Nat->List Oper->Log->Bool
 | i,o::l,r::log=>(cP o).all (fun j=>Nat.blt j i)&&ur ops m i o r (i+1) l log&&pd ops m (i+1) l log
 | _,[],[]=>true
 | _,_,_=>false
def tl (ops:List Oper)(log:Log):Bool:=pd ops (fun j=>(Eo [] ops).getD j 0) 0 ops log
def sel:F_->List Oper->List (Bool×Eff)->(Nat->Bool)->Nat->F_
 | s,o::l,(_,e)::es,S,k=>sel (if S k then s.app o.dst e else s) l es S (k+1)
 | s,_,_,_,_=>s
theorem zh:∀(l:List Oper) (es:List (Bool×Eff)) (s:F_) (S:Nat->Bool) (k:Nat),(∀i,k<=i->i<k+l.length->S i=true)->sel s l es S k=gZ s l es
 | [],_,_,_,_,_=>by simp[sel,gZ]
 | _::_,[],_,_,_,_=>by simp[sel,gZ]
 | o::l,(b,e)::es,s,S,k,h=>by
  rw[sel,gZ,c7 (h k (d8 _) s_)];exact zh l es _ S (k+1) fun i h1 h2=>h i o_ (by simp only[d5];omega)
theorem mW:∀(l:List Oper) (es:List (Bool×Eff)) (s:F_) (S:Nat->Bool) (k:Nat),(∀i,k<=i->i<k+l.length->S i=false)->sel s l es S k=s
 | [],_,_,_,_,_=>by simp[sel]
 | _::_,[],_,_,_,_=>by simp[sel]
 | o::l,(b,e)::es,s,S,k,h=>by
  rw[sel,b8 (by rw[h k (d8 _) s_];simp)];exact mW l es _ S (k+1) fun i h1 h2=>h i o_ (by simp only[d5];omega)
theorem nQ:∀(l:List Oper) (es:List (Bool×Eff)) (s:F_) (S S':Nat->Bool) (k:Nat),(∀i,k<=i->S i=S' i)->sel s l es S k=sel s l es S' k
 | [],_,_,_,_,_,_=>by simp[sel]
 | _::_,[],_,_,_,_,_=>by simp[sel]
 | o::l,(b,e)::es,s,S,S',k,h=>by
  rw[sel,sel,h k (d8 _)];exact nQ l es _ S S' (k+1) fun i hi=>h i o_
theorem mt:∀(us:List (Id×Option AO)) (H H':Id->Option AO) (o:Id),o∈us.map (·.1)->bW H us o=bW H' us o
 | p::us,H,H',o,h=>by
  rw[bW,bW];by_cases h':o∈us.map (·.1)
  ·exact mt us _ _ o h'
  ·rw[cE us _ o h',cE us _ o h'];simp only[p7,d7,h',or_false]at h;rw[c7 h,c7 h]
structure Apart (d d':Option Nat) (e e':Eff):Prop where
 dst:∀t,d=some t->d'≠some t
 keys:∀o,o∈e.us.map (·.1)->o∉e'.us.map (·.1)
theorem Ek (L:Nat->AV)(d:Option Nat)(v:AV)(t:Nat):mE L d v t=if d=some t then v else L t:=by
 cases d with
 | none=>rfl
 | some d=>
  show(bif Nat.beq t d then v else L t)=_;by_cases e:d=t
  ·subst e;simp
  ·rw[b8 (by simpa using e)]
   cases hb:Nat.beq t d with|false=>rfl|true=>exact absurd (s9 hb).symm e
theorem IP {s:F_}{d d':Option Nat}{e e':Eff}(h:Apart d d' e e'):(s.app d e).app d' e'=(s.app d' e').app d e:=by
 refine F_.ext' (fun t=>?_) (fun o=>?_) (fun n=>?_)
 ·show mE (mE s.L d e.v) d' e'.v t=mE (mE s.L d' e'.v) d e.v t;simp only[Ek];by_cases h1:d=some t
  ·simp only[c7 h1,b8 (h.dst t h1)]
  ·simp only[b8 h1]
 ·show bW (bW s.H e.us) e'.us o=bW (bW s.H e'.us) e.us o;by_cases h1:o∈e.us.map (·.1)
  ·rw[cE e'.us _ o (h.keys o h1)];exact mt e.us _ _ o h1
  ·rw[cE e.us _ o h1];by_cases h2:o∈e'.us.map (·.1)
   ·exact mt e'.us _ _ o h2
   ·rw[cE e'.us _ o h2,cE e'.us _ o h2,cE e.us _ o h1]
 ·show((s.U n\/_)\/_)↔((s.U n\/_)\/_);constructor
  ·rintro((h|h)|h)
   ·exact .inl (.inl h)
   ·exact .inr h
   ·exact .inl (.inr h)
  ·rintro((h|h)|h)
   ·exact .inl (.inl h)
   ·exact .inr h
   ·exact .inl (.inr h)
theorem V82{p:Prop}(h:p:=by
 exact ih es _ (k+1) fun j o' b' e' h1 h2 h3=>Rp (j+1) o' b' e' (by rw[show k+(j+1)=k+1+j by omega];exact h1) aag aaB):p:=h
theorem Ac:∀(l:List Oper) (es:List (Bool×Eff)) (s:F_) (S:Nat->Bool) (k i:Nat) (o:Oper) (b:Bool) (e:Eff),l[i]?=some o->es[i]?=some (b,e)->S (k+i)=false->
  (∀j o' b' e',i<j->S (k+j)=true->l[j]?=some o'->es[j]?=some (b',e')->Apart o.dst o'.dst e e')->
  sel s l es (fun n=>if n=k+i then true else S n) k=(sel s l es S k).app o.dst e
 | [],_,_,_,_,i,_,_,_,h,_,_,_=>by simp at h
 | _::_,[],_,_,_,i,_,_,_,_,h,_,_=>by simp at h
 | o0::l,(b0,e0)::es,s,S,k,0,o,b,e,ho,he,hS,Rp=>by
  simp only[f9,Option.some.injEq,Prod.mk.injEq]at ho he;obtain⟨rfl,rfl⟩:=he;subst ho;rw[sel,sel];simp only[y6,if_true]at hS⊢;rw[b8 (by rw[hS];simp)]
  have e1:sel (s.app o0.dst e0) l es (fun n=>if n=k then true else S n) (k+1)=sel (s.app o0.dst e0) l es S (k+1):=
   nQ l es _ _ _ _ fun i hi=>b8 o_
  rw[e1]
  have push:∀(l:List Oper) (es:List (Bool×Eff)) (s:F_) (k:Nat),(∀j o' b' e',S (k+j)=true->l[j]?=some o'->es[j]?=some (b',e')->Apart o0.dst o'.dst e0 e')->sel (s.app o0.dst e0) l es S k=(sel s l es S k).app o0.dst e0:=by
   intro l
   induction l with
   | nil=>intro es s k _;simp[sel]
   | cons o1 l ih=>
    intro es s k Rp
    cases es with
    | nil=>simp[sel]
    | cons p es=>
     obtain⟨b1,e1⟩:=p;rw[sel,sel]
     cases hk:S k with
     | true=>
      simp only[if_true];rw[IP (Rp 0 o1 b1 e1 (by simpa using hk) s_ s_)]
      exact V82
     | false=>simp only[A4,if_false];exact V82
  exact push l es s (k+1) fun j o' b' e' h1 h2 h3=>Rp (j+1) o' b' e' o_ (by rw[show k+(j+1)=k+1+j by omega];exact h1) aag aaB
 | o0::l,(b0,e0)::es,s,S,k,i+1,o,b,e,ho,he,hS,Rp=>by
  rw[sel,sel];have hk:(if k=k+(i+1)then true else S k)=S k:=b8 o_;simp only[hk]
  have:=Ac l es (if S k then s.app o0.dst e0 else s) S (k+1) i o b e aau (by simpa using he) (by rw[show k+1+i=k+(i+1) by omega];exact hS)
   (fun j o' b' e' h1 h2 h3 h4=>Rp (j+1) o' b' e' o_ (by rw[show k+(j+1)=k+1+j by omega];exact h2) aaB aaC)
  rw[show k+1+i=k+(i+1) by omega]at this;exact this
theorem GY:∀(l:List Oper) (es:List (Bool×Eff)) (s s':F_) (S S':Nat->Bool) (k t:Nat),s.L t=s'.L t->(∀j o',l[j]?=some o'->o'.dst=some t->S (k+j)=S' (k+j))->(sel s l es S k).L t=(sel s' l es S' k).L t
 | [],_,_,_,_,_,_,_,h,_=>by simpa [sel]using h
 | _::_,[],_,_,_,_,_,_,h,_=>by simpa [sel]using h
 | o::l,(b,e)::es,s,s',S,S',k,t,h,hS=>by
  rw[sel,sel];refine GY l es _ _ S S' (k+1) t ?_ fun j o' h1 h2=>by have:=hS (j+1) o' aaj h2;rwa [show k+(j+1)=k+1+j by omega]at this
  have app_L:∀s:F_,(s.app o.dst e).L t=if o.dst=some t then e.v else s.L t:=fun s=>Ek s.L o.dst e.v t
  by_cases hd:o.dst=some t
  ·have:=hS 0 o s_ hd;simp only[y6]at this;rw[this]
   cases S' k with
   | true=>
    show(s.app o.dst e).L t=(s'.app o.dst e).L t
    rw[app_L,app_L,c7 hd,c7 hd]
   | false=>exact h
  ·have e1:(if S k then s.app o.dst e else s).L t=s.L t:=(by cases S k<;>simp[app_L,hd]);have e2:(if S' k then s'.app o.dst e else s').L t=s'.L t:=(by cases S' k<;>simp[app_L,hd]);rw[e1,e2,h]
theorem EG:∀(l:List Oper) (es:List (Bool×Eff)) (s s':F_) (S S':Nat->Bool) (k:Nat) (q:Id),s.H q=s'.H q->(∀j o' b' e',l[j]?=some o'->es[j]?=some (b',e')->q∈e'.us.map (·.1)->S (k+j)=S' (k+j))->(sel s l es S k).H q=(sel s' l es S' k).H q
 | [],_,_,_,_,_,_,_,h,_=>by simpa [sel]using h
 | _::_,[],_,_,_,_,_,_,h,_=>by simpa [sel]using h
 | o::l,(b,e)::es,s,s',S,S',k,q,h,hS=>by
  rw[sel,sel];refine EG l es _ _ S S' (k+1) q ?_ fun j o' b' e' h1 h2 h3=>by have:=hS (j+1) o' b' e' aaj aag h3;rwa [show k+(j+1)=k+1+j by omega]at this
  by_cases hd:q∈e.us.map (·.1)
  ·have:=hS 0 o b e s_ s_ hd;simp only[y6]at this;rw[this]
   cases S' k with|true=>exact mt e.us _ _ q hd|false=>exact h
  ·have e1:(if S k then s.app o.dst e else s).H q=s.H q:=by cases S k with|true=>exact cE e.us _ q hd|false=>rfl
   have e2:(if S' k then s'.app o.dst e else s').H q=s'.H q:=by cases S' k with|true=>exact cE e.us _ q hd|false=>rfl
   rw[e1,e2,h]
theorem IX:∀(l:List Oper) (es:List (Bool×Eff)) (s:F_) (S:Nat->Bool) (k n:Nat),(sel s l es S k).U n->s.U n\/∃j o' b' e',S (k+j)=true/\l[j]?=some o'/\es[j]?=some (b',e')/\e'.new=some n
 | [],_,_,_,_,_,h=> .inl (by simpa [sel]using h)
 | _::_,[],_,_,_,_,h=> .inl (by simpa [sel]using h)
 | o::l,(b,e)::es,s,S,k,n,h=>by
  rw[sel]at h;rcases IX l es _ S (k+1) n h with h'|⟨j,o',b',e',h1,h2,h3,h4⟩
  ·cases hk:S k with
   | true=>
    rw[hk]at h';rcases h' with h'|h'
    ·exact .inl h'
    ·exact .inr ⟨0,o,b,e,by simpa using hk,s_,s_,h'⟩
   | false=>rw[hk]at h';exact .inl h'
  ·exact .inr ⟨j+1,o',b',e',by rw[show k+(j+1)=k+1+j by omega];exact h1,by simpa using h2,by simpa using h3,h4⟩
theorem memN_iff {t:Nat}{l:List Nat}:KL t l=true↔t∈l:=by simp[KL]
theorem Ev {ms:List Nat}:∀(js:List Nat) (m i:Nat),(zH ms js m).testBit i=true->m.testBit i=true\/∃j∈js,i=j\/(ms.getD j 0).testBit i=true
 | [],m,i,h=> .inl h
 | j::js,m,i,h=>by
  rw[zH]at h;rcases Ev js _ i h with h|⟨k,h1,h2⟩
  ·have h:((m ||| 2^j) ||| ms.getD j 0).testBit i=true:=h;rw[Nat.testBit_or,Nat.testBit_or,w5,w5]at h;rcases h with(h|h)|h
   ·exact .inl h
   ·rw[Nat.testBit_two_pow]at h;exact .inr ⟨j,s_,.inl (by simpa using(d9 h).symm)⟩
   ·exact .inr ⟨j,s_,.inr h⟩
  ·exact .inr ⟨k,by simp[h1],h2⟩
theorem uO:∀(l pre:List Oper) (ms:List Nat),pre++l=ops->ms.length=pre.length->(∀j i,(ms.getD j 0).testBit i=true->∃f,i∈anc ops f j)->∀j i,((Eo ms l).getD j 0).testBit i=true->∃f,i∈anc ops f j
 | [],_,ms,_,_,h,j,i,hb=>h j i hb
 | o::l,pre,ms,he,hl,h,j,i,hb=>by
  refine uO l (pre++[o]) (ms++[zH ms (cP o) 0]) (by simpa using he) (by simp[hl]) (fun j i hb=>?_) j i hb;rcases B4 j ms.length with hj|hj|hj
  ·refine h j i ?_
   have e:(ms++[zH ms (cP o) 0]).getD j 0=ms.getD j 0:=by simp only[List.getD_eq_getElem?_getD];rw[j7 hj]
   rwa [e]at hb
  ·subst hj;have e:(ms++[zH ms (cP o) 0]).getD ms.length 0=zH ms (cP o) 0:=s_;rw[e]at hb;have ho:ops[ms.length]?=some o:=(by rw[<-he,hl];simp);rcases Ev _ _ _ hb with h1|⟨k,h1,h2⟩
   ·simp at h1
   ·rcases h2 with rfl|h2
    ·exact⟨1,by simp only[anc,ho];exact u0.2 ⟨_,h1,s_⟩⟩
    ·obtain⟨f,hf⟩:=h k i h2;exact⟨f+1,by simp only[anc,ho];exact u0.2 ⟨k,h1,z9 _ hf⟩⟩
  ·have e:(ms++[zH ms (cP o) 0]).getD j 0=0:=by simp only[List.getD_eq_getElem?_getD];rw[e9 aab];rfl
   rw[e]at hb;simp at hb
section
variable {m:Nat->Nat}
theorem qy:∀(l:List Oper) (log:Log) (k:Nat),pd ops m k l log=true->∀i o,l[i]?=some o->∀j∈cP o,j<k+i
 | [],_,_,_,i,o,h=>by simp at h
 | o0::l,[],k,h,_,_,_=>by simp[pd]at h
 | o0::l,r::log,k,h,i,o,ho=>by
  simp only[pd,b9,o8]at h
  cases i with
  | zero=>simp at ho;subst ho;intro j hj;simpa using h.1.1 j hj
  | succ i=>intro j hj;have:=qy l log (k+1) h.2 i o aau j hj;omega
theorem sP:∀(l:List Oper) (log:Log) (i:Nat) (o:Oper) (r:List Id×List Id) (k:Nat),ur ops m i o r k l log=true->∀j o' r',l[j]?=some o'->log[j]?=some r'->eZ ops o o' r r'=false\/(m (k+j)).testBit i=true
 | [],_,_,_,_,_,_,j,o',r',h,_=>by simp at h
 | _::_,[],_,_,_,_,_,j,o',r',_,h=>by simp at h
 | o0::l,r0::log,i,o,r,k,h,j,o',r',ho,hr=>by
  simp only[ur,b9,w5,v2]at h
  cases j with
  | zero=>
   simp at ho hr;subst ho;subst hr
   exact h.1
  | succ j=>have:=sP l log i o r (k+1) h.2 j o' r' aau aaO;rwa [show k+1+j=k+(j+1) by omega]at this
theorem rn:∀(l:List Oper) (log:Log) (k:Nat),pd ops m k l log=true->∀i j o o' r r',i<j->l[i]?=some o->l[j]?=some o'->log[i]?=some r->log[j]?=some r'->eZ ops o o' r r'=false\/(m (k+j)).testBit (k+i)=true
 | [],_,_,_,i,j,o,o',r,r',_,h,_,_,_=>by simp at h
 | _::_,[],_,_,i,j,o,o',r,r',_,_,_,h,_=>by simp at h
 | o0::l,r0::log,k,h,i,j,o,o',r,r',Pk,h1,h2,h3,h4=>by
  simp only[pd,b9]at h;obtain⟨j,rfl⟩:∃j',j=j'+1:=⟨j-1,o_⟩
  cases i with
  | zero=>
   simp at h1 h3;subst h1;subst h3;have:=sP l log k o0 r0 (k+1) h.1.2 j o' r' aag aaC
   rwa [show k+1+j=k+(j+1) by omega]at this
  | succ i=>have:=rn l log (k+1) h.2 i j o o' r r' o_ aaj aag aaB aaC;rwa [show k+1+i=k+(i+1) by omega,show k+1+j=k+(j+1) by omega]at this
end
theorem BG {log:Log}(h:tl ops log=true):∀i o,ops[i]?=some o->∀j∈cP o,j<i:=fun i o ho j hj=>by
 have:=qy ops log 0 h i o ho j hj;omega
theorem tF {log:Log}(h:tl ops log=true)(i j:Nat)(o o':Oper)(r r':List Id×List Id)(Pk:i<j)(h1:ops[i]?=some o)(h2:ops[j]?=some o')(h3:log[i]?=some r)(h4:log[j]?=some r'):eZ ops o o' r r'=false\/∃f,i∈anc ops f j:=by
 rcases rn ops log 0 h i j o o' r r' Pk h1 h2 h3 h4 with h|h
 ·exact .inl h
 ·simp only[u6]at h;exact .inr (uO ops [] [] rfl rfl (fun j i hb=>by simp at hb) j i h)
theorem lR {S:Nat->Bool}(hS:∀i o,ops[i]?=some o->S i=true->∀j∈cP o,S j=true):∀(f i:Nat),S i=true->∀j∈anc ops f i,S j=true
 | 0,_,_,j,hj=>by simp[anc]at hj
 | f+1,i,hi,j,hj=>by
  simp only[anc]at hj;split at hj
  ·rename_i o ho;obtain⟨k,hk,hj⟩:=u0.1 hj;have Yc:=hS i o ho hi k hk;rcases d7.1 hj with rfl|hj
   ·exact Yc
   ·exact lR hS f k Yc j hj
  ·simp at hj
theorem yR {S:Nat->Bool}(hS:∀i o,ops[i]?=some o->S i=true->∀j∈cP o,S j=true){i:Nat}{o:Oper}(ho:ops[i]?=some o)(hr:∀j∈cP o,S j=true)(f:Nat):∀j∈anc ops f i,S j=true:=by
 intro j hj
 cases f with
 | zero=>simp[anc]at hj
 | succ f=>
  simp only[anc,ho]at hj;obtain⟨k,hk,hj⟩:=u0.1 hj;rcases d7.1 hj with rfl|hj
  ·exact hr j hk
  ·exact lR hS f k (hr k hk) j hj
theorem pQ:∀(l:List Oper) (es:List (Bool×Eff)) (s:F_) (k:Nat),go P N ops s l es->∀i o b e,l[i]?=some o->es[i]?=some (b,e)->StepOK P N ops (sel s l es (fun n=>decide (n<k+i)) k) o b e
 | [],_,_,_,_,i,o,b,e,h,_=>by simp at h
 | _::_,[],_,_,h,_,_,_,_,_,_=>h.elim
 | o0::l,(b0,e0)::es,s,k,h,i,o,b,e,ho,he=>by
  cases i with
  | zero=>
   simp only[f9,Option.some.injEq,Prod.mk.injEq]at ho he;obtain⟨rfl,rfl⟩:=he;subst ho;rw[mW _ _ _ _ _ fun i h1 _=>by simp;omega]
   exact h.1
  | succ i=>have:=pQ l es _ (k+1) h.2 i o b e aau (by simpa using he);rw[sel];have hd:decide (k<k+(i+1))=true:=s_;simp only[hd,if_true];rw[show k+(i+1)=k+1+i by omega];exact this
theorem ot:∀(l:List Oper) (es:List (Bool×Eff)) (s:F_) (T:Nat->Bool) (k d:Nat),s.U d->(sel s l es T k).U d
 | [],_,_,_,_,_,h=>by simpa [sel]using h
 | _::_,[],_,_,_,_,h=>by simpa [sel]using h
 | o::l,(b,e)::es,s,T,k,d,h=>by
  rw[sel];refine ot l es _ T (k+1) d ?_
  cases T k with|true=>exact .inl h|false=>exact h
theorem Et:∀(l:List Oper) (es:List (Bool×Eff)) (s:F_) (T:Nat->Bool) (k j d:Nat) (o':Oper) (b':Bool) (e':Eff),T (k+j)=true->l[j]?=some o'->es[j]?=some (b',e')->e'.new=some d->(sel s l es T k).U d
 | [],_,_,_,_,j,_,_,_,_,_,h,_,_=>by simp at h
 | _::_,[],_,_,_,j,_,_,_,_,_,_,h,_=>by simp at h
 | o::l,(b,e)::es,s,T,k,0,d,o',b',e',hT,hl,RJ,hn=>by
  simp only[f9,Option.some.injEq,Prod.mk.injEq,y6]at hl RJ hT;obtain⟨rfl,rfl⟩:=RJ;rw[sel,hT]
  exact ot l es _ T (k+1) d (.inr hn)
 | o::l,(b,e)::es,s,T,k,j+1,d,o',b',e',hT,hl,RJ,hn=>by
  rw[sel];exact Et l es _ T (k+1) j d o' b' e' (by rw[show k+1+j=k+(j+1) by omega];exact hT) aaN (by simpa using RJ) hn
theorem om {s:F_}{es:List (Bool×Eff)}(Of:go P N ops s ops es){i j n:Nat}{o o':Oper}{b b':Bool}{e e':Eff}(Pk:i<j)(h1:ops[i]?=some o)(h2:ops[j]?=some o')(h3:es[i]?=some (b,e))(h4:es[j]?=some (b',e'))(h5:e.new=some n)(h6:e'.new=some n):False:=by
 have hs:=pQ ops es s 0 Of j o' b' e' h2 h4
 cases b' with
 | true=>exact(hs.yes rfl).2 n h6 (Et ops es s _ 0 i n o b e (by simpa using Pk) h1 h3 h5)
 | false=>rw[hs.no rfl]at h6;cases h6
theorem Good.mono {o:Oper}{ev YX:Operand->AV}{H H':Id->Option AO}{e:Eff}(h:Good P o ev H e)(h1:∀x∈o.op.operands.toList,YX x=ev x)(h2:∀id∈e.R,H' id=H id):Good P o YX H' e:=
 fun N B M w0 ρ s a w Q K hc M1 hR hn hd hK=>h N B M w0 ρ s a w Q K hc (fun x hx=>(M1 x hx).trans (h1 x hx)) (fun id M7=>(hR id M7).trans (h2 id M7)) hn hd hK
theorem rO {L L':Nat->AV}{o:Oper}(h:∀t,t∈fk ops o->L' t=L t):∀x∈o.op.operands.toList,evL L' x=evL L x:=by
 intro x hx
 cases x with|tmp t=>exact h t (by simp only[fk,f0,List.mem_filterMap];exact .inl ⟨.tmp t,hx,rfl⟩)|const=>rfl|global=>rfl|func=>rfl
theorem V11{p:Prop}(h:p:=by
 intro listed N2 hr i
 induction i using Nat.strongRecOn with
 | _ i ih=>
  intro hi
  cases hl:listed.getD i true with
  | true=>rfl
  | false=>
   have hm:i∈Region.ready .any ops.toArray listed:=by
    simp only[Region.ready,B0,F7,B3,hi,true_and,hl,F5,n7];have ho:ops.toArray[i]?=some ops[i]:=(by simp[hi]);rw[ho];simp only[x9,B8,Array.all_eq_true'];intro e he
    cases hb:Region.binds .any e with
    | false=>rfl
    | true=>have hj:e.on∈cP ops[i]:=n9.2 ⟨e,B0.2 ⟨by simpa using he,hb⟩,rfl⟩;have M3:=QP i ops[i] (i8 hi) e.on hj;have:=ih e.on o_ o_;have hs:e.on<listed.size:=o_;simp only[r8,w8 hs,B8]at this⊢;simp[this]
   rw[hr]at hm
   cases hm):p:=h
theorem V112{p:Prop}(h:p:=by
 intro listed ρ a w N2 hc hr;rw[zh ops es s _ 0 fun i _ hi=>ON listed N2 hr i o_]at hc
 exact hQ ρ a w hc):p:=h
theorem V15{p:Prop}(h:p:=by
 intro listed ρ a w N2 PJ N9 hc
 have UO:∀i,i<ops.length->listed.getD i true=true:=by
  have Nu:((List.range ops.length).filter fun i=>listed.getD i true).length≥(List.range ops.length).length:=by simpa using PJ
  have Qu:=List.length_filter_eq_length_iff.1 (Nat.le_antisymm (G1 _ _) Nu);intro i hi;exact Qu i (F7.2 hi)
 have hr:Region.ready .any ops.toArray listed=[]:=by rw[Region.ready,List.filter_eq_nil_iff];intro i hi;have:=UO i (by simpa using hi);simp[this]
 exact⟨hr,NM listed ρ a w N2 hc hr⟩):p:=h
theorem V12{p:Prop}(h:p:=by
 simp only[Region.ready,B0,F7,B3,b9,v2]at hi;obtain⟨h1,h2,h3⟩:=hi;have ho:ops[i]?=some ops[i]:=i8 h1;refine⟨h2,ops[i],ho,fun j hj=>?_⟩;have Nr:ops.toArray[i]?=some ops[i]:=by simp[h1]
 rw[Nr]at h3;simp only[x9,B8,Array.all_eq_true']at h3;obtain⟨e,he,rfl⟩:=n9.1 hj;obtain⟨Yk,O4⟩:=B0.1 he;have h4:=h3 e (by simpa using Yk);simp only[O4,Bool.not_true,C9]at h4;have M3:=QP i ops[i] ho e.on hj;have hs:e.on<listed.size:=o_;simp only[r8,w8 hs,B8]at h4⊢
 exact h4):p:=h
theorem V114{p:Prop}(h:p:=by
 rw[M0];rcases m5 j ops.length with h'|h'
 ·exact h'
 ·rw[e9 h']at h1;cases h1):p:=h
theorem V68{p:Prop}(h:p:=by
 intro n;simp only[r8,Array.getElem?_setIfInBounds,S];by_cases hn:i=n
 ·subst hn;have:i<listed.size:=o_;simp[this]
 ·rw[b8 hn,b8 (fun e=>hn e.symm)]):p:=h
theorem V8{p:Prop}(h:p:=by
 have key:∀(l:List Nat),l.Nodup->i∈l->(l.filter fun n=>if n=i then true else S n).length=(l.filter fun n=>S n).length+1:=by
  intro l
  induction l with
  | nil=>intro _ h;cases h
  | cons x l ih=>
   intro Pm hm;have Vn:=F2.1 Pm;by_cases hx:x=i
   ·subst hx
    have e1:(l.filter fun n=>if n=x then true else S n)=l.filter fun n=>S n:=by apply List.filter_congr;intro n hn;have:n≠x:=fun e=>Vn.1 (e▸hn);simp[this]
    simp only[B9,if_true,R8,A4,if_false,d5];rw[e1]
   ·have:=ih Vn.2 (by
               rcases d7.1 hm with h|h;· exact absurd h.symm hx
               ·exact h)
    simp only[B9,b8 hx]
    cases S x
    ·simp only[A4,if_false];exact this
    ·simp only[if_true,d5];rw[this]
 have h1:((List.range ops.length).filter fun n=>(listed.setIfInBounds i true).getD n true)=(List.range ops.length).filter fun n=>if n=i then true else S n:=List.filter_congr fun n _=>Pf n
 rw[h1,key _ List.nodup_range (F7.2 N6)];have e:((List.range ops.length).filter fun n=>S n).length=((List.range ops.length).filter fun i=>listed.getD i true).length:=rfl
 omega):p:=h
theorem V48{p:Prop}(h:p:=by
 intro k o1 hk PR j hj;rw[Pf]at PR⊢;by_cases On:j=i
 ·rw[c7 On]
 ·rw[b8 On];by_cases S2:k=i
  ·subst S2;rw[ho]at hk;injection hk with hk;subst hk;exact O0 j hj
  ·rw[b8 S2]at PR
   exact N9 k o1 hk PR j hj):p:=h
theorem V42{p:Prop}(h:p:=by
 intro v w' ρ' M6;rw[<-Nl]at M6;refine ih (listed.setIfInBounds i true) ρ' _ w' (by simpa using N2) Ue QC ?_;rw[nQ ops es s (fun n=>(listed.setIfInBounds i true).getD n true) (fun n=>if n=i then true else S n) 0 fun n _=>Pf n]
 exact M6):p:=h
theorem V28{p:Prop}(h:p:=by
 have hg:=NX.guard;unfold eO at hg⊢;split at hg
 ·exact hg
 ·rename_i j want Sf;rcases hg with⟨dj,b1,k1,k2,k3⟩|⟨dj,k1,k2,k3⟩
  ·refine .inl ⟨dj,b1,k1,?_,k3⟩;rw[OW dj (by simp only[fk,Sf,f0];right;rw[k1];simp)];exact k2
  ·refine .inr ⟨dj,k1,?_,k3⟩;rw[OW dj (by simp only[fk,Sf,f0];right;rw[k1];simp)]
   exact k2):p:=h
theorem V24{p:Prop}(h:p:=by
 refine .inl (QQ N B M w0 ρ (sel s ops es S 0) a w Q _ hc (fun _ _=>rfl) (fun _ _=>rfl) (fun d hd hU=>?_) NX.dst next);rcases IX ops es s S 0 d hU with h|⟨j,o',b',e',h1,h2,h3,h4⟩
 ·exact g2 d hd (ot ops es s _ 0 d h)
 ·simp only[u6]at h1;have On:j≠i:=fun e=>by subst e;rw[R8]at h1;cases h1
  rcases H5 On with M3|Uo
  ·exact om Of M3 h2 ho h3 he h4 hd
  ·exact om Of Uo ho h2 he h3 hd h4):p:=h
theorem V79{p:Prop}(h:p:=by
 rw[b8 (by rw[hw];simp)];have Tu:=NX.no rfl;subst Tu
 exact next undef w ρ (hc.put NX.dst (av:= .tup []) ⟨#[],rfl,trivial⟩ aaT [])):p:=h
theorem GD {B:Nat}{M:Nat->Prop}{w0:Start}{Q:Exit->Act->World->Prop}(s:F_)(es:List (Bool×Eff))(M0:es.length=ops.length)(Of:go P N ops s ops es)(Pt:tl ops (es.map fun p=>(p.2.R,p.2.us.map (·.1)))=true)
  (hQ:∀ρ a w,Conc N B M w0 ρ (gZ s ops es) a w->Q .normal a w):
  ∀(fuel:Nat) (listed:Array Bool) (ρ:Rho) (a:Act) (w:World),listed.size=ops.length->(ops.length<=fuel+((List.range ops.length).filter fun i=>listed.getD i true).length)->
   (∀i o,ops[i]?=some o->listed.getD i true=true->∀j∈cP o,listed.getD j true=true)->
   Conc N B M w0 ρ (sel s ops es (fun i=>listed.getD i true) 0) a w->wpAny P .any ops.toArray Q fuel listed a w:=by
 have QP:=BG (ops:=ops) Pt
 have ON:∀listed:Array Bool,listed.size=ops.length->Region.ready .any ops.toArray listed=[]->∀i,i<ops.length->listed.getD i true=true:=by exact V11
 have NM:∀(listed:Array Bool) (ρ:Rho) (a:Act) (w:World),listed.size=ops.length->Conc N B M w0 ρ (sel s ops es (fun i=>listed.getD i true) 0) a w->Region.ready .any ops.toArray listed=[]->Q .normal a w:=by exact V112
 intro fuel
 induction fuel with
 | zero=>exact V15
 | succ fuel ih=>
  intro listed ρ a w N2 PJ N9 hc;refine⟨NM listed ρ a w N2 hc,fun i hi=>?_⟩
  obtain⟨QE,o,ho,O0⟩:listed.getD i true=false/\∃o,ops[i]?=some o/\∀j∈cP o,listed.getD j true=true:=by exact V12
  have N6:i<ops.length:=by
   rcases m5 i ops.length with h'|h'
   ·exact h'
   ·rw[e9 h']at ho;cases ho
  obtain⟨b,e,he⟩:∃b e,es[i]?=some (b,e):=⟨_,_,i8 o_⟩;have NX:=pQ ops es s 0 Of i o b e ho he;simp only[u6]at NX
  let S:Nat->Bool:=fun i=>listed.getD i true
  have Np:∀j o' b' e',ops[j]?=some o'->es[j]?=some (b',e')->j≠i->(eZ ops o o' (e.R,e.us.map (·.1)) (e'.R,e'.us.map (·.1))=true\/eZ ops o' o (e'.R,e'.us.map (·.1)) (e.R,e.us.map (·.1))=true)->S j=decide (j<i):=by
   intro j o' b' e' Nr NV M9 Np;have g1:(es.map fun p=>(p.2.R,p.2.us.map (·.1)))[i]?=some (e.R,e.us.map (·.1)):=(by simp[he]);have g2:(es.map fun p=>(p.2.R,p.2.us.map (·.1)))[j]?=some (e'.R,e'.us.map (·.1)):=by simp[NV]
   have Uy:∀(a b:Oper) (ra rb:List Id×List Id),eZ ops a b ra rb=true->eZ ops b a rb ra=true:=by
    intro a b ra rb h;simp only[eZ,w5,y9]at h⊢;rcases h with(((h|h)|h)|⟨k,h1,h2|h2⟩)|⟨k,h1,h2⟩
    ·exact .inl (.inl (.inl (.inr h)))
    ·exact .inl (.inl (.inl (.inl h)))
    ·refine .inl (.inl (.inr ?_));unfold lK at h⊢;split at h
     ·rename_i d d' e1 e2;rw[e1,e2];simp at h⊢;exact h.symm
     ·cases h
    ·exact .inr ⟨k,h1,h2⟩
    ·exact .inl (.inr ⟨k,memI_iff.1 h2,.inr (memI_iff.2 h1)⟩)
    ·exact .inl (.inr ⟨k,h1,.inl h2⟩)
   rcases H5 M9 with M3|Uo
   ·have hd:decide (j<i)=true:=(by simpa using M3);rw[hd];have OD:eZ ops o' o (e'.R,e'.us.map (·.1)) (e.R,e.us.map (·.1))=true:=Np.elim (Uy _ _ _ _) id;rcases tF Pt j i o' o _ _ M3 Nr ho g2 g1 with h|⟨f,h⟩
    ·rw[OD]at h;cases h
    ·exact yR N9 ho O0 _ j h
   ·have hd:decide (j<i)=false:=(by simp;omega);rw[hd];have OD:eZ ops o o' (e.R,e.us.map (·.1)) (e'.R,e'.us.map (·.1))=true:=Np.elim id (Uy _ _ _ _);rcases tF Pt i j o o' _ _ Uo ho Nr g1 g2 with h|⟨f,h⟩
    ·rw[OD]at h;cases h
    ·cases hj:S j with
     | false=>rfl
     | true=>
      have:=lR N9 _ j hj i h;rw[QE]at this
      cases this
  have R8:S i=false:=QE
  have OW:∀t,t∈fk ops o->(sel s ops es S 0).L t=(sel s ops es (fun n=>decide (n<i)) 0).L t:=by
   intro t ht;refine GY ops es s s S _ 0 t rfl fun j o' h1 h2=>?_;simp only[u6];by_cases On:j=i
   ·subst On;rw[R8];simp
   ·have Ol:j<es.length:=by exact V114
    refine Np j o' _ _ h1 (i8 Ol) On (.inl ?_);simp only[eZ,w5];refine .inl (.inl (.inl (.inr ?_)));simp only[wD,h2];exact memN_iff.2 ht
  have Vl:∀q∈e.R,(sel s ops es S 0).H q=(sel s ops es (fun n=>decide (n<i)) 0).H q:=by
   intro q hq;refine EG ops es s s S _ 0 q rfl fun j o' b' e' h1 h2 h3=>?_;simp only[u6];by_cases On:j=i
   ·subst On;rw[R8];simp
   ·refine Np j o' b' e' h1 h2 On (.inl ?_);simp only[eZ,w5,y9];exact .inr ⟨q,h3,memI_iff.2 hq⟩
  have Rp:∀j o' b' e',i<j->S (0+j)=true->ops[j]?=some o'->es[j]?=some (b',e')->Apart o.dst o'.dst e e':=by
   intro j o' b' e' Pk S3 h1 h2;simp only[u6]at S3
   have Sk:eZ ops o o' (e.R,e.us.map (·.1)) (e'.R,e'.us.map (·.1))=false:=by
    cases M6:eZ ops o o' (e.R,e.us.map (·.1)) (e'.R,e'.us.map (·.1))with
    | false=>rfl
    | true=>have:=Np j o' b' e' h1 h2 o_ (.inl M6);rw[S3]at this;simp at this;omega
   simp only[eZ,v9,F8,w5,not_or]at Sk;obtain⟨⟨⟨_,h5⟩,h6⟩,h7⟩:=Sk;refine⟨fun t ht XF=>?_,fun q hq Nb=>?_⟩
   ·simp[lK,ht,XF]at h5
   ·exact(h6 q hq).2 (memI_iff.2 Nb)
  have Nl:(sel s ops es (fun n=>if n=i then true else S n) 0)=(sel s ops es S 0).app o.dst e:=by have:=Ac ops es s S 0 i o b e ho he (by simpa using R8) Rp;simpa using this
  have Pf:∀n,(listed.setIfInBounds i true).getD n true=(if n=i then true else S n):=by exact V68
  have Ue:ops.length<=fuel+((List.range ops.length).filter fun n=>(listed.setIfInBounds i true).getD n true).length:=by exact V8
  have QC:∀k o1,ops[k]?=some o1->(listed.setIfInBounds i true).getD k true=true->∀j∈cP o1,(listed.setIfInBounds i true).getD j true=true:=by exact V48
  have next:∀(v:Value) (w':World) (ρ':Rho),Conc N B M w0 ρ' ((sel s ops es S 0).app o.dst e) (a.put o.dst v) w'->wpAny P .any ops.toArray Q fuel (listed.setIfInBounds i true) (a.put o.dst v) w':=by exact V42
  have Rv:eO ops (sel s ops es S 0) o b:=by exact V28
  have hw:=sj (ops:=ops) hc Rv;unfold wpOp;have Nr:ops.toArray[i]?=some o:=by simpa using ho
  rw[Nr];show if Region.wanted o (yielded ops.toArray a.tmps)=true then _ else _
  cases b with
  | true=>
   rw[c7 hw];obtain⟨g1,g2⟩:=NX.yes rfl;have QQ:=g1.mono (rO OW) Vl
   exact V24
  | false=>exact V79
end
def lT (ops:List Oper)(a b:Oper)(ra rb:List Id×List Id):Bool:=
 wD a (fk ops b)||wD b (fk ops a)||lK a b||ra.2.any (fun k=>kG k rb.1||kG k rb.2)
def clX (ops:List Oper)(xi xj i j:Nat)(a b:Oper)(ra rb:List Id×List Id):Bool:=
 bif Nat.beq i xi&&Nat.beq j xj then lT ops a b ra rb else bif Nat.beq j xi&&Nat.beq i xj then lT ops b a rb ra else eZ ops a b ra rb||eZ ops b a rb ra
def qc (ops:List Oper)(xi xj:Nat)(m:Nat->Nat)(i:Nat)(o:Oper)(r:List Id×List Id):Nat->List Oper->Log->Bool
 | j,o'::l,r'::log=>(!clX ops xi xj i j o o' r r'||Nat.testBit (m j) i)&&qc ops xi xj m i o r (j+1) l log
 | _,_,_=>true
def ls (ops:List Oper)(xi xj:Nat)(m:Nat->Nat):Nat->List Oper->Log->Bool
 | i,o::l,r::log=>(cP o).all (fun j=>Nat.blt j i)&&qc ops xi xj m i o r (i+1) l log&&ls ops xi xj m (i+1) l log
 | _,[],[]=>true
 | _,_,_=>false
def lC (ops:List Oper)(xi xj:Nat)(log:Log):Bool:=Nat.blt xi xj&&ls ops xi xj (fun j=>(Eo [] ops).getD j 0) 0 ops log
def w1T (P:Program)(Γ:Env)(N:Nat)(o:Oper)(st:St)(K:St->Eff->Prop):Prop:=
 match o.dst with
 | some d=>(match Nat.blt d N with
   | true=>sem P Γ d o (evL (dn st.fr)) (cq st.h) fun e=>
    (
     match e.new with
     | some n=>(match used st.u n with
      | false=>st.put (some d) e fun M2 _=>K M2 e
      | true=>False)
     | none=>st.put (some d) e fun M2 _=>K M2 e)
   | false=>False)
 | none=>sem P Γ (100000+st.u.length) o (evL (dn st.fr)) (cq st.h) fun e=>
   (
   match e.new with
   | some n=>(match used st.u n with
     | false=>st.put none e fun M2 _=>K M2 e
     | true=>False)
   | none=>st.put none e fun M2 _=>K M2 e)
abbrev Fz (P:Program)(Γ:Env)(N:Nat):List Oper->St->List (St×Eff)->(St->List (St×Eff)->Prop)->Prop
 | [],st,tr,K=>K st tr
 | o::rest,st,tr,K=>
  match o.guard with
  | none=>w1T P Γ N o st fun M2 e=>Fz P Γ N rest M2 ((st,e)::tr) K
  | some _=>False
def Jh:List (St×Eff)->Log
 | []=>[]
 | p::l=>(p.2.R,p.2.us.map (·.1))::Jh l
def HC (P:Program)(Γ:Env)(ops:List Oper)(xi xj:Nat)(tr:List (St×Eff)):Prop:=
 match ops[xi]?,tr[xi]?,tr[xj]? with
 | some o,some (sti,ei),some (_,ej)=>sem P Γ (bK o sti.u) o (evL (dn sti.fr)) (cq (tp ej.us sti.h)) fun e=>e=ei
 | _,_,_=>False
def Kq (P:Program)(Γ:Env)(N:Nat)(ops:List Oper)(xi xj:Nat)(st:St)(K:St->Prop):Prop:=
 Fz P Γ N ops st [] fun M2 tr=>lC ops xi xj (Jh tr.reverse)=true/\HC P Γ ops xi xj tr.reverse/\K M2
section
variable {P:Program} {Γ:Env} {N:Nat} {ops:List Oper} {m:Nat->Nat} {xi xj:Nat}
theorem gV (ops:List Oper)(xi xj i j:Nat)(a b:Oper)(ra rb:List Id×List Id):
  (i=xi/\j=xj/\clX ops xi xj i j a b ra rb=lT ops a b ra rb)\/(j=xi/\i=xj/\(i≠xi\/j≠xj)/\clX ops xi xj i j a b ra rb=lT ops b a rb ra)\/
  (¬(i=xi/\j=xj)/\¬(j=xi/\i=xj)/\clX ops xi xj i j a b ra rb=(eZ ops a b ra rb||eZ ops b a rb ra)):=by
 have hb:∀p q p' q':Nat,(Nat.beq p q&&Nat.beq p' q')=true↔p=q/\p'=q':=fun p q p' q'=>by
  rw[b9];exact⟨fun h=>⟨s9 h.1,s9 h.2⟩,fun h=>by obtain⟨rfl,rfl⟩:=h;simp⟩
 unfold clX
 cases h1:(Nat.beq i xi&&Nat.beq j xj)with
 | true=>exact .inl ⟨((hb _ _ _ _).1 h1).1,((hb _ _ _ _).1 h1).2,rfl⟩
 | false=>
  have n1:¬(i=xi/\j=xj):=fun h=>by rw[(hb _ _ _ _).2 h]at h1;cases h1
  cases h2:(Nat.beq j xi&&Nat.beq i xj)with
  | true=>
   refine .inr (.inl ⟨((hb _ _ _ _).1 h2).1,((hb _ _ _ _).1 h2).2,?_,rfl⟩);by_cases e:i=xi
   ·exact .inr fun e2=>n1 ⟨e,e2⟩
   ·exact .inl e
  | false=>exact .inr (.inr ⟨n1,(fun h=>by rw[(hb _ _ _ _).2 h]at h2;cases h2),rfl⟩)
theorem IH {i j:Nat}{a b:Oper}{ra rb:List Id×List Id}(hx:xi<xj)(h:clX ops xi xj i j a b ra rb=true):clX ops xi xj j i b a rb ra=true:=by
 rcases gV ops xi xj i j a b ra rb with⟨e1,e2,e⟩|⟨e1,e2,_,e⟩|⟨n1,n2,e⟩<;>rw[e]at h
 ·rcases gV ops xi xj j i b a rb ra with⟨g1,g2,g⟩|⟨g1,g2,_,g⟩|⟨g1,g2,g⟩<;>rw[g]
  ·omega
  ·exact h
  ·exact absurd ⟨e1,e2⟩ g2
 ·rcases gV ops xi xj j i b a rb ra with⟨g1,g2,g⟩|⟨g1,g2,_,g⟩|⟨g1,g2,g⟩<;>rw[g]
  ·exact h
  ·omega
  ·exact absurd ⟨e1,e2⟩ g1
 ·rcases gV ops xi xj j i b a rb ra with⟨g1,g2,g⟩|⟨g1,g2,_,g⟩|⟨g1,g2,g⟩<;>rw[g]
  ·exact absurd ⟨g1,g2⟩ n2
  ·exact absurd ⟨g1,g2⟩ n1
  ·rw[Bool.or_comm];exact h
theorem GT {i j:Nat}{o o':Oper}{r r':List Id×List Id}(h:wD o' (fk ops o)=true):clX ops xi xj i j o o' r r'=true:=by rcases gV ops xi xj i j o o' r r' with⟨e1,e2,e⟩|⟨e1,e2,_,e⟩|⟨n1,n2,e⟩<;>rw[e]<;>simp[lT,eZ,h]
theorem yX {i j:Nat}{o o':Oper}{r r':List Id×List Id}(hx:¬(i=xi/\j=xj))(h:r'.2.any (fun k=>kG k r.1)=true):clX ops xi xj i j o o' r r'=true:=by
 have h2:r'.2.any (fun k=>kG k r.1||kG k r.2)=true:=by rw[y9]at h⊢;obtain⟨q,h1,h2⟩:=h;exact⟨q,h1,by rw[h2];rfl⟩
 rcases gV ops xi xj i j o o' r r' with⟨e1,e2,e⟩|⟨e1,e2,_,e⟩|⟨n1,n2,e⟩<;>rw[e]
 ·exact absurd ⟨e1,e2⟩ hx
 ·simp only[lT,h2,Bool.or_true]
 ·simp only[eZ,h,Bool.or_true,Bool.true_or]
theorem FF {i j:Nat}{o o':Oper}{r r':List Id×List Id}(hx:xi<xj)(Pk:i<j)(h:clX ops xi xj i j o o' r r'=false):lK o o'=false/\∀q∈r.2,¬kG q r'.2=true:=by
 have key:lT ops o o' r r'=false->lK o o'=false/\∀q∈r.2,¬kG q r'.2=true:=by intro h;simp only[lT,v9,F8,w5,not_or]at h;exact⟨h.1.2,fun q hq=>(h.2 q hq).2⟩
 rcases gV ops xi xj i j o o' r r' with⟨e1,e2,e⟩|⟨e1,e2,_,e⟩|⟨n1,n2,e⟩<;>rw[e]at h
 ·exact key h
 ·omega
 ·simp only[v9]at h;refine key ?_;have:=h.1;simp only[eZ,v9]at this;simp only[lT,v9];exact this.1
theorem oM:∀(l:List Oper) (log:Log) (k:Nat),ls ops xi xj m k l log=true->∀i o,l[i]?=some o->∀j∈cP o,j<k+i
 | [],_,_,_,i,o,h=>by simp at h
 | o0::l,[],k,h,_,_,_=>by simp[ls]at h
 | o0::l,r::log,k,h,i,o,ho=>by
  simp only[ls,b9,o8]at h
  cases i with
  | zero=>simp at ho;subst ho;intro j hj;simpa using h.1.1 j hj
  | succ i=>intro j hj;have:=oM l log (k+1) h.2 i o aau j hj;omega
theorem qv:∀(l:List Oper) (log:Log) (i:Nat) (o:Oper) (r:List Id×List Id) (k:Nat),qc ops xi xj m i o r k l log=true->∀j o' r',l[j]?=some o'->log[j]?=some r'->clX ops xi xj i (k+j) o o' r r'=false\/(m (k+j)).testBit i=true
 | [],_,_,_,_,_,_,j,o',r',h,_=>by simp at h
 | _::_,[],_,_,_,_,_,j,o',r',_,h=>by simp at h
 | o0::l,r0::log,i,o,r,k,h,j,o',r',ho,hr=>by
  simp only[qc,b9,w5,v2]at h
  cases j with
  | zero=>
   simp at ho hr;subst ho;subst hr
   exact h.1
  | succ j=>have:=qv l log i o r (k+1) h.2 j o' r' aau aaO;rwa [show k+1+j=k+(j+1) by omega]at this
theorem ov:∀(l:List Oper) (log:Log) (k:Nat),ls ops xi xj m k l log=true->∀i j o o' r r',i<j->l[i]?=some o->l[j]?=some o'->log[i]?=some r->log[j]?=some r'->clX ops xi xj (k+i) (k+j) o o' r r'=false\/(m (k+j)).testBit (k+i)=true
 | [],_,_,_,i,j,o,o',r,r',_,h,_,_,_=>by simp at h
 | _::_,[],_,_,i,j,o,o',r,r',_,_,_,h,_=>by simp at h
 | o0::l,r0::log,k,h,i,j,o,o',r,r',Pk,h1,h2,h3,h4=>by
  simp only[ls,b9]at h;obtain⟨j,rfl⟩:∃j',j=j'+1:=⟨j-1,o_⟩
  cases i with
  | zero=>
   simp at h1 h3;subst h1;subst h3;have:=qv l log k o0 r0 (k+1) h.1.2 j o' r' aag aaC
   rwa [show k+1+j=k+(j+1) by omega]at this
  | succ i=>have:=ov l log (k+1) h.2 i j o o' r r' o_ aaj aag aaB aaC;rwa [show k+1+i=k+(i+1) by omega,show k+1+j=k+(j+1) by omega]at this
theorem zv {log:Log}(h:lC ops xi xj log=true):∀i o,ops[i]?=some o->∀j∈cP o,j<i:=fun i o ho j hj=>by
 have:=oM ops log 0 (by unfold lC at h;rw[b9]at h;exact h.2) i o ho j hj;omega
theorem qn {log:Log}(h:lC ops xi xj log=true)(i j:Nat)(o o':Oper)(r r':List Id×List Id)(Pk:i<j)(h1:ops[i]?=some o)(h2:ops[j]?=some o')(h3:log[i]?=some r)(h4:log[j]?=some r'):clX ops xi xj i j o o' r r'=false\/∃f,i∈anc ops f j:=by
 rcases ov ops log 0 (by unfold lC at h;rw[b9]at h;exact h.2) i j o o' r r' Pk h1 h2 h3 h4 with h|h
 ·simp only[u6]at h;exact .inl h
 ·simp only[u6]at h;exact .inr (uO ops [] [] rfl rfl (fun j i hb=>by simp at hb) j i h)
theorem AY:∀(l:List Oper) (es:List (Bool×Eff)) (s:F_) (S:Nat->Bool) (k j:Nat) (o:Oper) (b:Bool) (e:Eff) (q:Id),l[j]?=some o->es[j]?=some (b,e)->S (k+j)=true->q∈e.us.map (·.1)->
  (∀j' o' b' e',j<j'->l[j']?=some o'->es[j']?=some (b',e')->q∈e'.us.map (·.1)->S (k+j')=false)->∀H:Id->Option AO,(sel s l es S k).H q=bW H e.us q
 | [],_,_,_,_,j,_,_,_,_,h,_,_,_,_=>by simp at h
 | _::_,[],_,_,_,j,_,_,_,_,_,h,_,_,_=>by simp at h
 | o0::l,(b0,e0)::es,s,S,k,0,o,b,e,q,ho,he,hS,hq,Nm=>by
  intro H;simp only[f9,Option.some.injEq,Prod.mk.injEq,y6]at ho he hS;obtain⟨rfl,rfl⟩:=he;subst ho;rw[sel,c7 hS]
  have h1:=EG l es (s.app o0.dst e0) (s.app o0.dst e0) S (fun _=>false) (k+1) q rfl fun j o' b' e' h1 h2 h3=>by
   have:=Nm (j+1) o' b' e' o_ aaj aag h3;rwa [show k+(j+1)=k+1+j by omega]at this
  rw[h1,mW l es _ _ _ fun _ _ _=>rfl]
  exact mt e0.us _ _ q hq
 | o0::l,(b0,e0)::es,s,S,k,j+1,o,b,e,q,ho,he,hS,hq,Nm=>by
  intro H;rw[sel];refine AY l es _ S (k+1) j o b e q aau (by simpa using he) (by rw[show k+1+j=k+(j+1) by omega];exact hS) hq (fun j' o' b' e' h0 h1 h2 h3=>?_) H;have:=Nm (j'+1) o' b' e' o_ aaj aag h3;rwa [show k+(j'+1)=k+1+j' by omega]at this
theorem KJ {o:Oper}{st:St}{K:St->Eff->Prop}(hΓ:Γ.chk P=true)(h:w1T P Γ N o st K):
  ∃e,K (st.app o.dst e) e/\(∀d,o.dst=some d->d<N)/\Good P o (evL st.fs.L) st.fs.H e/\(∀n,e.new=some n->¬st.fs.U n):=by
 have fin:∀(d:Option Nat) (e:Eff),(match e.new with
     | some n=>(match used st.u n with
      | false=>st.put d e fun M2 _=>K M2 e
      | true=>False)
     | none=>st.put d e fun M2 _=>K M2 e)->K (st.app d e) e/\∀n,e.new=some n->¬st.fs.U n:=by
  exact V33
 unfold w1T at h;exact V26
theorem Em:∀(T:List (St×Eff)),Jh T=(T.map fun p=>(true,p.2)).map fun p=>(p.2.R,p.2.us.map (·.1))
 | []=>rfl
 | p::T=>by rw[Jh,Em T];rfl
theorem Cz (hΓ:Γ.chk P=true):∀(l:List Oper) (st:St) (tr:List (St×Eff)) (K:St->List (St×Eff)->Prop),Fz P Γ N l st tr K->
  ∃(T:List (St×Eff)) (M2:St),T.length=l.length/\go P N ops st.fs l (T.map fun p=>(true,p.2))/\(∀k i p,T[i]?=some p->p.1.fs=sel st.fs l (T.map fun p=>(true,p.2)) (fun n=>decide (n<k+i)) k)/\M2.fs=gZ st.fs l (T.map fun p=>(true,p.2))/\K M2 (T.reverse++tr)
 | [],st,tr,K,h=>⟨[],st,rfl,trivial,fun _ _ _ h=>by simp at h,rfl,h⟩
 | o::rest,st,tr,K,h=>by
  rw[Fz]at h;split at h
  ·rename_i Sf;obtain⟨e,h1,h2,h3,h4⟩:=KJ hΓ h;obtain⟨T,M2,g1,g2,g3,g4,g5⟩:=Cz hΓ rest _ _ _ h1;rw[zc]at g2 g4;refine⟨(st,e)::T,M2,by simp[g1],⟨⟨h2,by unfold eO;rw[Sf],fun _=>⟨h3,h4⟩,fun h=>by cases h⟩,g2⟩,fun k i p hp=>?_,g4,by simpa using g5⟩
   cases i with
   | zero=>
    simp only[f9,Option.some.injEq]at hp;subst hp
    rw[mW _ _ _ _ _ fun i h1 _=>by simp;omega]
   | succ i=>have:=g3 (k+1) i p (by simpa using hp);rw[zc]at this;rw[this,p7,sel];have hd:decide (k<k+(i+1))=true:=s_;simp only[hd,if_true];rw[show k+(i+1)=k+1+i by omega]
  ·exact h.elim
 termination_by l=>l.length
theorem Dl {xi xj:Nat}{B:Nat}{M:Nat->Prop}{w0:Start}{Q:Exit->Act->World->Prop}(s:F_)(es:List (Bool×Eff))(M0:es.length=ops.length)(Of:go P N ops s ops es)(Ud:xi<xj)(Pt:lC ops xi xj (es.map fun p=>(p.2.R,p.2.us.map (·.1)))=true)
  {oi oj:Oper} {bj:Bool} {ei ej:Eff} (VN:ops[xi]?=some oi) (YV:es[xi]?=some (true,ei)) (WF:ops[xj]?=some oj) (ST:es[xj]?=some (bj,ej)) (hX:Good P oi (evL (sel s ops es (fun n=>decide (n<xi)) 0).L) (bW (sel s ops es (fun n=>decide (n<xi)) 0).H ej.us) ei)
  (hQ:∀ρ a w,Conc N B M w0 ρ (gZ s ops es) a w->Q .normal a w):
  ∀(fuel:Nat) (listed:Array Bool) (ρ:Rho) (a:Act) (w:World),listed.size=ops.length->(ops.length<=fuel+((List.range ops.length).filter fun i=>listed.getD i true).length)->
   (∀i o,ops[i]?=some o->listed.getD i true=true->∀j∈cP o,listed.getD j true=true)->
   Conc N B M w0 ρ (sel s ops es (fun i=>listed.getD i true) 0) a w->wpAny P .any ops.toArray Q fuel listed a w:=by
 have QP:=zv (ops:=ops) Pt
 have ON:∀listed:Array Bool,listed.size=ops.length->Region.ready .any ops.toArray listed=[]->∀i,i<ops.length->listed.getD i true=true:=by exact V11
 have NM:∀(listed:Array Bool) (ρ:Rho) (a:Act) (w:World),listed.size=ops.length->Conc N B M w0 ρ (sel s ops es (fun i=>listed.getD i true) 0) a w->Region.ready .any ops.toArray listed=[]->Q .normal a w:=by exact V112
 intro fuel
 induction fuel with
 | zero=>exact V15
 | succ fuel ih=>
  intro listed ρ a w N2 PJ N9 hc;refine⟨NM listed ρ a w N2 hc,fun i hi=>?_⟩
  obtain⟨QE,o,ho,O0⟩:listed.getD i true=false/\∃o,ops[i]?=some o/\∀j∈cP o,listed.getD j true=true:=by exact V12
  have N6:i<ops.length:=by
   rcases m5 i ops.length with h'|h'
   ·exact h'
   ·rw[e9 h']at ho;cases ho
  obtain⟨b,e,he⟩:∃b e,es[i]?=some (b,e):=⟨_,_,i8 o_⟩;have NX:=pQ ops es s 0 Of i o b e ho he;simp only[u6]at NX
  let S:Nat->Bool:=fun i=>listed.getD i true
  have Np:∀j o' b' e',ops[j]?=some o'->es[j]?=some (b',e')->j≠i->clX ops xi xj i j o o' (e.R,e.us.map (·.1)) (e'.R,e'.us.map (·.1))=true->S j=decide (j<i):=by
   intro j o' b' e' Nr NV M9 Np;have g1:(es.map fun p=>(p.2.R,p.2.us.map (·.1)))[i]?=some (e.R,e.us.map (·.1)):=(by simp[he]);have g2:(es.map fun p=>(p.2.R,p.2.us.map (·.1)))[j]?=some (e'.R,e'.us.map (·.1)):=(by simp[NV]);rcases H5 M9 with M3|Uo
   ·have hd:decide (j<i)=true:=(by simpa using M3);rw[hd];have OD:clX ops xi xj j i o' o (e'.R,e'.us.map (·.1)) (e.R,e.us.map (·.1))=true:=IH Ud Np;rcases qn Pt j i o' o _ _ M3 Nr ho g2 g1 with h|⟨f,h⟩
    ·rw[OD]at h;cases h
    ·exact yR N9 ho O0 _ j h
   ·have hd:decide (j<i)=false:=(by simp;omega);rw[hd];rcases qn Pt i j o o' _ _ Uo ho Nr g1 g2 with h|⟨f,h⟩
    ·rw[Np]at h;cases h
    ·cases hj:S j with
     | false=>rfl
     | true=>
      have:=lR N9 _ j hj i h;rw[QE]at this
      cases this
  have R8:S i=false:=QE
  have OW:∀t,t∈fk ops o->(sel s ops es S 0).L t=(sel s ops es (fun n=>decide (n<i)) 0).L t:=by
   intro t ht;refine GY ops es s s S _ 0 t rfl fun j o' h1 h2=>?_;simp only[u6];by_cases On:j=i
   ·subst On;rw[R8];simp
   ·have Ol:j<es.length:=by exact V114
    refine Np j o' _ _ h1 (i8 Ol) On (GT ?_);simp only[wD,h2];exact memN_iff.2 ht
  have Qv:∀q∈e.R,(∀j o' b' e',ops[j]?=some o'->es[j]?=some (b',e')->q∈e'.us.map (·.1)->i=xi->j=xj->S j=false)->(sel s ops es S 0).H q=(sel s ops es (fun n=>decide (n<i)) 0).H q:=by
   intro q hq Nm;refine EG ops es s s S _ 0 q rfl fun j o' b' e' h1 h2 h3=>?_;simp only[u6];by_cases On:j=i
   ·subst On;rw[R8];simp
   ·by_cases hx:i=xi/\j=xj
    ·rw[Nm j o' b' e' h1 h2 h3 hx.1 hx.2];symm;rw[p9];omega
    ·refine Np j o' b' e' h1 h2 On ?_;exact yX hx (y9.2 ⟨q,h3,memI_iff.2 hq⟩)
  have Vr:Good P o (evL (sel s ops es S 0).L) (sel s ops es S 0).H e\/b=false:=by
   cases b with
   | false=>exact .inr rfl
   | true=>
    left;obtain⟨k1,_⟩:=NX.yes rfl;by_cases hx:i=xi/\S xj=true
    ·obtain⟨S5,S3⟩:=hx;subst S5;have eo:oi=o:=(by rw[ho]at VN;injection VN with h;exact h.symm);have ee:ei=e:=(by rw[he]at YV;injection YV with h;injection h with _ h;exact h.symm);subst eo;subst ee;have hg:=hX;refine hg.mono (rO OW) fun q hq=>?_;by_cases hk:q∈ej.us.map (·.1)
     ·have h1:=AY ops es s S 0 xj oj bj ej q WF ST (by simpa using S3) hk (fun j o' b' e' hj h1 h2 h3=>by
       simp only[u6];have On:j≠i:=o_;have hx:¬(i=i/\j=xj):=fun h=>o_;have:=Np j o' b' e' h1 h2 On (yX hx (y9.2 ⟨q,h3,memI_iff.2 hq⟩))
       rw[this,p9];omega) (sel s ops es (fun n=>decide (n<i)) 0).H
      exact h1
     ·rw[cE ej.us _ q hk];refine Qv q hq fun j o' b' e' h1 h2 h3 _ Pp=>?_;subst Pp;rw[ST]at h2;injection h2 with h2;injection h2 with _ h2;subst h2;exact absurd h3 hk
    ·refine k1.mono (rO OW) fun q hq=>Qv q hq fun j o' b' e' h1 h2 h3 S5 Pp=>?_;subst Pp
     cases hS:S j with|false=>rfl|true=>exact absurd ⟨S5,hS⟩ hx
  have Rp:∀j o' b' e',i<j->S (0+j)=true->ops[j]?=some o'->es[j]?=some (b',e')->Apart o.dst o'.dst e e':=by
   intro j o' b' e' Pk S3 h1 h2;simp only[u6]at S3
   have Sk:clX ops xi xj i j o o' (e.R,e.us.map (·.1)) (e'.R,e'.us.map (·.1))=false:=by
    cases M6:clX ops xi xj i j o o' (e.R,e.us.map (·.1)) (e'.R,e'.us.map (·.1))with
    | false=>rfl
    | true=>have:=Np j o' b' e' h1 h2 o_ M6;rw[S3]at this;simp at this;omega
   obtain⟨h5,h6⟩:=FF Ud Pk Sk;refine⟨fun t ht XF=>?_,fun q hq Nb=>?_⟩
   ·simp[lK,ht,XF]at h5
   ·exact h6 q hq (memI_iff.2 Nb)
  have Nl:(sel s ops es (fun n=>if n=i then true else S n) 0)=(sel s ops es S 0).app o.dst e:=by have:=Ac ops es s S 0 i o b e ho he (by simpa using R8) Rp;simpa using this
  have Pf:∀n,(listed.setIfInBounds i true).getD n true=(if n=i then true else S n):=by exact V68
  have Ue:ops.length<=fuel+((List.range ops.length).filter fun n=>(listed.setIfInBounds i true).getD n true).length:=by exact V8
  have QC:∀k o1,ops[k]?=some o1->(listed.setIfInBounds i true).getD k true=true->∀j∈cP o1,(listed.setIfInBounds i true).getD j true=true:=by exact V48
  have next:∀(v:Value) (w':World) (ρ':Rho),Conc N B M w0 ρ' ((sel s ops es S 0).app o.dst e) (a.put o.dst v) w'->wpAny P .any ops.toArray Q fuel (listed.setIfInBounds i true) (a.put o.dst v) w':=by exact V42
  have Rv:eO ops (sel s ops es S 0) o b:=by exact V28
  have hw:=sj (ops:=ops) hc Rv;unfold wpOp;have Nr:ops.toArray[i]?=some o:=by simpa using ho
  rw[Nr];show if Region.wanted o (yielded ops.toArray a.tmps)=true then _ else _
  cases b with
  | true=>
   rw[c7 hw];obtain⟨g1,g2⟩:=NX.yes rfl;have QQ:Good P o (evL (sel s ops es S 0).L) (sel s ops es S 0).H e:=Vr.resolve_right s_
   exact V24
  | false=>exact V79
theorem IJ (hΓ:Γ.chk P=true){st:St}{K:St->Prop}(h:Kq P Γ N ops xi xj st K):∃es M2,es.length=ops.length/\go P N ops st.fs ops es/\xi<xj/\lC ops xi xj (es.map fun p=>(p.2.R,p.2.us.map (·.1)))=true/\
  (∃oi oj bj ei ej,ops[xi]?=some oi/\es[xi]?=some (true,ei)/\ops[xj]?=some oj/\es[xj]?=some (bj,ej)/\Good P oi (evL (sel st.fs ops es (fun n=>decide (n<xi)) 0).L) (bW (sel st.fs ops es (fun n=>decide (n<xi)) 0).H ej.us) ei)/\M2.fs=gZ st.fs ops es/\K M2:=by
 obtain⟨T,M2,h1,h2,h3,h4,h5,h6,h7⟩:=Cz (ops:=ops) hΓ ops st [] _ h;simp only[m7,List.reverse_reverse]at h5 h6;refine⟨T.map fun p=>(true,p.2),M2,by simp[h1],h2,?_,by rw[<-Em];exact h5,?_,h4,h7⟩
 ·unfold lC at h5;rw[b9]at h5;simpa using h5.1
 ·unfold HC at h6;split at h6
  ·rename_i oi sti ei _ ej g1 g2 g3;obtain⟨e,g4,g5⟩:=wO hΓ h6;subst g4
   have hl:xj<ops.length:=by
    rw[<-h1];rcases m5 xj T.length with h'|h'
    ·exact h'
    ·rw[e9 h']at g3;cases g3
   have hs:=h3 0 xi _ g2;simp only[u6]at hs;refine⟨oi,ops[xj],true,e,ej,g1,by simp[g2],i8 hl,by simp[g3],?_⟩;rw[<-hs];have e2:bW sti.fs.H ej.us=cq (tp ej.us sti.h):=(by funext o;exact(od ej.us sti.h o).symm);show Good P oi (evL sti.fs.L) (bW sti.fs.H ej.us) e;rw[e2];exact g5
  ·exact h6.elim
end
end Go.Sim
