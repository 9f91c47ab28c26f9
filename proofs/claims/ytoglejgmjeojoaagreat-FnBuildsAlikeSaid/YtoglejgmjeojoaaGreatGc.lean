import Derived.Test.YtoglejgmjeojoaaGreatGb
namespace Go.Sim
open Go.RowKit
section
variable {P:Program} {Γ:Env} {N B:Nat} {M:Nat->Prop} {w0:Start} {ρ:Rho} {s:F_} {a:Act} {w:World} {o:Oper} {ev:Operand->AV} {H:Id->Option AO} {K:Eff->Prop} {KV:AV->Prop}
theorem Nm (x y:List UInt8):((⟨x.toArray⟩:ByteArray)==⟨y.toArray⟩)=(x==y):=by
 cases h:(x==y)with
 | true=>
  have e:x=y:=by simpa using h
  subst e
  exact(Go.MapKept.bytes_beq _ _).2 rfl
 | false=>
  cases h2:((⟨x.toArray⟩:ByteArray)==⟨y.toArray⟩)with
  | false=>rfl
  | true=>have e:=(Go.MapKept.bytes_beq _ _).1 h2;injection e with e;have:x=y:=(by simpa using e);subst this;simp at h
theorem mq {d:TypeDesc}{kk:Option IntKind}(hd:(∃k,d= .int k/\kk=some k)\/(d= .string/\kk=none)){x y:Tr}(hx:eh kk x)(hy:eh kk y):
  Instr.sameNow d (lP x) (lP y)=some (bH x y)/\Go.MapKept.IsKey d (lP x):=by
 rcases hd with⟨k,rfl,rfl⟩|⟨rfl,rfl⟩
 ·cases x<;>simp only[eh]at hx
  cases y<;>simp only[eh]at hy
  subst hx;subst hy;simp[lP,Instr.sameNow,bH,Go.MapKept.IsKey]
 ·cases x<;>simp only[eh]at hx
  cases y<;>simp only[eh]at hy
  refine⟨?_,trivial⟩;show some _=some _;rw[Nm];rfl
theorem Bl {kk:Option IntKind}{x y:Tr}(hx:eh kk x)(hy:eh kk y)(h:bH x y=true):lP x=lP y:=by
 cases kk with
 | some k=>
  cases x<;>simp only[eh]at hx
  cases y<;>simp only[eh]at hy
  subst hx;subst hy;simp only[bH,w5]at h
  rw[h]
 | none=>
  cases x<;>simp only[eh]at hx
  cases y<;>simp only[eh]at hy
  simp only[bH,w5]at h;rw[h]
theorem ut {d:TypeDesc}{kk:Option IntKind}(hd:(∃k,d= .int k/\kk=some k)\/(d= .string/\kk=none)){key:Tr}(hk:eh kk key):∀(l:List MapEntry) (es:List (Tr×Int)) (i:Nat),l.map (fun e=>(e.key,e.val))=es.map Gh->(∀p∈es,eh kk p.1)->
  (Instr.findNow d (lP key) l i=some none/\bT es key=none/\(∀v,cQ es key v=es++[(key,v)])/\jj es key=es)\/
  ∃j e q n,Instr.findNow d (lP key) l i=some (some (i+j,.int .i64 n))/\l[j]?=some e/\e.key=lP key/\bT es key=some n/\es[j]?=some (q,n)/\lP q=lP key/\(∀v,cQ es key v=es.set j (q,v))/\jj es key=es.eraseIdx j
 | [],[],i,_,_=> .inl ⟨rfl,rfl,fun _=>rfl,rfl⟩
 | [],_::_,_,h,_=>by simp at h
 | _::_,[],_,h,_=>by simp at h
 | e::l,(q,n)::es,i,h,hf=>by
  simp only[p7,List.cons.injEq,Gh,Prod.mk.injEq]at h;obtain⟨⟨h1,h2⟩,h3⟩:=h;obtain⟨hs,_⟩:=mq hd hk (hf (q,n) s_);have hq:=hf (q,n) s_
  cases hb:bH key q with
  | true=>
   rw[hb]at hs;refine .inr ⟨0,e,q,n,?_,rfl,?_,?_,rfl,(Bl hk hq hb).symm,fun v=>?_,?_⟩
   ·simp only[Instr.findNow,h1,hs,h2,y5]
   ·rw[h1];exact(Bl hk hq hb).symm
   ·simp[bT,cw,hb]
   ·simp[cQ,fM,hb]
   ·simp[jj,qP,hb]
  | false=>
   rw[hb]at hs;rcases ut hd hk l es (i+1) h3 (fun p hp=>hf p (by simp[hp]))with⟨g1,g2,g3,g4⟩|⟨j,e',q',n',g1,g2,g3,g4,g5,g6,g7,g8⟩
   ·refine .inl ⟨?_,?_,fun v=>?_,?_⟩
    ·simp only[Instr.findNow,h1,hs,g1]
    ·have Wg:=g2;unfold bT at Wg;simp[bT,cw,hb,Wg]
    ·have Xm:=g3 v;unfold cQ at Xm;simp[cQ,fM,hb,Xm]
    ·have Yz:=g4;unfold jj at Yz;simp[jj,qP,hb,Yz]
   ·refine .inr ⟨j+1,e',q',n',?_,by simpa using g2,g3,?_,by simpa using g5,g6,fun v=>?_,?_⟩
    ·simp only[Instr.findNow,h1,hs,g1];congr 3;omega
    ·have Yz:=g4;unfold bT at Yz;simp[bT,cw,hb,Yz]
    ·have g7':=g7 v;unfold cQ at g7';simp[cQ,fM,hb,g7']
    ·have g8':=g8;unfold jj at g8';simp[jj,qP,hb,g8']
theorem mr {α β:Type}(f:α->β):∀(l:List α) (j:Nat),(l.eraseIdx j).map f=(l.map f).eraseIdx j
 | [],_=>rfl
 | _::_,0=>rfl
 | x::l,j+1=>by simp[mr f l j]
theorem pg (hΓ:Γ.chk P=true){T:TypeId}{kk:Option IntKind}(h:qG Γ T=some kk):∃kt et d i,P.underlying T=some (.map kt et)/\P.underlying kt=some d/\((∃k,d= .int k/\kk=some k)\/(d= .string/\kk=none))/\P.info? et=some i/\i.zero=some (.int .i64 0):=by
 unfold qG at h
 cases hT:Γ.get T with
 | none=>rw[hT]at h;cases h
 | some ti=>
  rw[hT]at h;dsimp only at h;obtain⟨ii,d,fit⟩:=Env.fit hΓ hT;have hm:=fit.map;rw[h]at hm
  cases d<;>simp only[MC]at hm<;>try(cases hm;done)
  rename_i kt et;split at hm
  ·rename_i i hi;split at hm
   ·rename_i n hz;split at hm
    ·rename_i k h1 h2;injection hm with hm;have:n=0:=j5 h1;subst this;exact⟨kt,et,_,i,fit.und,h2,.inl ⟨k,rfl,hm.symm⟩,hi,hz⟩
    ·rename_i h1 h2;injection hm with hm;have:n=0:=j5 h1;subst this;exact⟨kt,et,_,i,fit.und,h2,.inr ⟨rfl,hm.symm⟩,hi,hz⟩
    ·cases hm
   ·cases hm
  ·cases hm
theorem Conc.mp (hc:Conc N B M w0 ρ s a w){q:Id}{kk:Option IntKind}{es:List (Tr×Int)}(h:s.H q=some (.mp kk es)):∃b ents clock,ρ q= .map (some b)/\w.heap[b]?=some (.map ents clock)/\ents.toList.map (fun e=>(e.key,e.val))=es.map Gh/\∀p∈es,eh kk p.1:=hc.obj q _ h
theorem Turn.setBlock (w:World)(b:Nat){ents:Array MapEntry}{clock:Nat}(hb:w.heap[b]?=some (.map ents clock))(x:Obj):Turn (fun k=>k=b) w (Go.ChangeMaps.setBlock w b x):=
 ⟨rfl,rfl,rfl,by simp[Go.ChangeMaps.setBlock],fun k _ hk=>Go.ChangeMaps.heap_setBlock_other hb x hk⟩
theorem Dy {ok:Nat->Prop}{v:Value}{x:Tr}{kk:Option IntKind}(hk:eh kk x)(h:RT w ok v x):v=lP x:=by
 cases x with
 | lst=>cases kk<;>exact hk.elim
 | bool=>cases kk<;>exact hk.elim
 | int k n=>cases h;rfl
 | str b=>cases h;rfl
theorem AD {T:TypeId}{d:Nat}{kk:Option IntKind}(QU:o.dst=some d)(ho:o.op= .makeMap T none):
  Good P o ev H ⟨.r (.c (.mpv (d,0,0))),[((d,0,0),some (.mp kk []))],some d,[]⟩:=by
 intro N B M w0 ρ s a w Q K hc O3 hR hn hd hK;rw[QU]at hd hK
 obtain⟨ρ',h'⟩:=hc.make (hd d rfl) (hn d rfl) (D:=fun _=>False) [] (Turn.alloc _ _ (.map #[] 0)) (v:= .map (some w.heap.size)) (vv:= .map (some w.heap.size)) (x:= .mp kk []) (av:= .r (.c (.mpv (d,0,0)))) (R:=[]) (fun _=>False) (fun _ h=>h.elim) (fun b hb=>by
   injection hb with hb;subst hb;exact⟨s_,.inl (d7 _)⟩) (fun _ h=>h.elim) abj (fun id O9=>by
   simp[AV.ids,AR.ids,AC.ids]at O9;left;rw[O9]) (fun ρ' ok' hk _ hρ hq _=>⟨⟨w.heap.size,#[],0,hq,mP w _,rfl,s_⟩,⟨_,hq⟩,hq.symm⟩)
 have P1:(execOp a.eval o).run P w= .ok (.value (.map (some w.heap.size))) (w.alloc (.map #[] 0)):=by simp[execOp,ho,Instr.makeMap]
 exact V149
theorem Dz {T:TypeId}{x k:Operand}{c:Bool}(hΓ:Γ.chk P=true)(ho:o.op= .lookup T x k c)(h:vk Γ T (ev x) (ev k) c H K):∃e,K e/\Good P o ev H e:=by
 have P3:x∈o.op.operands.toList:=by simp[ho,Op.operands]
 have Vt:k∈o.op.operands.toList:=by simp[ho,Op.operands]
 unfold vk at h;split at h
 ·rename_i q key hx YR;split at h
  ·rename_i kk es hq;obtain⟨hm,hf,h⟩:=h;obtain⟨kt,et,d,i,u1,u2,hd,hi,hz⟩:=pg hΓ hm
   have base:∀(N B:Nat) (M:Nat->Prop) (w0:Start) (ρ:Rho) (s:F_) (a:Act) (w:World),Conc N B M w0 ρ s a w->(∀x∈o.op.operands.toList,evL s.L x=ev x)->s.H q=H q->
     (Instr.lookup T (a.eval x) (a.eval k) c).run P w= .ok (if c then .tuple #[.int .i64 (kD (bT es key)),.bool (bT es key).isSome]else .int .i64 (kD (bT es key))) w:=by
    intro N B M w0 ρ s a w hc O3 hR;obtain⟨b,ents,clock,g1,g2,g3,g4⟩:=hc.mp (hR.trans hq);have TG:=(hc.eval x).1;rw[O3 x P3,hx]at TG;have hvk:=(hc.eval k).1;rw[O3 k Vt,YR]at hvk;have ex:a.eval x= .map (some b):=(by rw[<-g1];exact TG.2);have ek:a.eval k=lP key:=Dy hf hvk;have TS:=(mq hd hf hf).2;rw[ex,ek];have hzr:=gU (w:=w) hi hz;rcases ut hd hf ents.toList es 0 g3 g4 with⟨f1,f2,_,_⟩|⟨j,e,q',n,f1,_,_,f4,_⟩
    ·rw[f2]
     cases c<;>simp[Instr.lookup,run_underlying u1,Go.MapKept.run_getObj_map g2,Go.MapKept.run_checkKey u2 TS,Go.MapKept.run_findKey u2 f1,hzr,Result.andThen,kD]
    ·rw[f4]
     cases c<;>simp[Instr.lookup,run_underlying u1,Go.MapKept.run_getObj_map g2,Go.MapKept.run_checkKey u2 TS,Go.MapKept.run_findKey u2 f1,Result.andThen,kD]
   cases c with
   | true=>
    refine⟨_,h,aM fun N B M w0 ρ s a w hc O3 hR=>?_⟩;have:=base N B M w0 ρ s a w hc O3 (hR q s_)
    exact⟨_,by simp only[execOp,ho,n6,this,j7,o9];rfl,⟨#[.int .i64 (kD (bT es key)),.bool (bT es key).isSome],rfl,(show RRs _ _ _ _ [_,_] [_,_] from⟨RT.int _ _,RT.bool _,trivial⟩)⟩,by simp[AV.ids,AR.ids,AC.ids]⟩
   | false=>refine⟨_,h,aM fun N B M w0 ρ s a w hc O3 hR=>?_⟩;have:=base N B M w0 ρ s a w hc O3 (hR q s_);exact⟨_,by simp only[execOp,ho,n6,this,j7,o9];rfl,RT.int _ _,by simp[AV.ids,AR.ids,AC.ids]⟩
  ·exact h.elim
 ·exact h.elim
theorem DB {T:TypeId}{x k v:Operand}(hΓ:Γ.chk P=true)(ho:o.op= .mapUpdate T x k v\/o.op= .insert T x k v)(h:uS Γ T (ev x) (ev k) (ev v) H K):∃e,K e/\Good P o ev H e:=by
 have P3:x∈o.op.operands.toList:=by rcases ho with ho|ho<;>simp[ho,Op.operands]
 have Vt:k∈o.op.operands.toList:=by rcases ho with ho|ho<;>simp[ho,Op.operands]
 have acD:v∈o.op.operands.toList:=by rcases ho with ho|ho<;>simp[ho,Op.operands]
 unfold uS at h;split at h
 ·rename_i q key n hx YR TG;split at h
  ·rename_i kk es hq;obtain⟨hm,hf,h⟩:=h;obtain⟨kt,et,d,i,u1,u2,hd,hi,hz⟩:=pg hΓ hm;refine⟨_,h,?_⟩;intro N B M w0 ρ s a w Q K hc O3 hR QT Wz hK;have P4:s.H q=some (.mp kk es):=(by rw[hR q s_];exact hq);obtain⟨b,ents,clock,g1,g2,g3,g4⟩:=hc.mp P4;have e1:=(hc.eval x).1;rw[O3 x P3,hx]at e1;have e2:=(hc.eval k).1;rw[O3 k Vt,YR]at e2;have e3:=(hc.eval v).1;rw[O3 v acD,TG]at e3;have ex:a.eval x= .map (some b):=(by rw[<-g1];exact e1.2);have ek:a.eval k=lP key:=Dy hf e2;have evv:a.eval v= .int .i64 n:=dB e3;have TS:=(mq hd hf hf).2
   have fin:∀(RH:Array MapEntry) (SY:Nat) (R6:List (Tr×Int)),(Instr.mapUpdate T (.map (some b)) (lP key) (.int .i64 n)).run P w= .ok () (Go.ChangeMaps.setBlock w b (.map RH SY))->RH.toList.map (fun e=>(e.key,e.val))=R6.map Gh->(∀p∈R6,eh kk p.1)->R6=cQ es key n->o.wp P a w K Q:=by
    intro RH SY R6 P1 k1 k2 k3;subst k3;obtain⟨ρ',this⟩:=hc.upd P4 (x':= .mp kk (cQ es key n)) (b:=b) aat [] s_ (fun _=>False) (fun _ h=>h.elim) (Turn.setBlock w b g2 (.map RH SY)) abj (fun ρ' ok' hρ _ hk _ _ _=>⟨b,RH,SY,by rw[hρ];exact g1,Go.ChangeMaps.heap_setBlock_same g2 _,k1,k2⟩) Wz undef [q]
    have Ru:(execOp a.eval o).run P w= .ok .skip (Go.ChangeMaps.setBlock w b (.map RH SY)):=by rcases ho with ho|ho<;>simp only[execOp,ho,ex,ek,evv,n6,P1,j7,o9]
    unfold Oper.wp;rw[Ru];exact hK _ _ ρ' this
   rcases ut hd hf ents.toList es 0 g3 g4 with⟨f1,f2,f3,_⟩|⟨j,e,q',n',f1,f2,f3,f4,f5,f6,f7,_⟩
   ·refine fin (ents.push {key:=lP key,val:= .int .i64 n,born:=clock}) (clock+1) (es++[(key,n)]) ?_ ?_ ?_ (f3 n).symm
    ·simp[Instr.mapUpdate,run_underlying u1,Go.MapKept.run_getObj_map g2,Go.MapKept.run_checkKey u2 TS,Go.MapKept.run_findKey u2 f1,Go.MapKept.run_setObj_map _ g2,Result.andThen,Go.ChangeMaps.setBlock]
    ·simp[g3,Gh]
    ·intro p hp;rcases f0.1 hp with hp|hp
     ·exact g4 p hp
     ·rw[t6.1 hp];exact hf
   ·have Yt:ents[j]?=some e:=(by simpa using f2);refine fin (ents.modify j fun e=>{e with key:=lP key,val:= .int .i64 n}) clock (es.set j (q',n)) ?_ ?_ ?_ (f7 n).symm
    ·have Vc:(((ents[j]?).map (·.key)).getD (lP key))=lP key:=(by rw[Yt];simpa using f3);simp[Instr.mapUpdate,run_underlying u1,Go.MapKept.run_getObj_map g2,Go.MapKept.run_checkKey u2 TS,Go.MapKept.run_findKey u2 f1,Vc,Go.MapKept.run_keyThatStays TS,Go.MapKept.run_setObj_map _ g2,Result.andThen,Go.ChangeMaps.setBlock]
    ·apply B4;intro m;have gm:=congrArg (·[m]?) g3;simp only[j9,Array.getElem?_toList,Array.getElem?_modify,E4]at gm⊢;by_cases YA:j=m
     ·subst YA;have O4:j<es.length:=(by rcases n5 j es.length with h|h;exact h;rw[e9 h]at f5;cases f5);simp[Yt,O4,Gh,f6]
     ·simp[YA]at gm⊢;exact gm
    ·intro p hp;rcases u9 hp with hp|rfl
     ·exact g4 p hp
     ·exact g4 (q',n') (c9 f5)
  ·exact h.elim
 ·exact h.elim
theorem V75{p:Prop}(h:p:=by
 simp[Builtin.delete_,run_underlying u1,Go.MapKept.run_getObj_map g2,Go.MapKept.run_checkKey u2 TS,Go.MapKept.run_findKey u2 f1,Go.MapKept.run_setObj_map _ g2,Result.andThen,Go.ChangeMaps.setBlock]):p:=h
theorem DL {T T2:TypeId}{x k:Operand}(hΓ:Γ.chk P=true)(ho:o.op= .call {callee:= .builtin .delete,args:=⟨[x,k]⟩,argTypes:=⟨[T,T2]⟩})(h:vI Γ T (ev x) (ev k) H K):∃e,K e/\Good P o ev H e:=by
 have P3:x∈o.op.operands.toList:=by simp[ho,Op.operands,Call.operands]
 have Vt:k∈o.op.operands.toList:=by simp[ho,Op.operands,Call.operands]
 unfold vI at h;split at h
 ·rename_i q key hx YR;split at h
  ·rename_i kk es hq;obtain⟨hm,hf,h⟩:=h;obtain⟨kt,et,d,i,u1,u2,hd,hi,hz⟩:=pg hΓ hm;refine⟨_,h,?_⟩;intro N B M w0 ρ s a w Q K hc O3 hR QT Wz hK;have P4:s.H q=some (.mp kk es):=(by rw[hR q s_];exact hq);obtain⟨b,ents,clock,g1,g2,g3,g4⟩:=hc.mp P4;have e1:=(hc.eval x).1;rw[O3 x P3,hx]at e1;have e2:=(hc.eval k).1;rw[O3 k Vt,YR]at e2;have ex:a.eval x= .map (some b):=(by rw[<-g1];exact e1.2);have ek:a.eval k=lP key:=Dy hf e2;have TS:=(mq hd hf hf).2
   have fin:∀(RH:Array MapEntry) (R6:List (Tr×Int)),(Builtin.delete_ #[T,T2] o.type #[.map (some b),lP key]).run P w= .ok (.tuple #[]) (Go.ChangeMaps.setBlock w b (.map RH clock))->RH.toList.map (fun e=>(e.key,e.val))=R6.map Gh->(∀p∈R6,eh kk p.1)->R6=jj es key->o.wp P a w K Q:=by
    intro RH R6 P1 k1 k2 k3;subst k3;obtain⟨ρ',this⟩:=hc.upd P4 (x':= .mp kk (jj es key)) (b:=b) aat [] s_ (fun _=>False) (fun _ h=>h.elim) (Turn.setBlock w b g2 (.map RH clock)) abj (fun ρ' ok' hρ _ hk _ _ _=>⟨b,RH,clock,by rw[hρ];exact g1,Go.ChangeMaps.heap_setBlock_same g2 _,k1,k2⟩) Wz (.tuple #[]) [q]
    have Ru:(execOp a.eval o).run P w= .ok (.value (.tuple #[])) (Go.ChangeMaps.setBlock w b (.map RH clock)):=by simp only[execOp,ho,resolve,invoke,builtin,List.map_toArray,p7,D5,ex,ek,n6,o9,P1,j7]
    unfold Oper.wp;rw[Ru];exact hK _ _ ρ' this
   rcases ut hd hf ents.toList es 0 g3 g4 with⟨f1,f2,f3,f4⟩|⟨j,e,q',n',f1,f2,f3,_,f5,f6,_,f8⟩
   ·refine fin ents es ?_ g3 g4 f4.symm;exact V75
   ·refine fin (ents.eraseIdxIfInBounds j) (es.eraseIdx j) ?_ ?_ ?_ f8.symm
    ·exact V75
    ·have O4:j<ents.size:=by
      rcases n5 j ents.size with h|h
      ·exact h
      ·have:ents.toList[j]?=none:=(by rw[e9];simpa using h);rw[this]at f2;cases f2
     rw[Array.eraseIdxIfInBounds,dif_pos O4,Array.toList_eraseIdx,mr,g3,<-mr]
    ·exact fun p hp=>g4 p (List.mem_of_mem_eraseIdx hp)
  ·exact h.elim
 ·exact h.elim
end
section
variable {P:Program} {Γ:Env} {N B:Nat} {M:Nat->Prop} {w0:Start} {ρ ρ':Rho} {s:F_} {a:Act} {w w':World} {o:Oper} {ev:Operand->AV} {H:Id->Option AO} {K:Eff->Prop} {KV:AV->Prop}
def ext (θ θ':List (Id×Id)):Prop:=∀q o,lkI θ q=some o->lkI θ' q=some o
theorem ext.refl (θ:List (Id×Id)):ext θ θ:=fun _ _ h=>h
theorem ext.trans {θ θ' θ'':List (Id×Id)}(h:ext θ θ')(h':ext θ' θ''):ext θ θ'':=fun q o hq=>h' q o (h q o hq)
theorem CL {α:Type}(x y:Id)(A C:α):(bif gw x y then A else C)=if x=y then A else C:=by
 cases hb:gw x y with
 | true=>rw[idEq_iff]at hb;simp[hb]
 | false=>
  have:¬x=y:=fun e=>by rw[idEq_iff.2 e]at hb;cases hb
  simp[this]
theorem zo (i x:Id)(θ:List (Id×Id))(o:Id):lkI ((i,x)::θ) o=if o=i then some x else lkI θ o:=by rw[lkI,CL]
theorem rP {θ:List (Id×Id)}{q o:Id}{K:List (Id×Id)->Prop}(h:Eo θ q o K):∃θ',K θ'/\ext θ θ'/\lkI θ' q=some o:=by
 unfold Eo at h;split at h
 ·rename_i o' hq;obtain⟨h1,h2⟩:=h;rw[idEq_iff]at h1;exact⟨θ,h2,ext.refl _,by rw[h1];exact hq⟩
 ·rename_i hq;refine⟨_,h,fun q' o' h'=>?_,by rw[zo,b9 rfl]⟩;rw[zo];split
  ·rename_i e;subst e;rw[hq]at h';cases h'
  ·exact h'
def relC (H:Id->Option AO)(θ:List (Id×Id))(bw:List Id)(x y:AC):Prop:=
 (∃o q,x= .own o/\y= .own q/\lkI θ q=some o)\/(∃o q n,x= .ptr o n/\y= .ptr q n/\lkI θ q=some o)\/(x= .nilp/\y= .nilp)\/(∃n m,x= .nils n/\y= .nils m)\/(∃o q,x= .mpv o/\y= .mpv q/\lkI θ q=some o)\/
  y= .opq\/∃t,y= .t t/\fG H x t/\∀o∈x.ids,o∈bw
theorem relC.mono {θ θ':List (Id×Id)}{bw RL:List Id}{x y:AC}(h:relC H θ bw x y)(h1:ext θ θ')(h2:∀o∈bw,o∈RL):relC H θ' RL x y:=by
 rcases h with⟨o,q,rfl,rfl,h⟩|⟨o,q,n,rfl,rfl,h⟩|⟨rfl,rfl⟩|⟨n,m,rfl,rfl⟩|⟨o,q,rfl,rfl,h⟩|rfl|⟨t,rfl,h3,h4⟩
 ·exact .inl ⟨o,q,rfl,rfl,h1 _ _ h⟩
 ·exact .inr (.inl ⟨o,q,n,rfl,rfl,h1 _ _ h⟩)
 ·exact .inr (.inr (.inl ⟨rfl,rfl⟩))
 ·exact .inr (.inr (.inr (.inl ⟨n,m,rfl,rfl⟩)))
 ·exact .inr (.inr (.inr (.inr (.inl ⟨o,q,rfl,rfl,h1 _ _ h⟩))))
 ·exact .inr (.inr (.inr (.inr (.inr (.inl rfl)))))
 ·exact .inr (.inr (.inr (.inr (.inr (.inr ⟨t,rfl,h3,fun o ho=>h2 o (h4 o ho)⟩)))))
theorem V103{p:Prop}(h:p:=by
 exact⟨θ,_,h.2,ext.refl _,fun o ho=>w6 _ ho,.inr (.inr (.inr (.inr (.inr (.inr ⟨_,rfl,h.1,fun o ho=>by simp[AC.ids]at ho;simp[ho]⟩)))))⟩):p:=h
theorem FO {θ:List (Id×Id)}{bw:List Id}{x y:AC}{K:List (Id×Id)->List Id->Prop}(h:maC H θ bw x y K):∃θ' RL,K θ' RL/\ext θ θ'/\(∀o∈bw,o∈RL)/\relC H θ' RL x y:=by
 unfold maC at h;split at h
 ·obtain⟨θ',h1,h2,h3⟩:=rP h;exact⟨θ',bw,h1,h2,fun _ h=>h,.inl ⟨_,_,rfl,rfl,h3⟩⟩
 ·obtain⟨rfl,h⟩:=h;obtain⟨θ',h1,h2,h3⟩:=rP h;exact⟨θ',bw,h1,h2,fun _ h=>h,.inr (.inl ⟨_,_,_,rfl,rfl,h3⟩)⟩
 ·exact⟨θ,bw,h,ext.refl _,fun _ h=>h,.inr (.inr (.inl ⟨rfl,rfl⟩))⟩
 ·obtain⟨θ',h1,h2,h3⟩:=rP h;exact⟨θ',bw,h1,h2,fun _ h=>h,.inr (.inr (.inr (.inr (.inl ⟨_,_,rfl,rfl,h3⟩))))⟩
 ·exact⟨θ,bw,h,ext.refl _,fun _ h=>h,.inr (.inr (.inr (.inl ⟨_,_,rfl,rfl⟩)))⟩
 ·exact V103
 ·exact V103
 ·rename_i h1 h2;refine⟨θ,_,h.2,ext.refl _,fun _ h=>h,.inr (.inr (.inr (.inr (.inr (.inr ⟨_,rfl,h.1,fun o ho=>?_⟩)))))⟩;have ht:=h.1
  cases x with|own o=>exact absurd rfl (h1 o)|sub o k=>exact absurd rfl (h2 o k)|ptr o k=>exact ht.elim|t x=>simp[AC.ids]at ho|f x=>simp[AC.ids]at ho|nils n=>simp[AC.ids]at ho|nilp=>simp[AC.ids]at ho|opq=>simp[AC.ids]at ho|mpv o=>exact ht.elim
 ·exact⟨θ,bw,h,ext.refl _,fun _ h=>h,.inr (.inr (.inr (.inr (.inr (.inl rfl)))))⟩
 ·exact h.elim
def relCs (H:Id->Option AO)(θ:List (Id×Id))(bw:List Id):List AC->List AC->Prop
 | [],[]=>True
 | x::xs,y::ys=>relC H θ bw x y/\relCs H θ bw xs ys
 | _,_=>False
theorem relCs.mono {θ θ':List (Id×Id)}{bw RL:List Id}:∀{xs ys:List AC},relCs H θ bw xs ys->ext θ θ'->(∀o∈bw,o∈RL)->relCs H θ' RL xs ys
 | [],[],_,_,_=>trivial
 | _::_,_::_,h,h1,h2=>⟨h.1.mono h1 h2,relCs.mono h.2 h1 h2⟩
 | [],_::_,h,_,_=>h.elim
 | _::_,[],h,_,_=>h.elim
theorem uP:∀{xs ys:List AC} {θ:List (Id×Id)} {bw:List Id} {K:List (Id×Id)->List Id->Prop},NV H θ bw xs ys K->∃θ' RL,K θ' RL/\ext θ θ'/\(∀o∈bw,o∈RL)/\relCs H θ' RL xs ys
 | [],[],_,_,_,h=>⟨_,_,h,ext.refl _,fun _ h=>h,trivial⟩
 | x::xs,y::ys,_,_,_,h=>by
  obtain⟨θ1,bw1,h1,h2,h3,h4⟩:=FO h;obtain⟨θ2,bw2,h5,h6,h7,h8⟩:=uP h1
  exact⟨θ2,bw2,h5,h2.trans h6,fun o ho=>h7 o (h3 o ho),h4.mono h6 h7,h8⟩
 | [],_::_,_,_,_,h=>h.elim
 | _::_,[],_,_,_,h=>h.elim
def relV (H:Id->Option AO)(θ:List (Id×Id))(bw:List Id):AV->AV->Prop
 | .r (.c x),.r (.c y)=>relC H θ bw x y
 | .r (.agg xs),.r (.agg ys)=>relCs H θ bw xs ys
 | _,_=>False
theorem relV.mono {θ θ':List (Id×Id)}{bw RL:List Id}{x y:AV}(h:relV H θ bw x y)(h1:ext θ θ')(h2:∀o∈bw,o∈RL):relV H θ' RL x y:=by
 unfold relV at h⊢;split at h
 ·exact relC.mono h h1 h2
 ·exact relCs.mono h h1 h2
 ·exact h.elim
theorem LD {θ:List (Id×Id)}{bw:List Id}{x y:AV}{K:List (Id×Id)->List Id->Prop}(h:maV H θ bw x y K):∃θ' RL,K θ' RL/\ext θ θ'/\(∀o∈bw,o∈RL)/\relV H θ' RL x y:=by
 unfold maV at h;split at h
 ·exact FO h
 ·exact uP h
 ·exact h.elim
def relVs (H:Id->Option AO)(θ:List (Id×Id))(bw:List Id):List AV->List AV->Prop
 | [],[]=>True
 | x::xs,y::ys=>relV H θ bw x y/\relVs H θ bw xs ys
 | _,_=>False
theorem relVs.mono {θ θ':List (Id×Id)}{bw RL:List Id}:∀{xs ys:List AV},relVs H θ bw xs ys->ext θ θ'->(∀o∈bw,o∈RL)->relVs H θ' RL xs ys
 | [],[],_,_,_=>trivial
 | _::_,_::_,h,h1,h2=>⟨h.1.mono h1 h2,relVs.mono h.2 h1 h2⟩
 | [],_::_,h,_,_=>h.elim
 | _::_,[],h,_,_=>h.elim
theorem Cm:∀{xs ys:List AV} {θ:List (Id×Id)} {bw:List Id} {K:List (Id×Id)->List Id->Prop},Me H θ bw xs ys K->∃θ' RL,K θ' RL/\ext θ θ'/\(∀o∈bw,o∈RL)/\relVs H θ' RL xs ys
 | [],[],_,_,_,h=>⟨_,_,h,ext.refl _,fun _ h=>h,trivial⟩
 | x::xs,y::ys,_,_,_,h=>by
  obtain⟨θ1,bw1,h1,h2,h3,h4⟩:=LD h;obtain⟨θ2,bw2,h5,h6,h7,h8⟩:=Cm h1
  exact⟨θ2,bw2,h5,h2.trans h6,fun o ho=>h7 o (h3 o ho),h4.mono h6 h7,h8⟩
 | [],_::_,_,_,_,h=>h.elim
 | _::_,[],_,_,_,h=>h.elim
def relO (H:Id->Option AO)(θ:List (Id×Id))(bw:List Id)(x y:AO):Prop:=
 (∃cs ds,x= .box cs/\y= .box ds/\relCs H θ bw cs ds)\/(∃fr sz rows,x= .arr fr sz rows/\y= .arr false sz rows)\/(∃sz rows,x= .dar sz rows none/\y= .dar sz rows none)\/∃kk es,x= .mp kk es/\y= .mp kk es
theorem relO.mono {θ θ':List (Id×Id)}{bw RL:List Id}{x y:AO}(h:relO H θ bw x y)(h1:ext θ θ')(h2:∀o∈bw,o∈RL):relO H θ' RL x y:=by
 rcases h with⟨cs,ds,rfl,rfl,h⟩|h|h
 ·exact .inl ⟨cs,ds,rfl,rfl,h.mono h1 h2⟩
 ·exact .inr (.inl h)
 ·exact .inr (.inr h)
theorem Fx:∀{l:List (Id×AO)} {θ:List (Id×Id)} {bw:List Id} {K:List (Id×Id)->List Id->Prop},maO H θ bw l K->∃θ' RL,K θ' RL/\ext θ θ'/\(∀o∈bw,o∈RL)/\∀p∈l,∃o x,lkI θ' p.1=some o/\H o=some x/\relO H θ' RL x p.2
 | [],_,_,_,h=>⟨_,_,h,ext.refl _,fun _ h=>h,s_⟩
 |(q,y)::l,θ,bw,K,h=>by
  simp only[maO]at h;split at h
  ·rename_i o hq
   have one:∀{θ1:List (Id×Id)} {bw1:List Id} {x:AO},maO H θ1 bw1 l K->ext θ θ1->(∀o∈bw,o∈bw1)->H o=some x->relO H θ1 bw1 x y->
     ∃θ' RL,K θ' RL/\ext θ θ'/\(∀o∈bw,o∈RL)/\∀p∈(q,y)::l,∃o x,lkI θ' p.1=some o/\H o=some x/\relO H θ' RL x p.2:=by
    intro θ1 bw1 x h1 h2 h3 h4 h5;obtain⟨θ2,bw2,k1,k2,k3,k4⟩:=Fx h1;refine⟨θ2,bw2,k1,h2.trans k2,fun o ho=>k3 o (h3 o ho),fun p hp=>?_⟩;rcases d8.1 hp with rfl|hp
    ·exact⟨o,x,k2 _ _ (h2 _ _ hq),h4,h5.mono k2 k3⟩
    ·exact k4 p hp
   split at h
   ·rename_i cs hx;split at h
    ·rename_i ds;obtain⟨θ1,bw1,h1,h2,h3,h4⟩:=uP h;exact one h1 h2 h3 hx (.inl ⟨cs,ds,rfl,rfl,h4⟩)
    ·exact h.elim
   ·rename_i fr sz rows hx;split at h
    ·rename_i fr' QQ rows';obtain⟨rfl,rfl,rfl,h⟩:=h;exact one h (ext.refl _) (fun _ h=>h) hx (.inr (.inl ⟨fr,_,_,rfl,rfl⟩))
    ·exact h.elim
   ·rename_i sz rows hx;split at h
    ·obtain⟨rfl,rfl,h⟩:=h;exact one h (ext.refl _) (fun _ h=>h) hx (.inr (.inr (.inl ⟨_,_,rfl,rfl⟩)))
    ·exact h.elim
   ·rename_i kk es hx;split at h
    ·obtain⟨rfl,rfl,h⟩:=h;exact one h (ext.refl _) (fun _ h=>h) hx (.inr (.inr (.inr ⟨_,_,rfl,rfl⟩)))
    ·exact h.elim
   ·exact h.elim
  ·exact h.elim
theorem jO {l:List (Id×AO)}{q:Id}{y:AO}(h:lkH l q=some y):(q,y)∈l:=by
 induction l with
 | nil=>cases h
 | cons p l ih=>
  obtain⟨i,x⟩:=p;rw[lkH,CL]at h;split at h
  ·rename_i e;injection h with h;subst e;subst h;simp
  ·exact w6 _ (ih h)
theorem yi {l:List (Id×AO)}(hn:(l.map (·.1)).Nodup){q:Id}{y:AO}(h:(q,y)∈l):lkH l q=some y:=by
 induction l with
 | nil=>cases h
 | cons p l ih=>
  obtain⟨i,x⟩:=p;rw[lkH,CL];simp only[p7,F5]at hn;rcases d8.1 h with h|h
  ·injection h with h1 h2;subst h1;subst h2;simp
  ·have:q≠i:=fun e=>hn.1 (by rw[<-e];exact q7.2 ⟨_,h,rfl⟩);rw[b8 this];exact ih hn.2 h
theorem GN {l:List (Id×AO)}{q:Id}(h:q∈l.map (·.1)):(lkH l q).isSome=true:=by
 induction l with
 | nil=>cases h
 | cons p l ih=>
  obtain⟨i,x⟩:=p;rw[lkH,CL];split
  ·rfl
  ·rename_i P2;simp only[p7,d8]at h;exact ih (h.resolve_left P2)
theorem jL {θ:List (Id×Id)}{q o:Id}(h:lkI θ q=some o):(q,o)∈θ:=by
 induction θ with
 | nil=>cases h
 | cons p l ih=>
  obtain⟨i,x⟩:=p;rw[zo]at h;split at h
  ·rename_i e;injection h with h;subst e;subst h;simp
  ·exact w6 _ (ih h)
theorem JM {θ:List (Id×Id)}(hn:(θ.map (·.2)).Nodup){q q' o:Id}(h:(q,o)∈θ)(h':(q',o)∈θ):q=q':=by
 induction θ with
 | nil=>cases h
 | cons p l ih=>
  simp only[p7,F5]at hn;rcases d8.1 h with e|h1
  ·rcases d8.1 h' with e'|h1'
   ·rw[<-e]at e';injection e' with e';exact e'.symm
   ·exact absurd (q7.2 ⟨_,h1',by rw[<-e]⟩) hn.1
  ·rcases d8.1 h' with e'|h1'
   ·exact absurd (q7.2 ⟨_,h1,by rw[<-e']⟩) hn.1
   ·exact ih hn.2 h1 h1'
theorem relC.congr {H':Id->Option AO}{θ:List (Id×Id)}{bw:List Id}{x y:AC}(hH:∀o∈bw,H' o=H o)(h:relC H θ bw x y):relC H' θ bw x y:=by
 rcases h with h|h|h|h|h|rfl|⟨t,rfl,h3,h4⟩
 ·exact .inl h
 ·exact .inr (.inl h)
 ·exact .inr (.inr (.inl h))
 ·exact .inr (.inr (.inr (.inl h)))
 ·exact .inr (.inr (.inr (.inr (.inl h))))
 ·exact .inr (.inr (.inr (.inr (.inr (.inl rfl)))))
 ·exact .inr (.inr (.inr (.inr (.inr (.inr ⟨t,rfl,nw (fun o ho=>hH o (h4 o ho)) h3,h4⟩)))))
theorem relCs.congr {H':Id->Option AO}{θ:List (Id×Id)}{bw:List Id}(hH:∀o∈bw,H' o=H o):∀{xs ys:List AC},relCs H θ bw xs ys->relCs H' θ bw xs ys
 | [],[],_=>trivial
 | _::_,_::_,h=>⟨h.1.congr hH,relCs.congr hH h.2⟩
 | [],_::_,h=>h.elim
 | _::_,[],h=>h.elim
theorem relV.congr {H':Id->Option AO}{θ:List (Id×Id)}{bw:List Id}(hH:∀o∈bw,H' o=H o){x y:AV}(h:relV H θ bw x y):relV H' θ bw x y:=by
 unfold relV at h⊢;split at h
 ·exact relC.congr hH h
 ·exact relCs.congr hH h
 ·exact h.elim
theorem relVs.congr {H':Id->Option AO}{θ:List (Id×Id)}{bw:List Id}(hH:∀o∈bw,H' o=H o):∀{xs ys:List AV},relVs H θ bw xs ys->relVs H' θ bw xs ys
 | [],[],_=>trivial
 | _::_,_::_,h=>⟨h.1.congr hH,relVs.congr hH h.2⟩
 | [],_::_,h=>h.elim
 | _::_,[],h=>h.elim
theorem relO.congr {H':Id->Option AO}{θ:List (Id×Id)}{bw:List Id}(hH:∀o∈bw,H' o=H o){x y:AO}(h:relO H θ bw x y):relO H' θ bw x y:=by
 rcases h with⟨cs,ds,rfl,rfl,h⟩|h
 ·exact .inl ⟨cs,ds,rfl,rfl,h.congr hH⟩
 ·exact .inr h
def Ob (ρ:Rho)(θ:List (Id×Id))(al:Nat->Prop):Rho:=⟨fun q=>match lkI θ q with|some o=>ρ o|none=> .tuple #[],fun q c=>match lkI θ q with|some o=>ρ.fp o c|none=>False,al⟩
theorem fP {θ:List (Id×Id)}{al:Nat->Prop}{q o:Id}(h:lkI θ q=some o):Ob ρ θ al q=ρ o:=by show(match lkI θ q with|some o=>ρ o|none=> .tuple #[])=ρ o;rw[h]
theorem IU {θ:List (Id×Id)}{al:Nat->Prop}{q o:Id}(h:lkI θ q=some o)(c:Nat):(Ob ρ θ al).fp q c↔ρ.fp o c:=by show(match lkI θ q with|some o=>ρ.fp o c|none=>False)↔_;rw[h]
theorem mQ {θ:List (Id×Id)}{al:Nat->Prop}{q o:Id}(h:lkI θ q=some o)(b:Nat):Own (Ob ρ θ al) q b↔Own ρ o b:=by unfold Own;rw[fP h,IU h]
structure Bound (s:F_) (θ:List (Id×Id)) (bw:List Id) (h0:List (Id×AO)):Prop where
 vals:(θ.map (·.2)).Nodup
 keys:∀p∈θ,p.1∈h0.map (·.1)/\p.2∉bw
 obj:∀p∈h0,∃o x,lkI θ p.1=some o/\s.H o=some x/\relO s.H θ bw x p.2
theorem Bound.get {θ:List (Id×Id)}{bw:List Id}{h0:List (Id×AO)}(hb:Bound s θ bw h0){q o:Id}(h:lkI θ q=some o):∃x,s.H o=some x:=by obtain⟨h1,_⟩:=hb.keys _ (jL h);obtain⟨p,hp,e⟩:=q7.1 h1;obtain⟨o',x,g1,g2,_⟩:=hb.obj p hp;simp only at e;rw[e,h]at g1;injection g1 with g1;exact⟨x,by rw[g1];exact g2⟩
theorem Bound.inj {θ:List (Id×Id)}{bw:List Id}{h0:List (Id×AO)}(hb:Bound s θ bw h0){q q' o:Id}(h:lkI θ q=some o)(h':lkI θ q'=some o):q=q':=JM hb.vals (jL h) (jL h')
def alC (ρ:Rho)(s:F_)(w:World)(θ:List (Id×Id))(bw:List Id)(b:Nat):Prop:=
 okB ρ s.H w b\/(∃o x,o∈bw/\s.H o=some x/\Own ρ o b)\/(∃q o x,lkI θ q=some o/\s.H o=some x/\Own ρ o b)\/w.heap.size<=b
abbrev ng (ρ:Rho)(s:F_)(w:World)(θ:List (Id×Id))(bw:List Id):Rho:=Ob ρ θ (alC ρ s w θ bw)
theorem DE {θ:List (Id×Id)}{bw:List Id}{h0:List (Id×AO)}(hb:Bound s θ bw h0){b:Nat}(h:okB ρ s.H w b):okB (ng ρ s w θ bw) (lkH h0) w b:=by refine⟨⟨h.1.1,.inl h⟩,fun q y hq ho=>?_⟩;obtain⟨o,x,g1,g2,_⟩:=hb.obj _ (jO hq);rw[mQ g1]at ho;exact h.2 o x g2 ho
theorem MP (hc:Conc N B M w0 ρ s a w){θ:List (Id×Id)}{bw:List Id}{h0:List (Id×AO)}(hb:Bound s θ bw h0){b:Nat}{o:Id}{x:AO}(h1:o∈bw)(h2:s.H o=some x)(h3:Own ρ o b):okB (ng ρ s w θ bw) (lkH h0) w b:=by refine⟨⟨(hc.rng o x b h2 h3).1,.inr (.inl ⟨o,x,h1,h2,h3⟩)⟩,fun q y hq ho=>?_⟩;obtain⟨o',x',g1,g2,_⟩:=hb.obj _ (jO hq);rw[mQ g1]at ho;have:=(hb.keys _ (jL g1)).2;exact hc.sep o o' x x' b h2 g2 (fun e=>this (e▸h1)) h3 ho
theorem Il (hc:Conc N B M w0 ρ s a w){θ:List (Id×Id)}{bw:List Id}{h0:List (Id×AO)}(hb:Bound s θ bw h0){B':Nat}{v:Value}{x y:AC}(h:relC s.H θ bw x y)(hv:RC B ρ w (okB ρ s.H w) v x):RC B' (ng ρ s w θ bw) w (okB (ng ρ s w θ bw) (lkH h0) w) v y:=by
 rcases h with⟨o,q,rfl,rfl,h⟩|⟨o,q,n,rfl,rfl,h⟩|⟨rfl,rfl⟩|⟨n,m,rfl,rfl⟩|⟨o,q,rfl,rfl,h⟩|rfl|⟨t,rfl,h3,h4⟩
 ·rw[RC,fP h];exact hv
 ·rw[RC,fP h];exact hv
 ·exact hv
 ·exact hv
 ·rw[RC,fP h];exact hv
 ·exact⟨RC.one hv,RC.cells1 hv⟩
 ·exact lk hc (fun b Rc=>DE hb Rc) (fun q hq x b hx ho=>MP hc hb (h4 q hq) hx ho) hv h3
theorem zF (hc:Conc N B M w0 ρ s a w){θ:List (Id×Id)}{bw:List Id}{h0:List (Id×AO)}(hb:Bound s θ bw h0){B':Nat}:∀{vs:List Value} {xs ys:List AC},relCs s.H θ bw xs ys->RCs B ρ w (okB ρ s.H w) vs xs->RCs B' (ng ρ s w θ bw) w (okB (ng ρ s w θ bw) (lkH h0) w) vs ys
 | [],[],[],_,_=>trivial
 | _::_,_::_,_::_,h,hv=>⟨Il hc hb h.1 hv.1,zF hc hb h.2 hv.2⟩
 | [],_::_,_,_,hv=>hv.elim
 | _::_,[],_,_,hv=>hv.elim
 | [],[],_::_,h,_=>h.elim
 | _::_,_::_,[],h,_=>h.elim
theorem Oa (hc:Conc N B M w0 ρ s a w){θ:List (Id×Id)}{bw:List Id}{h0:List (Id×AO)}(hb:Bound s θ bw h0){B':Nat}{v:Value}{x y:AV}(h:relV s.H θ bw x y)(hv:RV B ρ w (okB ρ s.H w) v x):RV B' (ng ρ s w θ bw) w (okB (ng ρ s w θ bw) (lkH h0) w) v y:=by
 unfold relV at h;split at h
 ·exact Il hc hb h hv
 ·obtain⟨us,e,hv⟩:=hv;exact⟨us,e,zF hc hb h hv⟩
 ·exact h.elim
theorem GF (hc:Conc N B M w0 ρ s a w){θ:List (Id×Id)}{bw:List Id}{h0:List (Id×AO)}(hb:Bound s θ bw h0){B':Nat}:∀{xs:List Operand} {ys:List AV},relVs s.H θ bw (xs.map ev) ys->(∀x∈xs,evL s.L x=ev x)->RVs B' (ng ρ s w θ bw) w (okB (ng ρ s w θ bw) (lkH h0) w) (xs.map a.eval) ys
 | [],[],_,_=>trivial
 | x::xs,y::ys,h,hx=>by
  refine⟨Oa hc hb h.1 ?_,GF hc hb h.2 fun z hz=>hx z (by simp[hz])⟩;have:=(hc.eval x).1
  rwa [hx x s_]at this
 | [],_::_,h,_=>h.elim
 | _::_,[],h,_=>h.elim
theorem NT (hc:Conc N B M w0 ρ s a w){θ:List (Id×Id)}{bw:List Id}{h0:List (Id×AO)}(hb:Bound s θ bw h0){B':Nat}{q o:Id}{x y:AO}(hq:lkI θ q=some o)(h:relO s.H θ bw x y)(hv:RO B ρ w (okB ρ s.H w) o x):RO B' (ng ρ s w θ bw) w (okB (ng ρ s w θ bw) (lkH h0) w) q y:=by
 rcases h with⟨cs,ds,rfl,rfl,h⟩|⟨fr,sz,rows,rfl,rfl⟩|⟨sz,rows,rfl,rfl⟩|⟨kk,es,rfl,rfl⟩
 ·obtain⟨b,cur,t,fz,h1,h2,h3,h4⟩:=hv;exact⟨b,cur,t,fz,by rw[fP hq];exact h1,h2,h3,zF hc hb h h4⟩
 ·obtain⟨hu,hv⟩:=hv;refine⟨hu,?_⟩;rcases hv with hv|⟨b,cap,cur,e,fz,h1,h2,h3,h4,h5,h6,h7,h8⟩
  ·exact .inl (by rw[fP hq];exact hv)
  ·exact .inr ⟨b,cap,cur,e,fz,by rw[fP hq];exact h1,h2,h3,h4,h5,h6,h7.keep (fun c O8=>⟨rfl,DE hb O8.1,fun e=>by cases e⟩),fun e=>by cases e⟩
 ·obtain⟨hu,hv⟩:=hv;refine⟨hu,?_⟩;rcases hv with⟨hv,h2⟩|⟨b,cap,cur,e,fz,Fp,h1,h2,h3,h4,h5,h6,h7,h8,h9⟩
  ·exact .inl ⟨by rw[fP hq];exact hv,h2⟩
  ·exact .inr ⟨b,cap,cur,e,fz,Fp,by rw[fP hq];exact h1,h2,h3,h4,h5,h6,fun p c O8=>⟨(IU hq c).2 (h7 p c O8).1,(h7 p c O8).2⟩,h8,h9.keep (fun c O8=>⟨rfl,DE hb O8⟩) (fun p c O8=>⟨rfl,O8⟩) fun _ _ _ e=>by cases e⟩
 ·obtain⟨b,ents,clock,h1,h2,h3⟩:=hv;exact⟨b,ents,clock,by rw[fP hq];exact h1,h2,h3⟩
theorem Jr (hc:Conc N B M w0 ρ s a w){θ:List (Id×Id)}{bw:List Id}{h0:List (Id×AO)}(hb:Bound s θ bw h0):Lies w.heap.size (ng ρ s w θ bw) w h0:=by
 refine⟨fun q y hq=>?_,fun q q' y y' b hq P4 P2 ho QL=>?_,fun q y b hq ho=>?_⟩
 ·obtain⟨o,x,g1,g2,g3⟩:=hb.obj _ (jO hq);exact NT hc hb g1 g3 (hc.obj o x g2)
 ·obtain⟨o,x,g1,g2,_⟩:=hb.obj _ (jO hq);obtain⟨o',x',Vd,Wg,_⟩:=hb.obj _ (jO P4);rw[mQ g1]at ho;rw[mQ Vd]at QL;exact hc.sep o o' x x' b g2 Wg (fun e=>P2 (hb.inj g1 (by rw[e];exact Vd))) ho QL
 ·obtain⟨o,x,g1,g2,_⟩:=hb.obj _ (jO hq);rw[mQ g1]at ho;exact(hc.rng o x b g2 ho).1
theorem qd {θ:List (Id×Id)}{bw:List Id}{h0:List (Id×AO)}(hb:Bound s θ bw h0){b:Nat}(h:Ms (ng ρ s w θ bw) h0 b):∃q o x,lkI θ q=some o/\s.H o=some x/\Own ρ o b:=by obtain⟨q,y,hq,ho⟩:=h;obtain⟨o,x,g1,g2,_⟩:=hb.obj _ (jO hq);rw[mQ g1]at ho;exact⟨q,o,x,g1,g2,ho⟩
def mZ (ρ ρ2:Rho)(θ:List (Id×Id))(nm:Nat):Rho:=
 ⟨fun o=>if o.1=nm then ρ2 (1,o.2)else ρ o,fun o c=>(o.1=nm/\ρ2.fp (1,o.2) c)\/(o.1≠nm/\((∃q,lkI θ q=some o/\ρ2.fp q c)\/((¬∃q,lkI θ q=some o)/\ρ.fp o c))),ρ.al⟩
structure Back (B:Nat) (ρ ρ2:Rho) (s:F_) (w w':World) (θ:List (Id×Id)) (bw:List Id) (nm:Nat) (h0 h1:List (Id×AO)):Prop where
 bound:Bound s θ bw h0
 h0n:∀p∈h0,p.1.1=0
 h1n:(h1.map (·.1)).Nodup
 h1k:∀p∈h1,okN h0 p.1=true/\yR p.2=true/\∀id∈p.2.ids,okN h0 id=true
 new:¬s.U nm
 used:∀o x,s.H o=some x->s.U o.1
 keep:∀o,(lkH h0 o).isSome=true->ρ2 o=ng ρ s w θ bw o
 al:ρ2.al=(ng ρ s w θ bw).al
 lies:Lies w.heap.size ρ2 w' h1
 own:∀o x b,lkH h1 o=some x->Own ρ2 o b->w.heap.size<=b\/Ms (ng ρ s w θ bw) h0 b
 size:w.heap.size<=w'.heap.size
 base:B<=w.heap.size
section
variable {ρ2:Rho} {θ:List (Id×Id)} {bw:List Id} {nm:Nat} {h0 h1:List (Id×AO)}
theorem Back.name (hk:Back B ρ ρ2 s w w' θ bw nm h0 h1){q:Id}(hq:okN h0 q=true):(∃o x,lkI θ q=some o/\s.H o=some x/\o.1≠nm/\reI θ nm q=o)\/(lkI θ q=none/\q.1=1/\reI θ nm q=(nm,q.2)):=by
 cases h:lkI θ q with
 | some o=>
  obtain⟨x,hx⟩:=hk.bound.get h
  exact .inl ⟨o,x,rfl,hx,fun e=>hk.new (by rw[<-e];exact hk.used o x hx),by unfold reI;rw[h]⟩
 | none=>
  right;refine⟨rfl,?_,by unfold reI;rw[h]⟩;unfold okN at hq;rw[x9,memI_iff]at hq;rcases hq with hq|hq
  ·obtain⟨p,hp,e⟩:=q7.1 hq;obtain⟨o,x,g,_⟩:=hk.bound.obj p hp;rw[e,h]at g;cases g
  ·simpa using hq
theorem Back.val (hk:Back B ρ ρ2 s w w' θ bw nm h0 h1){q:Id}(hq:okN h0 q=true):mZ ρ ρ2 θ nm (reI θ nm q)=ρ2 q:=by
 rcases hk.name hq with⟨o,x,g1,g2,g3,g4⟩|⟨g1,g2,g3⟩
 ·rw[g4];show(if o.1=nm then _ else ρ o)=_;rw[b8 g3,hk.keep q (GN (hk.bound.keys _ (jL g1)).1),fP g1]
 ·rw[g3];show(if nm=nm then ρ2 (1,q.2)else _)=_;rw[b9 rfl,<-g2]
theorem Back.fp (hk:Back B ρ ρ2 s w w' θ bw nm h0 h1){q:Id}(hq:okN h0 q=true)(c:Nat):(mZ ρ ρ2 θ nm).fp (reI θ nm q) c↔ρ2.fp q c:=by
 rcases hk.name hq with⟨o,x,g1,g2,g3,g4⟩|⟨g1,g2,g3⟩
 ·rw[g4];constructor
  ·rintro(⟨e,_⟩|⟨_,⟨q',e1,e2⟩|⟨e1,_⟩⟩)
   ·exact absurd e g3
   ·rw[hk.bound.inj g1 e1];exact e2
   ·exact absurd ⟨q,g1⟩ e1
  ·exact fun h=> .inr ⟨g3,.inl ⟨q,g1,h⟩⟩
 ·rw[g3];constructor
  ·rintro(⟨_,h⟩|⟨e,_⟩)
   ·rw[<-g2]at h;exact h
   ·exact absurd rfl e
  ·intro h;left;refine⟨rfl,?_⟩;rw[<-g2];exact h
theorem Back.owned (hk:Back B ρ ρ2 s w w' θ bw nm h0 h1){q:Id}(hq:okN h0 q=true)(c:Nat):Own (mZ ρ ρ2 θ nm) (reI θ nm q) c↔Own ρ2 q c:=by unfold Own;rw[hk.val hq,hk.fp hq]
theorem Back.inj (hk:Back B ρ ρ2 s w w' θ bw nm h0 h1){q q':Id}(hq:okN h0 q=true)(P4:okN h0 q'=true)(e:reI θ nm q=reI θ nm q'):q=q':=by
 rcases hk.name hq with⟨o,x,g1,g2,g3,g4⟩|⟨g1,g2,g3⟩<;>rcases hk.name P4 with⟨o',x',k1,k2,k3,k4⟩|⟨k1,k2,k3⟩
 ·rw[g4,k4]at e;subst e;exact hk.bound.inj g1 k1
 ·rw[g4,k3]at e;subst e;exact absurd rfl g3
 ·rw[g3,k4]at e;subst e;exact absurd rfl k3
 ·rw[g3,k3]at e;have:q.2=q'.2:=congrArg (·.2) e;exact Prod.ext (g2.trans k2.symm) this
theorem Back.oldv (hk:Back B ρ ρ2 s w w' θ bw nm h0 h1){o:Id}(ho:s.U o.1):mZ ρ ρ2 θ nm o=ρ o:=b8 fun e:o.1=nm=>hk.new abl
theorem Back.oldf (hk:Back B ρ ρ2 s w w' θ bw nm h0 h1){o:Id}(ho:s.U o.1)(hn:o∉θ.map (·.2))(c:Nat):(mZ ρ ρ2 θ nm).fp o c↔ρ.fp o c:=by
 have h1:o.1≠nm:=fun e=>hk.new abl;have h2:¬∃q,lkI θ q=some o:=fun⟨q,h⟩=>hn (q7.2 ⟨_,jL h,rfl⟩);constructor
 ·rintro(⟨e,_⟩|⟨_,h|⟨_,h⟩⟩)
  ·exact absurd e h1
  ·exact absurd (h.elim fun q h=>⟨q,h.1⟩) h2
  ·exact h
 ·exact fun h=> .inr ⟨h1,.inr ⟨h2,h⟩⟩
theorem IK (H:Id->Option AO){o:Id}{x:AO}(h:cD H (usG θ nm h1) o=some x):(∃q y,(q,y)∈h1/\o=reI θ nm q/\x=y.re θ nm)\/(o∉(θ.map (·.2))++h1.map (fun p=>reI θ nm p.1)/\H o=some x):=by
 rw[usG,oB]at h;have h':cD (cD H (θ.map fun p=>(p.2,none))) ((h1.map fun p=>(reI θ nm p.1,p.2.re θ nm)).map fun p=>(p.1,some p.2)) o=some x:=by rw[F0];exact h
 rcases vJ _ _ o x h' with h2|⟨h2,h3⟩
 ·obtain⟨p,hp,e⟩:=q7.1 h2;injection e with e1 e2;exact .inl ⟨p.1,p.2,hp,e1.symm,e2.symm⟩
 ·have h2':o∉h1.map fun p=>reI θ nm p.1:=by simpa [F0]using h2
  have nonek:∀(l:List Id) (H:Id->Option AO),cD H (l.map fun r=>(r,none)) o=some x->o∉l/\H o=some x:=by
   intro l
   induction l with
   | nil=>intro H h;exact⟨s_,h⟩
   | cons r l ih=>
    intro H h;simp only[p7,cD]at h;obtain⟨g1,g2⟩:=ih _ h;by_cases e:o=r
    ·rw[b9 e]at g2;cases g2
    ·rw[b8 e]at g2;exact⟨by simp[e,g1],g2⟩
  have UL:cD H ((θ.map (·.2)).map fun r=>(r,none)) o=some x:=by rw[F0];exact h3
  obtain⟨g1,g2⟩:=nonek _ _ UL;refine .inr ⟨fun hm=>?_,g2⟩;rcases f0.1 hm with hm|hm
  ·exact g1 hm
  ·exact h2' hm
theorem Back.ok (hk:Back B ρ ρ2 s w w' θ bw nm h0 h1)(hc:Conc N B M w0 ρ s a w){b:Nat}(hb:okB ρ2 (lkH h1) w' b)(hf:bw=[]\/w.heap.size<=b):okB (mZ ρ ρ2 θ nm) (cD s.H (usG θ nm h1)) w' b:=by
 have QZ:alC ρ s w θ bw b:=by have:=hb.1.2;rw[hk.al]at this;exact this
 have Vu:w.heap.size<=b->ρ.al b:=fun h=>hc.alw b (.inl (s8 hk.base h))
 have XH:(∃o x,o∈bw/\s.H o=some x/\Own ρ o b)->w.heap.size<=b:=fun⟨o,x,h1,h2,h3⟩=>by
  rcases hf with hf|hf
  ·rw[hf]at h1;cases h1
  ·exact hf
 refine⟨⟨hb.1.1,?_⟩,fun o x ho he=>?_⟩
 ·show ρ.al b;rcases QZ with h|h|⟨q,o,x,_,h2,h3⟩|h
  ·exact h.1.2
  ·exact Vu (XH h)
  ·exact hc.alw b (hc.rng o x b h2 h3).2
  ·exact Vu h
 ·rcases IK s.H ho with⟨q,y,g1,rfl,_⟩|⟨g1,g2⟩
  ·rw[hk.owned (hk.h1k _ g1).1]at he;exact hb.2 q y (yi hk.h1n g1) he
  ·have hU:=hk.used o x g2
   have Rd:Own ρ o b:=by unfold Own at he⊢;rw[hk.oldv hU,hk.oldf hU (fun h=>g1 abd)]at he;exact he
   have O4:=(hc.rng o x b g2 Rd).1;rcases QZ with h|h|⟨q,o',x',h1,h2,h3⟩|h
   ·exact h.2 o x g2 Rd
   ·have:=XH h;omega
   ·exact hc.sep o' o x' x b h2 g2 (fun e=>g1 (by rw[<-e];exact f0.2 (.inl (q7.2 ⟨_,jL h1,rfl⟩)))) h3 Rd
   ·omega
theorem Back.cell (hk:Back B ρ ρ2 s w w' θ bw nm h0 h1)(hc:Conc N B M w0 ρ s a w){v:Value}{c:AC}(hv:RC w.heap.size ρ2 w' (okB ρ2 (lkH h1) w') v c)(hf:bw=[]\/Oi c=true)(hi:∀id∈c.ids,okN h0 id=true):RC B (mZ ρ ρ2 θ nm) w' (okB (mZ ρ ρ2 θ nm) (cD s.H (usG θ nm h1)) w') v (c.re θ nm):=by
 cases c with
 | t x=>
  rcases hf with hf|hf
  ·exact RT.keep hv fun b hb=>⟨rfl,hk.ok hc hb (.inl hf)⟩
  ·cases x with
   | lst=>simp[Oi]at hf
   | int=>cases hv;exact RT.int _ _
   | bool=>cases hv;exact RT.bool _
   | str=>cases hv;exact RT.str _
 | f x=>exact RT.keep hv fun b hb=>⟨rfl,hk.ok hc hb.1 (.inr (hb.2 rfl)),fun _=>s8 hk.base (hb.2 rfl)⟩
 | nils n=>exact hv
 | nilp=>exact hv
 | opq=>exact hv
 | mpv q=>
  have:=hk.val (hi q aaz);show RC _ _ _ _ v (.mpv (reI θ nm q))
  rw[RC,this];exact hv
 | own q=>
  have:=hk.val (hi q aaz);show RC _ _ _ _ v (.own (reI θ nm q))
  rw[RC,this];exact hv
 | sub q k=>
  have:=hk.val (hi q aaz);show RC _ _ _ _ v (.sub (reI θ nm q) k)
  rw[RC,this];exact hv
 | ptr q k=>have:=hk.val (hi q aaz);show RC _ _ _ _ v (.ptr (reI θ nm q) k);rw[RC,this];exact hv
theorem Back.cells (hk:Back B ρ ρ2 s w w' θ bw nm h0 h1)(hc:Conc N B M w0 ρ s a w):∀{vs:List Value} {cs:List AC},RCs w.heap.size ρ2 w' (okB ρ2 (lkH h1) w') vs cs->(bw=[]\/yH cs=true)->(∀id∈cs.flatMap AC.ids,okN h0 id=true)->
  RCs B (mZ ρ ρ2 θ nm) w' (okB (mZ ρ ρ2 θ nm) (cD s.H (usG θ nm h1)) w') vs (CI θ nm cs)
 | [],[],_,_,_=>trivial
 | v::vs,c::cs,h,hf,hi=>by
  refine⟨hk.cell hc h.1 (hf.imp id fun h=>?_) fun id O9=>hi id (by simp[O9]),hk.cells hc h.2 (hf.imp id fun h=>?_) fun id O9=>hi id (by simp only[v3,f0];exact .inr O9)⟩
  ·rw[yH,d5]at h;exact h.1
  ·rw[yH,d5]at h;exact h.2
 | [],_::_,h,_,_=>h.elim
 | _::_,[],h,_,_=>h.elim
theorem Back.row (hk:Back B ρ ρ2 s w w' θ bw nm h0 h1)(hc:Conc N B M w0 ρ s a w){v:Value}{x:AR}(hv:RR w.heap.size ρ2 w' (okB ρ2 (lkH h1) w') v x)(hf:bw=[]\/PC x=true)(hi:∀id∈x.ids,okN h0 id=true):RR B (mZ ρ ρ2 θ nm) w' (okB (mZ ρ ρ2 θ nm) (cD s.H (usG θ nm h1)) w') v (x.re θ nm):=by cases x with|c x=>exact hk.cell hc hv hf hi|agg cs=>obtain⟨us,e,h⟩:=hv;exact⟨us,e,hk.cells hc h hf hi⟩
theorem Back.rows (hk:Back B ρ ρ2 s w w' θ bw nm h0 h1)(hc:Conc N B M w0 ρ s a w):∀{vs:List Value} {cs:List AR},RRs w.heap.size ρ2 w' (okB ρ2 (lkH h1) w') vs cs->(bw=[]\/EK cs=true)->(∀id∈cs.flatMap AR.ids,okN h0 id=true)->
  RRs B (mZ ρ ρ2 θ nm) w' (okB (mZ ρ ρ2 θ nm) (cD s.H (usG θ nm h1)) w') vs (Kd θ nm cs)
 | [],[],_,_,_=>trivial
 | v::vs,c::cs,h,hf,hi=>by
  refine⟨hk.row hc h.1 (hf.imp id fun h=>?_) fun id O9=>hi id (by simp[O9]),hk.rows hc h.2 (hf.imp id fun h=>?_) fun id O9=>hi id (by simp only[v3,f0];exact .inr O9)⟩
  ·rw[EK,d5]at h;exact h.1
  ·rw[EK,d5]at h;exact h.2
 | [],_::_,h,_,_=>h.elim
 | _::_,[],h,_,_=>h.elim
theorem Back.value (hk:Back B ρ ρ2 s w w' θ bw nm h0 h1)(hc:Conc N B M w0 ρ s a w){v:Value}{x:AV}(hv:RV w.heap.size ρ2 w' (okB ρ2 (lkH h1) w') v x)(hf:bw=[]\/LI x=true)(hi:∀id∈x.ids,okN h0 id=true):RV B (mZ ρ ρ2 θ nm) w' (okB (mZ ρ ρ2 θ nm) (cD s.H (usG θ nm h1)) w') v (x.re θ nm):=by cases x with|r x=>exact hk.row hc hv hf hi|tup xs=>obtain⟨us,e,h⟩:=hv;exact⟨us,e,hk.rows hc h hf hi⟩|el=>trivial|ro=>trivial|unk=>trivial
theorem MK {l:List (Id×AO)}(h:zv l=true):∀p∈l,(∃cs,p.2= .box cs/\yH cs=true)\/(∃sz rows,p.2= .arr true sz rows)\/(∃kk es,p.2= .mp kk es)\/∃sz rs,p.2= .dar sz (aw rs) none:=by
 induction l with
 | nil=>simp
 | cons p l ih=>
  obtain⟨q,y⟩:=p;intro p' Uw;unfold zv at h;split at h
  ·simp at *
  ·rename_i Ui;injection Ui with e1 e2;injection e1 with e3 e4;rw[d5]at h;rcases d8.1 Uw with rfl|Uw
   ·obtain⟨rs,e⟩:=NJ h.2;subst e;exact .inr (.inr (.inr ⟨_,_,e4⟩))
   ·subst e2;exact ih h.1 p' Uw
  ·rename_i Ui;injection Ui with e1 e2;injection e1 with e3 e4;rw[d5]at h;rcases d8.1 Uw with rfl|Uw
   ·exact .inl ⟨_,e4,h.1⟩
   ·subst e2;exact ih h.2 p' Uw
  ·rename_i Ui;injection Ui with e1 e2;injection e1 with e3 e4;rcases d8.1 Uw with rfl|Uw
   ·exact .inr (.inl ⟨_,_,e4⟩)
   ·subst e2;exact ih h p' Uw
  ·rename_i Ui;injection Ui with e1 e2;injection e1 with e3 e4;rcases d8.1 Uw with rfl|Uw
   ·exact .inr (.inr (.inl ⟨_,_,e4⟩))
   ·subst e2;exact ih h p' Uw
  ·cases h
theorem Back.object (hk:Back B ρ ρ2 s w w' θ bw nm h0 h1)(hc:Conc N B M w0 ρ s a w){q:Id}{y:AO}(hq:(q,y)∈h1)(hf:bw=[]\/zv h1=true):RO B (mZ ρ ρ2 θ nm) w' (okB (mZ ρ ρ2 θ nm) (cD s.H (usG θ nm h1)) w') (reI θ nm q) (y.re θ nm):=by
 have hv:=hk.lies.obj q y (yi hk.h1n hq);obtain⟨hn,hh,hi⟩:=hk.h1k _ hq;have P0:=hk.val hn;have Ta:=hk.fp hn;have TB:=hf.imp id fun h=>MK h _ hq
 cases y with
 | arr fr sz rows=>
  obtain⟨hu,hv⟩:=hv;refine⟨hu,?_⟩;rcases hv with⟨k1,k2⟩|⟨b,cap,cur,e',fz,k1,k2,k3,k4,k5,k6,k7,k8⟩
  ·exact .inl ⟨by rw[P0];exact k1,k2⟩
  ·refine .inr ⟨b,cap,cur,e',fz,by rw[P0];exact k1,k2,k3,k4,k5,k6,k7.keep (fun c O8=>⟨rfl,hk.ok hc O8.1 ?_,fun e=>s8 hk.base (O8.2 e)⟩),fun e=>s8 hk.base (k8 e)⟩;rcases TB with TB|⟨cs,e,_⟩|⟨QQ,rows',e⟩|⟨kk,es,e⟩|⟨QQ,rs,e⟩
   ·exact .inl TB
   ·cases e
   ·injection e with e;subst e;exact .inr (O8.2 rfl)
   ·cases e
   ·cases e
 | box cells=>
  obtain⟨b,cur,t,fz,k1,k2,k3,k4⟩:=hv;refine⟨b,cur,t,fz,by rw[P0];exact k1,k2,k3,hk.cells hc k4 ?_ hi⟩;rcases TB with TB|⟨cs,e,h⟩|⟨QQ,rows',e⟩|⟨kk,es,e⟩|⟨QQ,rs,e⟩
  ·exact .inl TB
  ·injection e with e;subst e;exact .inr h
  ·cases e
  ·cases e
  ·cases e
 | mp kk es=>
  obtain⟨b,ents,clock,k1,k2,k3⟩:=hv
  exact⟨b,ents,clock,by rw[P0];exact k1,k2,k3⟩
 | dar sz rows hole=>
  have Xl:bw=[]\/(hole=none->∃rs,rows=aw rs):=by
   rcases TB with TB|⟨cs,e,_⟩|⟨QQ,rows',e⟩|⟨kk,es,e⟩|⟨QQ,rs,e⟩
   ·exact .inl TB
   ·cases e
   ·cases e
   ·cases e
   ·injection e with e1 e2;exact .inr fun _=>⟨rs,e2⟩
  cases hole with
  | some p=>obtain⟨i,off,n⟩:=p;simp[yR]at hh
  | none=>
   obtain⟨hu,hv⟩:=hv;refine⟨hu,?_⟩;rcases hv with⟨k1,k2⟩|⟨b,cap,cur,e',fz,Fp,k1,k2,k3,k4,k5,k6,k7,k8,k9⟩
   ·exact .inl ⟨by rw[P0];exact k1,k2⟩
   ·exact .inr ⟨b,cap,cur,e',fz,Fp,by rw[P0];exact k1,k2,k3,k4,k5,k6,fun p c O8=>⟨(Ta c).2 (k7 p c O8).1,(k7 p c O8).2⟩,k8,by
     rcases Xl with Xl|Xl
     ·exact k9.keep (fun c O8=>⟨rfl,hk.ok hc O8 (.inl Xl)⟩) (fun p c O8=>⟨rfl,O8⟩) fun _ _ _ e=>by cases e
     ·obtain⟨rs,e⟩:=Xl rfl;refine⟨k9.1,fun p v c h1 h2=>?_⟩;have h3:=k9.2 p v c h1 h2;simp only[cT]at h3⊢;have hm:=c9 h2;rw[e]at hm;obtain⟨r,hr,YE⟩:=G8.1 hm;obtain⟨tr,_,rfl⟩:=q7.1 hr;obtain⟨x,_,rfl⟩:=q7.1 YE
      exact h3⟩
theorem xW {cs:List AC}{id:Id}(h:id∈(CI θ nm cs).flatMap AC.ids):∃q∈cs.flatMap AC.ids,id=reI θ nm q:=by
 induction cs with
 | nil=>simp[CI]at h
 | cons c cs ih=>
  simp only[CI,v3,f0]at h⊢;rcases h with h|h
  ·cases c<;>simp only[AC.re,AC.ids,t6,m8]at h
   all_goals exact⟨_,.inl (t6.2 rfl),h⟩
  ·obtain⟨q,h1,h2⟩:=ih h;exact⟨q,.inr h1,h2⟩
theorem IF {x:AR}{id:Id}(h:id∈(x.re θ nm).ids):∃q∈x.ids,id=reI θ nm q:=by
 cases x with
 | c c=>
  have:id∈(CI θ nm [c]).flatMap AC.ids:=by simpa [CI,AR.re,AR.ids]using h
  obtain⟨q,h1,h2⟩:=xW this
  exact⟨q,by simpa [AR.ids]using h1,h2⟩
 | agg cs=>exact xW h
theorem Mx {cs:List AR}{id:Id}(h:id∈(Kd θ nm cs).flatMap AR.ids):∃q∈cs.flatMap AR.ids,id=reI θ nm q:=by
 induction cs with
 | nil=>simp[Kd]at h
 | cons c cs ih=>
  simp only[Kd,v3,f0]at h⊢;rcases h with h|h
  ·obtain⟨q,h1,h2⟩:=IF h;exact⟨q,.inl h1,h2⟩
  ·obtain⟨q,h1,h2⟩:=ih h;exact⟨q,.inr h1,h2⟩
theorem Oh {x:AV}{id:Id}(h:id∈(x.re θ nm).ids):∃q∈x.ids,id=reI θ nm q:=by cases x with|r x=>exact IF h|tup xs=>exact Mx h|el=>simp[AV.re,AV.ids]at h|ro=>simp[AV.re,AV.ids]at h|unk=>simp[AV.re,AV.ids]at h
theorem NQ {x:AO}(hn:yR x=true){id:Id}(h:id∈(x.re θ nm).ids):∃q∈x.ids,id=reI θ nm q:=by
 cases x with
 | arr=>simp[AO.re,AO.ids]at h
 | mp=>simp[AO.re,AO.ids]at h
 | box cs=>exact xW h
 | dar sz rows hole=>cases hole with|none=>simp[AO.re,AO.ids]at h|some p=>obtain⟨i,off,n⟩:=p;simp[yR]at hn
theorem Back.usedN (hk:Back B ρ ρ2 s w w' θ bw nm h0 h1){q:Id}(hq:okN h0 q=true):s.U (reI θ nm q).1\/(reI θ nm q).1=nm:=by
 rcases hk.name hq with⟨o,x,g1,g2,g3,g4⟩|⟨g1,g2,g3⟩
 ·rw[g4];exact .inl (hk.used o x g2)
 ·rw[g3];exact .inr rfl
end
theorem wc {f:FuncId}{args:Array Operand}{argTypes:Array TypeId}{nm:Nat}(ho:o.op= .call {callee:= .value (.func f),args,argTypes})(h:Nr P f nm (args.toList.map ev) H K):∃e,K e/\Good P o ev H e:=by
 obtain⟨xs,h0,r,h1,hs,h⟩:=h;obtain⟨θ1,bw1,h,_,_,Tl⟩:=Cm h;obtain⟨θ,bw,⟨aaf,hK0⟩,acA,Xl,hO⟩:=Fx h;have hv:=Tl.mono acA Xl;rw[d5,d5]at aaf;obtain⟨⟨hI,hJ⟩,Uy⟩:=aaf;simp only[okI,d5,n9,nodupI_iff,memI_iff,v4]at hI;obtain⟨⟨⟨⟨i1,i2⟩,i3⟩,i4⟩,i5⟩:=hI;simp only[okJ,d5,n9,nodupI_iff,H8]at hJ;obtain⟨⟨⟨j1,j2⟩,j3⟩,j4⟩:=hJ
 have aai:bw=[]\/LI r=true:=by
  rw[x9]at Uy;rcases Uy with g|g
  ·left;simpa using g
  ·right;rw[d5]at g;exact g.1
 have aaE:bw=[]\/zv h1=true:=by
  rw[x9]at Uy;rcases Uy with g|g
  ·left;simpa using g
  ·right;rw[d5]at g;exact g.2
 refine⟨_,hK0,?_⟩;intro N B M w0 ρ s a w Q K' hc O3 hR hn hd hK;have hRb:∀o∈bw,s.H o=H o:=fun o h=>hR o abd
 have hb:Bound s θ bw h0:=by
  refine⟨i1,fun p hp=>⟨(i4 p hp).1,fun hm=>?_⟩,fun p hp=>?_⟩
  ·have:=(i4 p hp).2;rw[memI_iff.2 hm]at this;cases this
  ·obtain⟨o,x,g1,g2,g3⟩:=hO p hp;refine⟨o,x,g1,?_,g3.congr hRb⟩;rw[hR o (f0.2 (.inl (q7.2 ⟨_,jL g1,rfl⟩)))];exact g2
 have S2:=GF (h0:=h0) (B':=w.heap.size) hc hb (hv.congr hRb) (fun x hx=>O3 x aax)
 have Rt:=hs.2 w (args.map a.eval) (ng ρ s w θ bw) (by simpa using S2) (Jr hc hb) (fun b Rc=>by
  rcases Rc with Rc|Rc
  ·exact .inr (.inr (.inr Rc))
  ·exact .inr (.inr (.inl (qd hb Rc))))
 have P1:(execOp a.eval o).run P w= .ok (.enter f (args.map a.eval)) w:=by exact V134
 unfold Oper.wp;rw[P1];show Calls P f (args.map a.eval) w _;refine Rt.mono fun e w' ⟨v,ρ2,he,Tb,VH,QZ,ZH,VV,P8⟩=>?_;subst he;have Sp:=hn nm rfl
 have hk:Back B ρ ρ2 s w w' θ bw nm h0 h1:=by refine⟨hb,fun p hp=>by simpa using j4 p hp,j1,fun p hp=>?_,Sp,fun o x ho=>(hc.usedH o x ho).1,VH,QZ,VV,P8,Tb.size,hc.base⟩;have:=j2 p hp;exact⟨this.1.1,this.1.2,this.2⟩
 show K' (a.put o.dst v) w';refine hK v w' (mZ ρ ρ2 θ nm) ?_
 have hHk:∀o x,o∈(θ.map (·.2))++h1.map (fun p=>reI θ nm p.1)->cD s.H (usG θ nm h1) o=some x->∃q y,(q,y)∈h1/\o=reI θ nm q/\x=y.re θ nm:=fun o x hm hx=>by
  rcases IK s.H hx with g|⟨g,_⟩
  ·exact g
  ·exact absurd hm g
 have:=hc.step (Ms (ng ρ s w θ bw) h0) ((θ.map (·.2))++h1.map (fun p=>reI θ nm p.1)) (w':=w') (ρ':=mZ ρ ρ2 θ nm) (H':=cD s.H (usG θ nm h1)) (U':=fun n=>s.U n\/n=nm) (a':=a.put o.dst v) (L':=pj s.L o.dst (r.re θ nm))
  ⟨Tb.os,Tb.tape,Tb.output,Tb.size,Tb.block⟩ (by rw[mH];exact hc.size) (by rw[jv];exact hc.defers)
  (fun o ho=>hk.oldv ho)
  (fun o x hm ho=>by
   funext c
   exact propext (hk.oldf (hc.usedH o x ho).1 (fun h=>hm abd) c)) rfl
  (fun o hm=>by
   refine dx _ _ o fun h=>hm ?_;simp only[usG,q8,F0]at h
   exact h)
  (fun n hn=> .inl hn)
  (fun b Rc hM=>by
   obtain⟨q,o,x,g1,g2,g3⟩:=qd hb hM
   exact Rc.2 o x g2 g3)
  (fun o x b g1 g2 g3 hM=>by
   obtain⟨q,o',x',k1,k2,k3⟩:=qd hb hM
   exact hc.sep o o' x x' b g1 k2 (fun e=>g2 (by rw[e];exact f0.2 (.inl (q7.2 ⟨_,jL k1,rfl⟩)))) g3 k3)
  (fun b hB hnM hM=>by
   obtain⟨q,o',x',k1,k2,k3⟩:=qd hb hM;rcases(hc.rng o' x' b k2 k3).2 with g|g
   ·omega
   ·exact hnM g)
  (fun o x b g1 g2 g3=>by
   obtain⟨q,y,k1,rfl,rfl⟩:=hHk o x g1 g2;rw[hk.owned (hk.h1k _ k1).1]at g3;have hl:=yi hk.h1n k1;refine⟨VV.lt q y b hl g3,?_,?_⟩
   ·rcases P8 q y b hl g3 with g|g
    ·exact .inl (s8 hc.base g)
    ·obtain⟨q',o',x',m1,m2,m3⟩:=qd hb g;exact(hc.rng o' x' b m2 m3).2
   ·rcases P8 q y b hl g3 with g|g
    ·exact .inl g
    ·obtain⟨q',o',x',m1,m2,m3⟩:=qd hb g
     exact .inr ⟨o',x',m2,f0.2 (.inl (q7.2 ⟨_,jL m1,rfl⟩)),m3⟩)
  (fun o o' x x' b g1 Vd g2 Wg P2 g3 Xm=>by
   obtain⟨q,y,k1,rfl,rfl⟩:=hHk o x g1 g2;obtain⟨q',y',k1',rfl,rfl⟩:=hHk o' x' Vd Wg;rw[hk.owned (hk.h1k _ k1).1]at g3;rw[hk.owned (hk.h1k _ k1').1]at Xm
   exact VV.sep q q' y y' b (yi hk.h1n k1) (yi hk.h1n k1') (fun e=>P2 (by rw[e])) g3 Xm)
  (fun _ o x g1 g2=>by
   obtain⟨q,y,k1,rfl,rfl⟩:=hHk o x g1 g2;obtain⟨m1,m2,m3⟩:=hk.h1k _ k1;refine⟨hk.object hc k1 aaE,hk.usedN m1,fun o' QL=>?_⟩;obtain⟨q',e1,rfl⟩:=NQ m2 QL
   exact hk.usedN (m3 q' e1))
  (fun _ t=>hc.slots hd (U':=fun n=>s.U n\/n=nm) (hk.value hc ZH aai j3) (fun id O9=>by
   obtain⟨q',e1,rfl⟩:=Oh O9
   exact hk.usedN (j3 q' e1)) t)
 exact this.congr (fun _=>rfl) (fun _=>rfl) (fun n=>by simp[F_.app,eq_comm])
theorem yD {nm:Nat}(hΓ:Γ.chk P=true)(h:sem P Γ nm o ev H K):∃e,K e/\Good P o ev H e:=by
 unfold sem at h;split at h
 ·exact⟨_,h,yj (.inl aav)⟩
 ·exact⟨_,h,yj (.inr aav)⟩
 ·rename_i c x y ho;split at h
  ·rename_i t hc;have:=HI (P:=P) (H:=H) ho hc
   cases t
   ·exact⟨_,h,this⟩
   ·exact⟨_,h,this⟩
  ·exact h.elim
 ·split at h
  ·rename_i ho _ _ _ _ hd hT;exact⟨_,h,FG hΓ hT hd ho⟩
  ·exact h.elim
 ·split at h
  ·rename_i ho _ _ _ _ hd hx;exact⟨_,h,Ky hd ho hx⟩
  ·exact h.elim
 ·split at h
  ·rename_i ho _ _ hT;obtain⟨H',us,R,h,QK⟩:=rr h;obtain⟨e,h1,h2⟩:=GO hΓ hT ho h;exact⟨_,h1,yq QK h2⟩
  ·exact h.elim
 ·split at h
  ·rename_i ho _ _ hT;obtain⟨H',us,R,h,QK⟩:=rr h;obtain⟨e,h1,h2⟩:=Fd hΓ hT ho h;exact⟨_,h1,yq QK h2⟩
  ·exact h.elim
 ·split at h
  ·rename_i ho _ _ hT;split at h
   ·rename_i hf;obtain⟨v,h1,h2⟩:=wU (H:=H) hΓ hT hf ho h;exact⟨_,h1,h2⟩
   ·exact h.elim
  ·exact h.elim
 ·split at h
  ·rename_i ho _ _ hT;split at h
   ·rename_i he;split at h
    ·rename_i hE;exact xh hΓ hT he hE ho h
    ·exact h.elim
   ·exact h.elim
  ·exact h.elim
 ·split at h
  ·rename_i ho _ _ hT;split at h
   ·rename_i hs;obtain⟨v,h1,h2⟩:=Em (H:=H) hΓ hT hs ho h;exact⟨_,h1,h2⟩
   ·exact h.elim
  ·exact h.elim
 ·rename_i ho;split at h
  ·split at h
   ·rename_i hT;split at h
    ·rename_i hb;obtain⟨v,h1,h2⟩:=HD (H:=H) hΓ hT hb ho h;exact⟨_,h1,h2⟩
    ·exact h.elim
   ·exact h.elim
  ·rename_i hx;split at h
   ·rename_i hT;obtain⟨v,h1,h2⟩:=JX (H:=H) hΓ hT ho hx h.1 h.2;exact⟨_,h1,h2⟩
   ·exact h.elim
  ·obtain⟨v,h1,h2⟩:=Kb (P:=P) (H:=H) ho h;exact⟨_,h1,h2⟩
 ·rename_i ho;obtain⟨v,h1,h2⟩:=Mv (P:=P) (H:=H) ho h;exact⟨_,h1,h2⟩
 ·rename_i ho;split at h
  ·rename_i hd hk;exact⟨_,h,AD hd ho⟩
  ·exact h.elim
 ·rename_i ho;exact Dz hΓ ho h
 ·rename_i ho;exact DB hΓ (.inl ho) h
 ·rename_i ho;exact DL hΓ ho h
 ·rename_i ho;split at h
  ·rename_i hd hs ht;exact Ay hΓ hs ht hd ho h
  ·exact h.elim
 ·rename_i ho;split at h
  ·rename_i hT;split at h
   ·exact h.elim
   ·rename_i P2;exact EG hΓ hT ho (fun e=>P2 e) h
  ·exact h.elim
 ·rename_i ho;split at h
  ·rename_i hd hT;split at h
   ·rename_i he;split at h
    ·rename_i hE;split at h
     ·rename_i hn;split at h
      ·exact uG hΓ hT he hE hd ho (by simpa using hn) h
      ·exact tJ hΓ hT he hE hd ho (by simpa using hn) h
     ·exact h.elim
    ·exact h.elim
   ·exact h.elim
  ·exact h.elim
 ·rename_i ho;split at h
  ·rename_i hd hT;split at h
   ·rename_i he;split at h
    ·rename_i hE;exact Hj hΓ hT he hE hd ho h
    ·exact h.elim
   ·exact h.elim
  ·exact h.elim
 ·rename_i ho;split at h
  ·rename_i hT;split at h
   ·rename_i he;split at h
    ·rename_i hE;split at h
     ·exact h.elim
     ·rename_i Xw;exact xb hΓ hT he hE ho h (fun t ht=>Xw t ht)
    ·exact h.elim
   ·split at h
    ·rename_i hs;obtain⟨t,hx,h⟩:=h;exact xq hΓ hT hs ho hx h
    ·exact h.elim
  ·exact h.elim
 ·rename_i ho;split at h
  ·rename_i hT;split at h
   ·rename_i hf;split at h
    ·rename_i X8;obtain⟨v,h1,h2⟩:=Ej (H:=H) hΓ hT hf X8 ho h;exact⟨_,h1,h2⟩
    ·exact h.elim
   ·exact h.elim
  ·exact h.elim
 ·rename_i ho;obtain⟨v,h1,h2⟩:=AF (P:=P) (H:=H) ho h;exact⟨_,h1,h2⟩
 ·rename_i ho;split at h
  ·rename_i hx;exact⟨_,h,uA ho hx (.inl ⟨_,_,rfl⟩)⟩
  ·rename_i hx;exact⟨_,h,uA ho hx (.inr (.inl ⟨_,_,_,_,rfl⟩))⟩
  ·rename_i hx;exact⟨_,h,uA ho hx (.inr (.inr ⟨_,_,_,rfl⟩))⟩
  ·exact h.elim
 ·rename_i ho;split at h
  ·rename_i hT;exact JA hΓ hT ho h
  ·exact h.elim
 ·rename_i ho;split at h
  ·rename_i hd hT hU;split at h
   ·rename_i he hk;split at h
    ·rename_i hE;exact CT hΓ hT hU he hk hE hd ho h
    ·exact h.elim
   ·exact h.elim
  ·exact h.elim
 ·rename_i ho;split at h
  ·rename_i hx hy;exact⟨_,h,Ku ho hx hy⟩
  ·exact h.elim
 ·rename_i ho;split at h
  ·rename_i hx hy;exact⟨_,h,Kt ho hx hy⟩
  ·exact h.elim
 ·rename_i ho;split at h
  ·rename_i hd;rcases h with⟨ts,r,h1,h2,h3⟩|h
   ·exact⟨_,h3,Hk hd ho h1 h2⟩
   ·exact wc ho h
  ·rename_i hd;rcases h with⟨ts,r,h1,h2,h3⟩|h
   ·exact⟨_,h3,xu hd ho h1 h2⟩
   ·exact wc ho h
 ·exact h.elim
end
def eb:List (Nat×AV)->Nat->AV
 | [],_=> .unk
 |(i,v)::r,t=>bif Nat.beq t i then v else eb r t
def cI:List (Id×Option AO)->Id->Option AO
 | [],_=>none
 |(i,x)::r,o=>bif gw o i then x else cI r o
def used:List Nat->Nat->Bool
 | [],_=>false
 | i::r,n=>bif Nat.beq n i then true else used r n
structure St where
 fr:List (Nat×AV)
 h:List (Id×Option AO)
 u:List Nat
def St.fs (st:St):F_:=⟨eb st.fr,cI st.h,fun n=>used st.u n=true⟩
def wo:List (Id×Option AO)->List (Id×Option AO)->List (Id×Option AO)
 | [],h=>h
 | p::r,h=>wo r (p::h)
def Jh:Option Nat->List Nat->List Nat
 | some n,u=>n::u
 | none,u=>u
def PS:Option Nat->AV->List (Nat×AV)->List (Nat×AV)
 | some d,v,fr=>(d,v)::fr
 | none,_,fr=>fr
def St.app (st:St)(dst:Option Nat)(e:Eff):St:=⟨PS dst e.v st.fr,wo e.us st.h,Jh e.new st.u⟩
theorem pT:∀(us h:List (Id×Option AO)) (o:Id),cI (wo us h) o=cD (cI h) us o
 | [],_,_=>rfl
 | p::us,h,o=>by
  rw[wo,pT us (p::h),cD];congr 1;funext o;simp only[cI];by_cases e:o=p.1
  ·rw[b9 e,(idEq_iff).2 e];rfl
  ·rw[b8 e]
   cases hb:gw o p.1 with|true=>exact absurd (idEq_iff.1 hb) e|false=>rfl
theorem F_.ext' {s t:F_}(hL:∀i,s.L i=t.L i)(hH:∀o,s.H o=t.H o)(hU:∀n,s.U n↔t.U n):s=t:=by obtain⟨L,H,U⟩:=s;obtain⟨L',H',U'⟩:=t;simp only at hL hH hU;rw[funext hL,funext hH,(funext fun n=>propext (hU n):U=U')]
theorem DD (st:St)(dst:Option Nat)(e:Eff):(st.app dst e).fs=st.fs.app dst e:=by
 refine F_.ext' (fun i=>?_) (fun o=>pT _ _ _) (fun n=>?_)
 ·cases dst with|none=>rfl|some d=>rfl
 ·show used (Jh e.new st.u) n=true↔used st.u n=true\/e.new=some n
  cases hn:e.new with
  | none=>simp[Jh]
  | some d=>
   simp only[Jh,used];by_cases e:n=d
   ·subst e;simp
   ·have:Nat.beq n d=false:=(by cases hb:Nat.beq n d with|false=>rfl|true=>exact absurd (t8 hb) e);simp only[this,cond_false,Option.some.injEq];exact⟨.inl,fun h=>h.elim id fun h=>absurd h.symm e⟩
abbrev pO:Eff:=⟨.tup [],[],none,[]⟩
def AC.force (x:AC)(K:AC->Prop):Prop:=
 match x with|.t y=>K (.t y)|.f y=>K (.f y)|.nils n=>K (.nils n)|.nilp=>K .nilp|.own o=>K (.own o)|.sub o k=>K (.sub o k)|.ptr o k=>K (.ptr o k)|.opq=>K .opq|.mpv o=>K (.mpv o)
abbrev nI:List AC->(List AC->Prop)->Prop
 | [],K=>K []
 | c::cs,K=>c.force fun c=>nI cs fun cs=>K (c::cs)
def AR.force (x:AR)(K:AR->Prop):Prop:=
 match x with
 | .c y=>y.force fun y=>K (.c y)
 | .agg ys=>nI ys fun ys=>K (.agg ys)
abbrev tm:List AR->(List AR->Prop)->Prop
 | [],K=>K []
 | c::cs,K=>c.force fun c=>tm cs fun cs=>K (c::cs)
def AV.force (x:AV)(K:AV->Prop):Prop:=
 match x with
 | .r y=>y.force fun y=>K (.r y)
 | .tup ys=>tm ys fun ys=>K (.tup ys)
 | .el o sz i off=>K (.el o sz i off)
 | .ro fr row off=>K (.ro fr row off)
 | .unk=>K .unk
def AO.force (x:AO)(K:AO->Prop):Prop:=
 match x with
 | .arr true sz rows=>K (.arr true sz rows)
 | .arr false sz rows=>K (.arr false sz rows)
 | .box ys=>nI ys fun ys=>K (.box ys)
 | .dar sz rows none=>K (.dar sz rows none)
 | .mp kk es=>K (.mp kk es)
 | .dar sz rows (some (i,off,(n,j,l)))=>K (.dar sz rows (some (i,off,(n,j,l))))
abbrev qk:List (Id×Option AO)->(List (Id×Option AO)->Prop)->Prop
 | [],K=>K []
 |(o,none)::l,K=>qk l fun l=>K ((o,none)::l)
 |(o,some x)::l,K=>x.force fun x=>qk l fun l=>K ((o,some x)::l)
abbrev xR:List Id->(List Id->Prop)->Prop
 | [],K=>K []
 | ⟨a,b,d⟩::l,K=>xR l fun l=>K (⟨a,b,d⟩::l)
abbrev Jc:List (Id×Option AO)->(List Id->Prop)->Prop
 | [],K=>K []
 |(o,_)::l,K=>Jc l fun l=>K (o::l)
abbrev yx:List (Id×Option AO)->List (Id×Option AO)->(List (Id×Option AO)->Prop)->Prop
 | [],h,K=>K h
 | p::r,h,K=>yx r (p::h) K
def St.put (st:St)(d:Option Nat)(e:Eff)(K:St->List Id×List Id->Prop):Prop:=
 match st,e with
 | ⟨fr,h,u⟩,⟨v,us,new,R⟩=>v.force fun v=>qk us fun us=>xR R fun R=>Jc us fun ks=>yx us h fun h=>
   (
   match d with
   | some d=>(match new with
     | some n=>K ⟨(d,v)::fr,h,n::u⟩ (R,ks)
     | none=>K ⟨(d,v)::fr,h,u⟩ (R,ks))
   | none=>(match new with
     | some n=>K ⟨fr,h,n::u⟩ (R,ks)
     | none=>K ⟨fr,h,u⟩ (R,ks)))
theorem AC.force_eq (x:AC)(K:AC->Prop):x.force K=K x:=by cases x<;>rfl
theorem rT:∀(l:List AC) (K:List AC->Prop),nI l K=K l
 | [],K=>rfl
 | c::cs,K=>by rw[nI,AC.force_eq,rT cs]
theorem AR.force_eq (x:AR)(K:AR->Prop):x.force K=K x:=by cases x with|c c=>show c.force (fun c=>K (.c c))=_;rw[AC.force_eq]|agg cs=>show nI cs (fun cs=>K (.agg cs))=_;rw[rT]
theorem zQ:∀(l:List AR) (K:List AR->Prop),tm l K=K l
 | [],K=>rfl
 | c::cs,K=>by rw[tm,AR.force_eq,zQ cs]
theorem AV.force_eq (x:AV)(K:AV->Prop):x.force K=K x:=by cases x with|r x=>show x.force (fun c=>K (.r c))=_;rw[AR.force_eq]|tup xs=>show tm xs (fun c=>K (.tup c))=_;rw[zQ]|_=>rfl
theorem AO.force_eq (x:AO)(K:AO->Prop):x.force K=K x:=by
 cases x with
 | arr fr sz rows=>cases fr<;>rfl
 | box cs=>show nI cs (fun cs=>K (.box cs))=_;rw[rT]
 | mp kk es=>rfl
 | dar sz rows hole=>cases hole<;>rfl
theorem sA:∀(l:List (Id×Option AO)) (K:List (Id×Option AO)->Prop),qk l K=K l
 | [],K=>rfl
 |(o,none)::l,K=>by rw[qk,sA l]
 |(o,some x)::l,K=>by rw[qk,AO.force_eq,sA l]
theorem yv:∀(l:List Id) (K:List Id->Prop),xR l K=K l
 | [],K=>rfl
 | ⟨a,b,d⟩::l,K=>by rw[xR,yv l]
theorem FM:∀(l:List (Id×Option AO)) (K:List Id->Prop),Jc l K=K (l.map (·.1))
 | [],K=>rfl
 |(o,x)::l,K=>by rw[Jc,FM l];rfl
theorem vx:∀(us h:List (Id×Option AO)) (K:List (Id×Option AO)->Prop),yx us h K=K (wo us h)
 | [],h,K=>rfl
 | p::r,h,K=>by rw[yx,vx r];rfl
theorem St.put_eq (st:St)(d:Option Nat)(e:Eff)(K:St->List Id×List Id->Prop):st.put d e K=K (st.app d e) (e.R,e.us.map (·.1)):=by
 obtain⟨fr,h,u⟩:=st;obtain⟨v,us,new,R⟩:=e;unfold St.put;simp only[AV.force_eq,sA,yv,FM,vx]
 cases d<;>cases new<;>rfl
def bM (o:Oper)(u:List Nat):Nat:=
 match o.dst with|some d=>d|none=>100000+u.length
def w1 (P:Program)(Γ:Env)(N:Nat)(o:Oper)(st:St)(K:St->List Id×List Id->Prop):Prop:=
 match o.dst with
 | some d=>(match Nat.blt d N with
   | true=>sem P Γ d o (evL (eb st.fr)) (cI st.h) fun e=>
    (
     match e.new with
     | some n=>(match used st.u n with
      | false=>st.put (some d) e K
      | true=>False)
     | none=>st.put (some d) e K)
   | false=>False)
 | none=>sem P Γ (100000+st.u.length) o (evL (eb st.fr)) (cI st.h) fun e=>
   (
   match e.new with
   | some n=>(match used st.u n with
     | false=>st.put none e K
     | true=>False)
   | none=>st.put none e K)
abbrev Log:=List (List Id×List Id)
def lit (st:St)(dj:Nat)(b:Bool):St:=match st with|⟨fr,h,u⟩=>⟨(dj,tB b)::fr,h,u⟩
def kW (ops:List Oper)(j:Nat):Option Nat:=(ops[j]?).bind (·.dst)
abbrev nQ (P:Program)(Γ:Env)(N:Nat)(ops:List Oper):List Oper->St->Log->(St->Log->Prop)->Prop
 | [],st,log,K=>K st log
 | o::rest,st,log,K=>
  match o.guard with
  | none=>w1 P Γ N o st fun O5 e=>nQ P Γ N ops rest O5 (e::log) K
  | some (j,want)=>
   (
    match kW ops j with
    | some dj=>
     (
     match eb st.fr dj with
     | .r (.c (.t (.bool b)))=>
      (
       match want with
       | true=>ifB b (w1 P Γ N o (lit st dj true) fun O5 e=>nQ P Γ N ops rest O5 (e::log) K)
        (
         match o.dst with
         | some d=>(match Nat.blt d N with
          | true=>(lit st dj false).put o.dst pO fun O5 e=>nQ P Γ N ops rest O5 (e::log) K
          | false=>False)
         | none=>(lit st dj false).put none pO fun O5 e=>nQ P Γ N ops rest O5 (e::log) K)
       | false=>ifB b
        (
         match o.dst with
         | some d=>(match Nat.blt d N with
          | true=>(lit st dj true).put o.dst pO fun O5 e=>nQ P Γ N ops rest O5 (e::log) K
          | false=>False)
         | none=>(lit st dj true).put none pO fun O5 e=>nQ P Γ N ops rest O5 (e::log) K)
        (w1 P Γ N o (lit st dj false) fun O5 e=>nQ P Γ N ops rest O5 (e::log) K))
     | .tup []=>(match o.dst with
       | some d=>(match Nat.blt d N with
        | true=>st.put o.dst pO fun O5 e=>nQ P Γ N ops rest O5 (e::log) K
        | false=>False)
       | none=>st.put none pO fun O5 e=>nQ P Γ N ops rest O5 (e::log) K)
     | _=>False)
    | none=>False)
def fL (ops:List Oper)(s:F_)(o:Oper)(run:Bool):Prop:=
 match o.guard with|none=>run=true|some (j,want)=>(∃dj b,kW ops j=some dj/\s.L dj=tB b/\run=(b==want))\/(∃dj,kW ops j=some dj/\s.L dj= .tup []/\run=false)
structure StepOK (P:Program) (N:Nat) (ops:List Oper) (s:F_) (o:Oper) (run:Bool) (e:Eff):Prop where
 dst:∀d,o.dst=some d->d<N
 guard:fL ops s o run
 yes:run=true->Good P o (evL s.L) s.H e/\(∀n,e.new=some n->¬s.U n)
 no:run=false->e=pO
def jf (P:Program)(N:Nat)(ops:List Oper):F_->List Oper->List (Bool×Eff)->Prop
 | _,[],[]=>True
 | s,o::l,(b,e)::es=>StepOK P N ops s o b e/\jf P N ops (s.app o.dst e) l es
 | _,_,_=>False
def jr:F_->List Oper->List (Bool×Eff)->F_
 | s,o::l,(_,e)::es=>jr (s.app o.dst e) l es
 | s,_,_=>s
section
variable {P:Program} {Γ:Env} {N:Nat} {ops:List Oper}
theorem Aa {st:St}{dj:Nat}{b:Bool}(h:eb st.fr dj=tB b):(lit st dj b).fs=st.fs:=by
 obtain⟨fr,hh,u⟩:=st;refine F_.ext' (fun i=>?_) (fun _=>rfl) (fun _=>Iff.rfl);show(bif Nat.beq i dj then tB b else eb fr i)=eb fr i
 cases hb:Nat.beq i dj with|false=>rfl|true=>rw[t8 hb];exact h.symm
theorem V45{p:Prop}(h:p:=by
 intro d e h1;split at h1
 ·rename_i n hn;split at h1
  ·rename_i hu;rw[St.put_eq]at h1;exact⟨h1,fun n' YM=>by rw[hn]at YM;injection YM with YM;subst YM;show ¬used st.u n=true;rw[hu];simp⟩
  ·exact h1.elim
 ·rename_i hn;rw[St.put_eq]at h1
  exact⟨h1,fun n' YM=>by rw[hn]at YM;cases YM⟩):p:=h
theorem V31{p:Prop}(h:p:=by
 split at h
 ·rename_i d hd;split at h
  ·rename_i O4;obtain⟨e,h1,h2⟩:=yD hΓ h;obtain⟨h3,h4⟩:=fin _ e h1;exact⟨e,by rw[hd];exact h3,fun d' TL=>by rw[hd]at TL;injection TL with TL;subst TL;simpa using O4,h2,h4⟩
  ·exact h.elim
 ·rename_i hd;obtain⟨e,h1,h2⟩:=yD hΓ h;obtain⟨h3,h4⟩:=fin _ e h1
  exact⟨e,by rw[hd];exact h3,fun d' TL=>(by rw[hd]at TL;cases TL),h2,h4⟩):p:=h
theorem PQ {o:Oper}{st:St}{K:St->List Id×List Id->Prop}(hΓ:Γ.chk P=true)(h:w1 P Γ N o st K):
  ∃e,K (st.app o.dst e) (e.R,e.us.map (·.1))/\(∀d,o.dst=some d->d<N)/\Good P o (evL st.fs.L) st.fs.H e/\(∀n,e.new=some n->¬st.fs.U n):=by
 have fin:∀(d:Option Nat) (e:Eff),(match e.new with
     | some n=>(match used st.u n with
      | false=>st.put d e K
      | true=>False)
     | none=>st.put d e K)->K (st.app d e) (e.R,e.us.map (·.1))/\∀n,e.new=some n->¬st.fs.U n:=by
  exact V45
 unfold w1 at h;exact V31
theorem xF (hΓ:Γ.chk P=true):∀(l:List Oper) (st:St) (log:Log) (K:St->Log->Prop),nQ P Γ N ops l st log K->
  ∃es O5,es.length=l.length/\jf P N ops st.fs l es/\O5.fs=jr st.fs l es/\K O5 ((es.map fun p=>(p.2.R,p.2.us.map (·.1))).reverse++log)
 | [],st,log,K,h=>⟨[],st,rfl,trivial,rfl,h⟩
 | o::rest,st,log,K,h=>by
  have yes:∀(st1:St) (want:Bool),st1.fs=st.fs->fL ops st.fs o true->(w1 P Γ N o st1 fun O5 e=>nQ P Γ N ops rest O5 (e::log) K)->
    ∃es O5,es.length=(o::rest).length/\jf P N ops st.fs (o::rest) es/\O5.fs=jr st.fs (o::rest) es/\K O5 ((es.map fun p=>(p.2.R,p.2.us.map (·.1))).reverse++log):=by
   intro st1 want TD hg h;obtain⟨e,h1,h2,h3,h4⟩:=PQ hΓ h;obtain⟨es,O5,g1,g2,g3,g4⟩:=xF hΓ rest _ _ _ h1;rw[DD,TD]at g2 g3;rw[TD]at h3 h4;refine⟨(true,e)::es,O5,by simp[g1],⟨⟨h2,hg,fun _=>⟨h3,h4⟩,fun h=>by cases h⟩,g2⟩,g3,?_⟩;simpa using g4
  have no:∀(
         st1:St),st1.fs=st.fs->fL ops st.fs o false->(match o.dst with
         | some d=>(match Nat.blt d N with
          | true=>st1.put o.dst pO fun O5 e=>nQ P Γ N ops rest O5 (e::log) K
          | false=>False)
         | none=>st1.put none pO fun O5 e=>nQ P Γ N ops rest O5 (e::log) K)->
    ∃es O5,es.length=(o::rest).length/\jf P N ops st.fs (o::rest) es/\O5.fs=jr st.fs (o::rest) es/\K O5 ((es.map fun p=>(p.2.R,p.2.us.map (·.1))).reverse++log):=by
   intro st1 TD hg h;simp only[St.put_eq]at h
   have key:(∀d,o.dst=some d->d<N)/\nQ P Γ N ops rest (st1.app o.dst pO) (([],[])::log) K:=by
    split at h
    ·rename_i d hd;split at h
     ·rename_i O4;exact⟨fun d' TL=>by rw[hd]at TL;injection TL with TL;subst TL;simpa using O4,h⟩
     ·exact h.elim
    ·rename_i hd;exact⟨fun d' TL=>(by rw[hd]at TL;cases TL),by rw[hd];exact h⟩
   obtain⟨es,O5,g1,g2,g3,g4⟩:=xF hΓ rest _ _ _ key.2;rw[DD,TD]at g2 g3;refine⟨(false,pO)::es,O5,by simp[g1],⟨⟨key.1,hg,fun h=>aa4,fun _=>rfl⟩,g2⟩,g3,?_⟩;simpa using g4
  rw[nQ]at h;split at h
  ·rename_i Xo;exact yes st true rfl (by unfold fL;rw[Xo]) h
  ·rename_i j want Xo;split at h
   ·rename_i dj hdj;split at h
    ·rename_i b hb
     have Wq:∀run,run=(b==want)->fL ops st.fs o run:=fun run hr=>by
      unfold fL;rw[Xo];exact .inl ⟨dj,b,hdj,hb,hr⟩
     cases want with
     | true=>cases b with|true=>exact yes (lit st dj true) true (Aa hb) (Wq _ rfl) h|false=>exact no (lit st dj false) (Aa hb) (Wq _ rfl) h
     | false=>cases b with|true=>exact no (lit st dj true) (Aa hb) (Wq _ rfl) h|false=>exact yes (lit st dj false) false (Aa hb) (Wq _ rfl) h
    ·rename_i hb;exact no st rfl (by unfold fL;rw[Xo];exact .inr ⟨dj,hdj,hb,rfl⟩) h
    ·exact h.elim
   ·exact h.elim
 termination_by l=>l.length
theorem uR {B:Nat}{M:Nat->Prop}{w0:Start}{ρ:Rho}{s:F_}{a:Act}{w:World}{o:Oper}{run:Bool}(hc:Conc N B M w0 ρ s a w)(hg:fL ops s o run):Region.wanted o (yielded ops.toArray a.tmps)=run:=by
 unfold fL at hg;split at hg
 ·rename_i h;simp[Region.wanted,h,hg]
 ·rename_i j want h;rcases hg with⟨dj,b,h1,h2,rfl⟩|⟨dj,h1,h2,rfl⟩
  ·have hv:=hc.slot dj;rw[h2]at hv;have e:=gK hv
   have hy:yielded ops.toArray a.tmps j=some b:=by
    unfold yielded;have:(ops.toArray[j]?).bind (·.dst)=some dj:=(by simpa [kW]using h1);rw[this];simp only[Option.bind_some]
    have O4:dj<a.tmps.size:=by
     rcases n5 dj a.tmps.size with h'|h'
     ·exact h'
     ·simp[s9,G3 h',undef]at e
    rw[x8 O4];have:a.tmps[dj]= .bool b:=(by simpa [s9,O4]using e);rw[this]
   simp only[Region.wanted,h,hy]
   cases b<;>cases want<;>rfl
  ·have hv:=hc.slot dj;rw[h2]at hv;obtain⟨us,e,h3⟩:=hv
   have hy:yielded ops.toArray a.tmps j=none:=by
    unfold yielded;have:(ops.toArray[j]?).bind (·.dst)=some dj:=(by simpa [kW]using h1);rw[this];simp only[Option.bind_some];rcases n5 dj a.tmps.size with O4|h'
    ·rw[x8 O4];have:a.tmps[dj]= .tuple us:=(by simpa [s9,O4]using e);rw[this]
    ·rw[G3 h']
   simp only[Region.wanted,h,hy]
   cases want<;>rfl
theorem vf {B:Nat}{M:Nat->Prop}{w0:Start}{Q:Exit->Act->World->Prop}:∀(l:List Oper) (es:List (Bool×Eff)) (s:F_) (ρ:Rho) (a:Act) (w:World),jf P N ops s l es->Conc N B M w0 ρ s a w->
  (∀ρ a w,Conc N B M w0 ρ (jr s l es) a w->Q .normal a w)->wpList P ops.toArray Q l a w
 | [],[],s,ρ,a,w,_,hc,hQ=>hQ ρ a w hc
 | o::l,(b,e)::es,s,ρ,a,w,Rx,hc,hQ=>by
  obtain⟨h1,h2⟩:=Rx;have hw:=uR hc h1.guard;unfold wpList
  cases b with
  | true=>
   rw[b9 hw];obtain⟨g1,g2⟩:=h1.yes rfl
   exact .inl (g1 N B M w0 ρ s a w Q _ hc (fun _ _=>rfl) (fun _ _=>rfl) g2 h1.dst fun v w' ρ' O8=>vf l es _ ρ' _ w' h2 O8 hQ)
  | false=>
   rw[b8 (by rw[hw];simp)];have he:=h1.no rfl;subst he
   exact vf l es _ ρ _ w h2 (hc.put h1.dst (av:= .tup []) ⟨#[],rfl,trivial⟩ abi []) hQ
 | [],_::_,_,_,_,_,h,_,_=>h.elim
 | _::_,[],_,_,_,_,h,_,_=>h.elim
def dG (o:Oper):List Nat:=(o.after.toList.filter fun e=>Region.binds .any e).map (·.on)
def anc (ops:List Oper):Nat->Nat->List Nat
 | 0,_=>[]
 | f+1,i=>match ops[i]? with
  | some o=>(dG o).flatMap fun j=>j::anc ops f j
  | none=>[]
def gu (ops:List Oper)(o:Oper):List Nat:=
 (o.op.operands.toList.filterMap fun|.tmp t=>some t|_=>none)++
 (
  match o.guard with
  | some (j,_)=>(kW ops j).toList
  | none=>[])
def Pg (t:Nat)(l:List Nat):Bool:=l.any (Nat.beq t)
def zW (o:Oper)(l:List Nat):Bool:=match o.dst with|some d=>Pg d l|none=>false
def nh (a b:Oper):Bool:=match a.dst,b.dst with|some d,some d'=>Nat.beq d d'|_,_=>false
def ga (ops:List Oper)(a b:Oper)(ra rb:List Id×List Id):Bool:=
 zW a (gu ops b)||zW b (gu ops a)||nh a b||ra.2.any (fun k=>mt k rb.1||mt k rb.2)||rb.2.any (fun k=>mt k ra.1)
def Da (ms:List Nat):List Nat->Nat->Nat
 | [],m=>m
 | j::js,m=>Da ms js (Nat.lor (Nat.lor m (Nat.pow 2 j)) (ms.getD j 0))
def II:List Nat->List Oper->List Nat
 | ms,[]=>ms
 | ms,o::l=>II (ms++[Da ms (dG o) 0]) l
def xB (ops:List Oper)(m:Nat->Nat)(i:Nat)(o:Oper)(r:List Id×List Id):Nat->List Oper->Log->Bool
 | j,o'::l,r'::log=>(!ga ops o o' r r'||Nat.testBit (m j) i)&&xB ops m i o r (j+1) l log
 | _,_,_=>true
def sa (ops:List Oper)(m:Nat->Nat):Nat->List Oper->Log->Bool
 | i,o::l,r::log=>(dG o).all (fun j=>Nat.blt j i)&&xB ops m i o r (i+1) l log&&sa ops m (i+1) l log
 | _,[],[]=>true
 | _,_,_=>false
def vZ (ops:List Oper)(log:Log):Bool:=sa ops (fun j=>(II [] ops).getD j 0) 0 ops log
def sel:F_->List Oper->List (Bool×Eff)->(Nat->Bool)->Nat->F_
 | s,o::l,(_,e)::es,S,k=>sel (if S k then s.app o.dst e else s) l es S (k+1)
 | s,_,_,_,_=>s
theorem CA:∀(l:List Oper) (es:List (Bool×Eff)) (s:F_) (S:Nat->Bool) (k:Nat),(∀i,k<=i->i<k+l.length->S i=true)->sel s l es S k=jr s l es
 | [],_,_,_,_,_=>by simp[sel,jr]
 | _::_,[],_,_,_,_=>by simp[sel,jr]
 | o::l,(b,e)::es,s,S,k,h=>by
  rw[sel,jr,b9 (h k (d7 _) s_)];exact CA l es _ S (k+1) fun i h1 h2=>h i o_ (by simp only[d6];omega)
theorem ph:∀(l:List Oper) (es:List (Bool×Eff)) (s:F_) (S:Nat->Bool) (k:Nat),(∀i,k<=i->i<k+l.length->S i=false)->sel s l es S k=s
 | [],_,_,_,_,_=>by simp[sel]
 | _::_,[],_,_,_,_=>by simp[sel]
 | o::l,(b,e)::es,s,S,k,h=>by
  rw[sel,b8 (by rw[h k (d7 _) s_];simp)];exact ph l es _ S (k+1) fun i h1 h2=>h i o_ (by simp only[d6];omega)
theorem qz:∀(l:List Oper) (es:List (Bool×Eff)) (s:F_) (S S':Nat->Bool) (k:Nat),(∀i,k<=i->S i=S' i)->sel s l es S k=sel s l es S' k
 | [],_,_,_,_,_,_=>by simp[sel]
 | _::_,[],_,_,_,_,_=>by simp[sel]
 | o::l,(b,e)::es,s,S,S',k,h=>by
  rw[sel,sel,h k (d7 _)];exact qz l es _ S S' (k+1) fun i hi=>h i o_
theorem oQ:∀(us:List (Id×Option AO)) (H H':Id->Option AO) (o:Id),o∈us.map (·.1)->cD H us o=cD H' us o
 | p::us,H,H',o,h=>by
  rw[cD,cD];by_cases h':o∈us.map (·.1)
  ·exact oQ us _ _ o h'
  ·rw[dx us _ o h',dx us _ o h'];simp only[p7,d8,h',or_false]at h;rw[b9 h,b9 h]
structure Apart (d d':Option Nat) (e e':Eff):Prop where
 dst:∀t,d=some t->d'≠some t
 keys:∀o,o∈e.us.map (·.1)->o∉e'.us.map (·.1)
theorem Jg (L:Nat->AV)(d:Option Nat)(v:AV)(t:Nat):pj L d v t=if d=some t then v else L t:=by
 cases d with
 | none=>rfl
 | some d=>
  show(bif Nat.beq t d then v else L t)=_;by_cases e:d=t
  ·subst e;simp
  ·rw[b8 (by simpa using e)]
   cases hb:Nat.beq t d with|false=>rfl|true=>exact absurd (t8 hb).symm e
theorem MH {s:F_}{d d':Option Nat}{e e':Eff}(h:Apart d d' e e'):(s.app d e).app d' e'=(s.app d' e').app d e:=by
 refine F_.ext' (fun t=>?_) (fun o=>?_) (fun n=>?_)
 ·show pj (pj s.L d e.v) d' e'.v t=pj (pj s.L d' e'.v) d e.v t;simp only[Jg];by_cases h1:d=some t
  ·simp only[b9 h1,b8 (h.dst t h1)]
  ·simp only[b8 h1]
 ·show cD (cD s.H e.us) e'.us o=cD (cD s.H e'.us) e.us o;by_cases h1:o∈e.us.map (·.1)
  ·rw[dx e'.us _ o (h.keys o h1)];exact oQ e.us _ _ o h1
  ·rw[dx e.us _ o h1];by_cases h2:o∈e'.us.map (·.1)
   ·exact oQ e'.us _ _ o h2
   ·rw[dx e'.us _ o h2,dx e'.us _ o h2,dx e.us _ o h1]
 ·show((s.U n\/_)\/_)↔((s.U n\/_)\/_);constructor
  ·rintro((h|h)|h)
   ·exact .inl (.inl h)
   ·exact .inr h
   ·exact .inl (.inr h)
  ·rintro((h|h)|h)
   ·exact .inl (.inl h)
   ·exact .inr h
   ·exact .inl (.inr h)
theorem V106{p:Prop}(h:p:=by
 exact ih es _ (k+1) fun j o' b' e' h1 h2 h3=>UC (j+1) o' b' e' (by rw[show k+(j+1)=k+1+j by omega];exact h1) aaq aa0):p:=h
theorem CK:∀(l:List Oper) (es:List (Bool×Eff)) (s:F_) (S:Nat->Bool) (k i:Nat) (o:Oper) (b:Bool) (e:Eff),l[i]?=some o->es[i]?=some (b,e)->S (k+i)=false->
  (∀j o' b' e',i<j->S (k+j)=true->l[j]?=some o'->es[j]?=some (b',e')->Apart o.dst o'.dst e e')->
  sel s l es (fun n=>if n=k+i then true else S n) k=(sel s l es S k).app o.dst e
 | [],_,_,_,_,i,_,_,_,h,_,_,_=>by simp at h
 | _::_,[],_,_,_,i,_,_,_,_,h,_,_=>by simp at h
 | o0::l,(b0,e0)::es,s,S,k,0,o,b,e,ho,he,hS,UC=>by
  simp only[f9,Option.some.injEq,Prod.mk.injEq]at ho he;obtain⟨rfl,rfl⟩:=he;subst ho;rw[sel,sel];simp only[y5,if_true]at hS⊢;rw[b8 (by rw[hS];simp)]
  have e1:sel (s.app o0.dst e0) l es (fun n=>if n=k then true else S n) (k+1)=sel (s.app o0.dst e0) l es S (k+1):=
   qz l es _ _ _ _ fun i hi=>b8 o_
  rw[e1]
  have push:∀(l:List Oper) (es:List (Bool×Eff)) (s:F_) (k:Nat),(∀j o' b' e',S (k+j)=true->l[j]?=some o'->es[j]?=some (b',e')->Apart o0.dst o'.dst e0 e')->sel (s.app o0.dst e0) l es S k=(sel s l es S k).app o0.dst e0:=by
   intro l
   induction l with
   | nil=>intro es s k _;simp[sel]
   | cons o1 l ih=>
    intro es s k UC
    cases es with
    | nil=>simp[sel]
    | cons p es=>
     obtain⟨b1,e1⟩:=p;rw[sel,sel]
     cases hk:S k with
     | true=>
      simp only[if_true];rw[MH (UC 0 o1 b1 e1 (by simpa using hk) s_ s_)]
      exact V106
     | false=>simp only[w9,if_false];exact V106
  exact push l es s (k+1) fun j o' b' e' h1 h2 h3=>UC (j+1) o' b' e' o_ (by rw[show k+(j+1)=k+1+j by omega];exact h1) aaq aa0
 | o0::l,(b0,e0)::es,s,S,k,i+1,o,b,e,ho,he,hS,UC=>by
  rw[sel,sel];have hk:(if k=k+(i+1)then true else S k)=S k:=b8 o_;simp only[hk]
  have:=CK l es (if S k then s.app o0.dst e0 else s) S (k+1) i o b e aaW (by simpa using he) (by rw[show k+1+i=k+(i+1) by omega];exact hS)
   (fun j o' b' e' h1 h2 h3 h4=>UC (j+1) o' b' e' o_ (by rw[show k+(j+1)=k+1+j by omega];exact h2) aa0 aa2)
  rw[show k+1+i=k+(i+1) by omega]at this;exact this
theorem MR:∀(l:List Oper) (es:List (Bool×Eff)) (s s':F_) (S S':Nat->Bool) (k t:Nat),s.L t=s'.L t->(∀j o',l[j]?=some o'->o'.dst=some t->S (k+j)=S' (k+j))->(sel s l es S k).L t=(sel s' l es S' k).L t
 | [],_,_,_,_,_,_,_,h,_=>by simpa [sel]using h
 | _::_,[],_,_,_,_,_,_,h,_=>by simpa [sel]using h
 | o::l,(b,e)::es,s,s',S,S',k,t,h,hS=>by
  rw[sel,sel];refine MR l es _ _ S S' (k+1) t ?_ fun j o' h1 h2=>by have:=hS (j+1) o' aaw h2;rwa [show k+(j+1)=k+1+j by omega]at this
  have app_L:∀s:F_,(s.app o.dst e).L t=if o.dst=some t then e.v else s.L t:=fun s=>Jg s.L o.dst e.v t
  by_cases hd:o.dst=some t
  ·have:=hS 0 o s_ hd;simp only[y5]at this;rw[this]
   cases S' k with
   | true=>
    show(s.app o.dst e).L t=(s'.app o.dst e).L t
    rw[app_L,app_L,b9 hd,b9 hd]
   | false=>exact h
  ·have e1:(if S k then s.app o.dst e else s).L t=s.L t:=(by cases S k<;>simp[app_L,hd]);have e2:(if S' k then s'.app o.dst e else s').L t=s'.L t:=(by cases S' k<;>simp[app_L,hd]);rw[e1,e2,h]
theorem Jf:∀(l:List Oper) (es:List (Bool×Eff)) (s s':F_) (S S':Nat->Bool) (k:Nat) (q:Id),s.H q=s'.H q->(∀j o' b' e',l[j]?=some o'->es[j]?=some (b',e')->q∈e'.us.map (·.1)->S (k+j)=S' (k+j))->(sel s l es S k).H q=(sel s' l es S' k).H q
 | [],_,_,_,_,_,_,_,h,_=>by simpa [sel]using h
 | _::_,[],_,_,_,_,_,_,h,_=>by simpa [sel]using h
 | o::l,(b,e)::es,s,s',S,S',k,q,h,hS=>by
  rw[sel,sel];refine Jf l es _ _ S S' (k+1) q ?_ fun j o' b' e' h1 h2 h3=>by have:=hS (j+1) o' b' e' aaw aaq h3;rwa [show k+(j+1)=k+1+j by omega]at this
  by_cases hd:q∈e.us.map (·.1)
  ·have:=hS 0 o b e s_ s_ hd;simp only[y5]at this;rw[this]
   cases S' k with|true=>exact oQ e.us _ _ q hd|false=>exact h
  ·have e1:(if S k then s.app o.dst e else s).H q=s.H q:=by cases S k with|true=>exact dx e.us _ q hd|false=>rfl
   have e2:(if S' k then s'.app o.dst e else s').H q=s'.H q:=by cases S' k with|true=>exact dx e.us _ q hd|false=>rfl
   rw[e1,e2,h]
theorem Nk:∀(l:List Oper) (es:List (Bool×Eff)) (s:F_) (S:Nat->Bool) (k n:Nat),(sel s l es S k).U n->s.U n\/∃j o' b' e',S (k+j)=true/\l[j]?=some o'/\es[j]?=some (b',e')/\e'.new=some n
 | [],_,_,_,_,_,h=> .inl (by simpa [sel]using h)
 | _::_,[],_,_,_,_,h=> .inl (by simpa [sel]using h)
 | o::l,(b,e)::es,s,S,k,n,h=>by
  rw[sel]at h;rcases Nk l es _ S (k+1) n h with h'|⟨j,o',b',e',h1,h2,h3,h4⟩
  ·cases hk:S k with
   | true=>
    rw[hk]at h';rcases h' with h'|h'
    ·exact .inl h'
    ·exact .inr ⟨0,o,b,e,by simpa using hk,s_,s_,h'⟩
   | false=>rw[hk]at h';exact .inl h'
  ·exact .inr ⟨j+1,o',b',e',by rw[show k+(j+1)=k+1+j by omega];exact h1,by simpa using h2,by simpa using h3,h4⟩
theorem memN_iff {t:Nat}{l:List Nat}:Pg t l=true↔t∈l:=by simp[Pg]
theorem Ik {ms:List Nat}:∀(js:List Nat) (m i:Nat),(Da ms js m).testBit i=true->m.testBit i=true\/∃j∈js,i=j\/(ms.getD j 0).testBit i=true
 | [],m,i,h=> .inl h
 | j::js,m,i,h=>by
  rw[Da]at h;rcases Ik js _ i h with h|⟨k,h1,h2⟩
  ·have h:((m ||| 2^j) ||| ms.getD j 0).testBit i=true:=h;rw[Nat.testBit_or,Nat.testBit_or,x9,x9]at h;rcases h with(h|h)|h
   ·exact .inl h
   ·rw[Nat.testBit_two_pow]at h;exact .inr ⟨j,s_,.inl (by simpa using(j5 h).symm)⟩
   ·exact .inr ⟨j,s_,.inr h⟩
  ·exact .inr ⟨k,by simp[h1],h2⟩
theorem zA:∀(l pre:List Oper) (ms:List Nat),pre++l=ops->ms.length=pre.length->(∀j i,(ms.getD j 0).testBit i=true->∃f,i∈anc ops f j)->∀j i,((II ms l).getD j 0).testBit i=true->∃f,i∈anc ops f j
 | [],_,ms,_,_,h,j,i,hb=>h j i hb
 | o::l,pre,ms,he,hl,h,j,i,hb=>by
  refine zA l (pre++[o]) (ms++[Da ms (dG o) 0]) (by simpa using he) (by simp[hl]) (fun j i hb=>?_) j i hb;rcases y7 j ms.length with hj|hj|hj
  ·refine h j i ?_
   have e:(ms++[Da ms (dG o) 0]).getD j 0=ms.getD j 0:=by simp only[List.getD_eq_getElem?_getD];rw[l8 hj]
   rwa [e]at hb
  ·subst hj;have e:(ms++[Da ms (dG o) 0]).getD ms.length 0=Da ms (dG o) 0:=s_;rw[e]at hb;have ho:ops[ms.length]?=some o:=(by rw[<-he,hl];simp);rcases Ik _ _ _ hb with h1|⟨k,h1,h2⟩
   ·simp at h1
   ·rcases h2 with rfl|h2
    ·exact⟨1,by simp only[anc,ho];exact u4.2 ⟨_,h1,s_⟩⟩
    ·obtain⟨f,hf⟩:=h k i h2;exact⟨f+1,by simp only[anc,ho];exact u4.2 ⟨k,h1,w6 _ hf⟩⟩
  ·have e:(ms++[Da ms (dG o) 0]).getD j 0=0:=by simp only[List.getD_eq_getElem?_getD];rw[e9 aad];rfl
   rw[e]at hb;simp at hb
section
variable {m:Nat->Nat}
theorem uz:∀(l:List Oper) (log:Log) (k:Nat),sa ops m k l log=true->∀i o,l[i]?=some o->∀j∈dG o,j<k+i
 | [],_,_,_,i,o,h=>by simp at h
 | o0::l,[],k,h,_,_,_=>by simp[sa]at h
 | o0::l,r::log,k,h,i,o,ho=>by
  simp only[sa,d5,n9]at h
  cases i with
  | zero=>simp at ho;subst ho;intro j hj;simpa using h.1.1 j hj
  | succ i=>intro j hj;have:=uz l log (k+1) h.2 i o aaW j hj;omega
theorem vV:∀(l:List Oper) (log:Log) (i:Nat) (o:Oper) (r:List Id×List Id) (k:Nat),xB ops m i o r k l log=true->∀j o' r',l[j]?=some o'->log[j]?=some r'->ga ops o o' r r'=false\/(m (k+j)).testBit i=true
 | [],_,_,_,_,_,_,j,o',r',h,_=>by simp at h
 | _::_,[],_,_,_,_,_,j,o',r',_,h=>by simp at h
 | o0::l,r0::log,i,o,r,k,h,j,o',r',ho,hr=>by
  simp only[xB,d5,x9,v4]at h
  cases j with
  | zero=>
   simp at ho hr;subst ho;subst hr
   exact h.1
  | succ j=>have:=vV l log i o r (k+1) h.2 j o' r' aaW abe;rwa [show k+1+j=k+(j+1) by omega]at this
theorem tV:∀(l:List Oper) (log:Log) (k:Nat),sa ops m k l log=true->∀i j o o' r r',i<j->l[i]?=some o->l[j]?=some o'->log[i]?=some r->log[j]?=some r'->ga ops o o' r r'=false\/(m (k+j)).testBit (k+i)=true
 | [],_,_,_,i,j,o,o',r,r',_,h,_,_,_=>by simp at h
 | _::_,[],_,_,i,j,o,o',r,r',_,_,_,h,_=>by simp at h
 | o0::l,r0::log,k,h,i,j,o,o',r,r',SP,h1,h2,h3,h4=>by
  simp only[sa,d5]at h;obtain⟨j,rfl⟩:∃j',j=j'+1:=⟨j-1,o_⟩
  cases i with
  | zero=>
   simp at h1 h3;subst h1;subst h3;have:=vV l log k o0 r0 (k+1) h.1.2 j o' r' aaq aa2
   rwa [show k+1+j=k+(j+1) by omega]at this
  | succ i=>have:=tV l log (k+1) h.2 i j o o' r r' o_ aaw aaq aa0 aa2;rwa [show k+1+i=k+(i+1) by omega,show k+1+j=k+(j+1) by omega]at this
end
theorem Gv {log:Log}(h:vZ ops log=true):∀i o,ops[i]?=some o->∀j∈dG o,j<i:=fun i o ho j hj=>by
 have:=uz ops log 0 h i o ho j hj;omega
theorem wM {log:Log}(h:vZ ops log=true)(i j:Nat)(o o':Oper)(r r':List Id×List Id)(SP:i<j)(h1:ops[i]?=some o)(h2:ops[j]?=some o')(h3:log[i]?=some r)(h4:log[j]?=some r'):ga ops o o' r r'=false\/∃f,i∈anc ops f j:=by
 rcases tV ops log 0 h i j o o' r r' SP h1 h2 h3 h4 with h|h
 ·exact .inl h
 ·simp only[s7]at h;exact .inr (zA ops [] [] rfl rfl (fun j i hb=>by simp at hb) j i h)
theorem np {S:Nat->Bool}(hS:∀i o,ops[i]?=some o->S i=true->∀j∈dG o,S j=true):∀(f i:Nat),S i=true->∀j∈anc ops f i,S j=true
 | 0,_,_,j,hj=>by simp[anc]at hj
 | f+1,i,hi,j,hj=>by
  simp only[anc]at hj;split at hj
  ·rename_i o ho;obtain⟨k,hk,hj⟩:=u4.1 hj;have hSk:=hS i o ho hi k hk;rcases d8.1 hj with rfl|hj
   ·exact hSk
   ·exact np hS f k hSk j hj
  ·simp at hj
theorem AQ {S:Nat->Bool}(hS:∀i o,ops[i]?=some o->S i=true->∀j∈dG o,S j=true){i:Nat}{o:Oper}(ho:ops[i]?=some o)(hr:∀j∈dG o,S j=true)(f:Nat):∀j∈anc ops f i,S j=true:=by
 intro j hj
 cases f with
 | zero=>simp[anc]at hj
 | succ f=>
  simp only[anc,ho]at hj;obtain⟨k,hk,hj⟩:=u4.1 hj;rcases d8.1 hj with rfl|hj
  ·exact hr j hk
  ·exact np hS f k (hr k hk) j hj
theorem sN:∀(l:List Oper) (es:List (Bool×Eff)) (s:F_) (k:Nat),jf P N ops s l es->∀i o b e,l[i]?=some o->es[i]?=some (b,e)->StepOK P N ops (sel s l es (fun n=>decide (n<k+i)) k) o b e
 | [],_,_,_,_,i,o,b,e,h,_=>by simp at h
 | _::_,[],_,_,h,_,_,_,_,_,_=>h.elim
 | o0::l,(b0,e0)::es,s,k,h,i,o,b,e,ho,he=>by
  cases i with
  | zero=>
   simp only[f9,Option.some.injEq,Prod.mk.injEq]at ho he;obtain⟨rfl,rfl⟩:=he;subst ho;rw[ph _ _ _ _ _ fun i h1 _=>by simp;omega]
   exact h.1
  | succ i=>have:=sN l es _ (k+1) h.2 i o b e aaW (by simpa using he);rw[sel];have hd:decide (k<k+(i+1))=true:=s_;simp only[hd,if_true];rw[show k+(i+1)=k+1+i by omega];exact this
theorem qx:∀(l:List Oper) (es:List (Bool×Eff)) (s:F_) (T:Nat->Bool) (k d:Nat),s.U d->(sel s l es T k).U d
 | [],_,_,_,_,_,h=>by simpa [sel]using h
 | _::_,[],_,_,_,_,h=>by simpa [sel]using h
 | o::l,(b,e)::es,s,T,k,d,h=>by
  rw[sel];refine qx l es _ T (k+1) d ?_
  cases T k with|true=>exact .inl h|false=>exact h
theorem IR:∀(l:List Oper) (es:List (Bool×Eff)) (s:F_) (T:Nat->Bool) (k j d:Nat) (o':Oper) (b':Bool) (e':Eff),T (k+j)=true->l[j]?=some o'->es[j]?=some (b',e')->e'.new=some d->(sel s l es T k).U d
 | [],_,_,_,_,j,_,_,_,_,_,h,_,_=>by simp at h
 | _::_,[],_,_,_,j,_,_,_,_,_,_,h,_=>by simp at h
 | o::l,(b,e)::es,s,T,k,0,d,o',b',e',hT,hl,Sw,hn=>by
  simp only[f9,Option.some.injEq,Prod.mk.injEq,y5]at hl Sw hT;obtain⟨rfl,rfl⟩:=Sw;rw[sel,hT]
  exact qx l es _ T (k+1) d (.inr hn)
 | o::l,(b,e)::es,s,T,k,j+1,d,o',b',e',hT,hl,Sw,hn=>by
  rw[sel];exact IR l es _ T (k+1) j d o' b' e' (by rw[show k+1+j=k+(j+1) by omega];exact hT) aaZ (by simpa using Sw) hn
theorem qE {s:F_}{es:List (Bool×Eff)}(Rx:jf P N ops s ops es){i j n:Nat}{o o':Oper}{b b':Bool}{e e':Eff}(SP:i<j)(h1:ops[i]?=some o)(h2:ops[j]?=some o')(h3:es[i]?=some (b,e))(h4:es[j]?=some (b',e'))(h5:e.new=some n)(h6:e'.new=some n):False:=by
 have hs:=sN ops es s 0 Rx j o' b' e' h2 h4
 cases b' with
 | true=>exact(hs.yes rfl).2 n h6 (IR ops es s _ 0 i n o b e (by simpa using SP) h1 h3 h5)
 | false=>rw[hs.no rfl]at h6;cases h6
theorem Good.mono {o:Oper}{ev ev':Operand->AV}{H H':Id->Option AO}{e:Eff}(h:Good P o ev H e)(h1:∀x∈o.op.operands.toList,ev' x=ev x)(h2:∀id∈e.R,H' id=H id):Good P o ev' H' e:=
 fun N B M w0 ρ s a w Q K hc O3 hR hn hd hK=>h N B M w0 ρ s a w Q K hc (fun x hx=>(O3 x hx).trans (h1 x hx)) (fun id O9=>(hR id O9).trans (h2 id O9)) hn hd hK
theorem vO {L L':Nat->AV}{o:Oper}(h:∀t,t∈gu ops o->L' t=L t):∀x∈o.op.operands.toList,evL L' x=evL L x:=by
 intro x hx
 cases x with|tmp t=>exact h t (by simp only[gu,f0,List.mem_filterMap];exact .inl ⟨.tmp t,hx,rfl⟩)|const=>rfl|global=>rfl|func=>rfl
theorem V12{p:Prop}(h:p:=by
 intro listed RK hr i
 induction i using Nat.strongRecOn with
 | _ i ih=>
  intro hi
  cases hl:listed.getD i true with
  | true=>rfl
  | false=>
   have hm:i∈Region.ready .any ops.toArray listed:=by
    simp only[Region.ready,F6,E7,B3,hi,true_and,hl,E6,l6];have ho:ops.toArray[i]?=some ops[i]:=(by simp[hi]);rw[ho];simp only[v5,A7,Array.all_eq_true'];intro e he
    cases hb:Region.binds .any e with
    | false=>rfl
    | true=>have hj:e.on∈dG ops[i]:=q7.2 ⟨e,F6.2 ⟨by simpa using he,hb⟩,rfl⟩;have O4:=VZ i ops[i] (i9 hi) e.on hj;have:=ih e.on o_ o_;have hs:e.on<listed.size:=o_;simp only[s9,x8 hs,A7]at this⊢;simp[this]
   rw[hr]at hm
   cases hm):p:=h
theorem V137{p:Prop}(h:p:=by
 intro listed ρ a w RK hc hr;rw[CA ops es s _ 0 fun i _ hi=>Ss listed RK hr i o_]at hc
 exact hQ ρ a w hc):p:=h
theorem V19{p:Prop}(h:p:=by
 intro listed ρ a w RK Uk Sa hc
 have SK:∀i,i<ops.length->listed.getD i true=true:=by
  have P6:((List.range ops.length).filter fun i=>listed.getD i true).length≥(List.range ops.length).length:=by simpa using Uk
  have Ui:=List.length_filter_eq_length_iff.1 (Nat.le_antisymm (E1 _ _) P6);intro i hi;exact Ui i (E7.2 hi)
 have hr:Region.ready .any ops.toArray listed=[]:=by rw[Region.ready,List.filter_eq_nil_iff];intro i hi;have:=SK i (by simpa using hi);simp[this]
 exact⟨hr,QO listed ρ a w RK hc hr⟩):p:=h
theorem V15{p:Prop}(h:p:=by
 simp only[Region.ready,F6,E7,B3,d5,v4]at hi;obtain⟨h1,h2,h3⟩:=hi;have ho:ops[i]?=some ops[i]:=i9 h1;refine⟨h2,ops[i],ho,fun j hj=>?_⟩;have QL:ops.toArray[i]?=some ops[i]:=by simp[h1]
 rw[QL]at h3;simp only[v5,A7,Array.all_eq_true']at h3;obtain⟨e,he,rfl⟩:=q7.1 hj;obtain⟨he1,S8⟩:=F6.1 he;have h4:=h3 e (by simpa using he1);simp only[S8,Bool.not_true,A8]at h4;have O4:=VZ i ops[i] ho e.on hj;have hs:e.on<listed.size:=o_;simp only[s9,x8 hs,A7]at h4⊢
 exact h4):p:=h
theorem V139{p:Prop}(h:p:=by
 rw[O2];rcases n5 j ops.length with h'|h'
 ·exact h'
 ·rw[e9 h']at h1;cases h1):p:=h
theorem V83{p:Prop}(h:p:=by
 intro n;simp only[s9,Array.getElem?_setIfInBounds,S];by_cases hn:i=n
 ·subst hn;have:i<listed.size:=o_;simp[this]
 ·rw[b8 hn,b8 (fun e=>hn e.symm)]):p:=h
theorem V8{p:Prop}(h:p:=by
 have key:∀(l:List Nat),l.Nodup->i∈l->(l.filter fun n=>if n=i then true else S n).length=(l.filter fun n=>S n).length+1:=by
  intro l
  induction l with
  | nil=>intro _ h;cases h
  | cons x l ih=>
   intro T0 hm;have aaL:=F5.1 T0;by_cases hx:x=i
   ·subst hx
    have e1:(l.filter fun n=>if n=x then true else S n)=l.filter fun n=>S n:=by apply G4;intro n hn;have:n≠x:=fun e=>aaL.1 (e▸hn);simp[this]
    simp only[B7,if_true,WY,w9,if_false,d6];rw[e1]
   ·have:=ih aaL.2 (by
               rcases d8.1 hm with h|h;· exact absurd h.symm hx
               ·exact h)
    simp only[B7,b8 hx]
    cases S x
    ·simp only[w9,if_false];exact this
    ·simp only[if_true,d6];rw[this]
 have h1:((List.range ops.length).filter fun n=>(listed.setIfInBounds i true).getD n true)=(List.range ops.length).filter fun n=>if n=i then true else S n:=G4 fun n _=>SF n
 rw[h1,key _ List.nodup_range (E7.2 Rw)];have e:((List.range ops.length).filter fun n=>S n).length=((List.range ops.length).filter fun i=>listed.getD i true).length:=rfl
 omega):p:=h
theorem V63{p:Prop}(h:p:=by
 intro k o1 hk SG j hj;rw[SF]at SG⊢;by_cases R7:j=i
 ·rw[b9 R7]
 ·rw[b8 R7];by_cases VB:k=i
  ·subst VB;rw[ho]at hk;injection hk with hk;subst hk;exact Tu j hj
  ·rw[b8 VB]at SG
   exact Sa k o1 hk SG j hj):p:=h
theorem V56{p:Prop}(h:p:=by
 intro v w' ρ' O8;rw[<-QT]at O8;refine ih (listed.setIfInBounds i true) ρ' _ w' (by simpa using RK) aaF VF ?_;rw[qz ops es s (fun n=>(listed.setIfInBounds i true).getD n true) (fun n=>if n=i then true else S n) 0 fun n _=>SF n]
 exact O8):p:=h
theorem V35{p:Prop}(h:p:=by
 have hg:=Sf.guard;unfold fL at hg⊢;split at hg
 ·exact hg
 ·rename_i j want Xo;rcases hg with⟨dj,b1,k1,k2,k3⟩|⟨dj,k1,k2,k3⟩
  ·refine .inl ⟨dj,b1,k1,?_,k3⟩;rw[Th dj (by simp only[gu,Xo,f0];right;rw[k1];simp)];exact k2
  ·refine .inr ⟨dj,k1,?_,k3⟩;rw[Th dj (by simp only[gu,Xo,f0];right;rw[k1];simp)]
   exact k2):p:=h
theorem V29{p:Prop}(h:p:=by
 refine .inl (Vd N B M w0 ρ (sel s ops es S 0) a w Q _ hc (fun _ _=>rfl) (fun _ _=>rfl) (fun d hd hU=>?_) Sf.dst next);rcases Nk ops es s S 0 d hU with h|⟨j,o',b',e',h1,h2,h3,h4⟩
 ·exact g2 d hd (qx ops es s _ 0 d h)
 ·simp only[s7]at h1;have R7:j≠i:=fun e=>by subst e;rw[WY]at h1;cases h1
  rcases F7 R7 with O4|WQ
  ·exact qE Rx O4 h2 ho h3 he h4 hd
  ·exact qE Rx WQ ho h2 he h3 hd h4):p:=h
theorem V102{p:Prop}(h:p:=by
 rw[b8 (by rw[hw];simp)];have hse:=Sf.no rfl;subst hse
 exact next undef w ρ (hc.put Sf.dst (av:= .tup []) ⟨#[],rfl,trivial⟩ abi [])):p:=h
theorem JY {B:Nat}{M:Nat->Prop}{w0:Start}{Q:Exit->Act->World->Prop}(s:F_)(es:List (Bool×Eff))(O2:es.length=ops.length)(Rx:jf P N ops s ops es)(Uo:vZ ops (es.map fun p=>(p.2.R,p.2.us.map (·.1)))=true)
  (hQ:∀ρ a w,Conc N B M w0 ρ (jr s ops es) a w->Q .normal a w):
  ∀(fuel:Nat) (listed:Array Bool) (ρ:Rho) (a:Act) (w:World),listed.size=ops.length->(ops.length<=fuel+((List.range ops.length).filter fun i=>listed.getD i true).length)->
   (∀i o,ops[i]?=some o->listed.getD i true=true->∀j∈dG o,listed.getD j true=true)->
   Conc N B M w0 ρ (sel s ops es (fun i=>listed.getD i true) 0) a w->wpAny P .any ops.toArray Q fuel listed a w:=by
 have VZ:=Gv (ops:=ops) Uo
 have Ss:∀listed:Array Bool,listed.size=ops.length->Region.ready .any ops.toArray listed=[]->∀i,i<ops.length->listed.getD i true=true:=by exact V12
 have QO:∀(listed:Array Bool) (ρ:Rho) (a:Act) (w:World),listed.size=ops.length->Conc N B M w0 ρ (sel s ops es (fun i=>listed.getD i true) 0) a w->Region.ready .any ops.toArray listed=[]->Q .normal a w:=by exact V137
 intro fuel
 induction fuel with
 | zero=>exact V19
 | succ fuel ih=>
  intro listed ρ a w RK Uk Sa hc;refine⟨QO listed ρ a w RK hc,fun i hi=>?_⟩
  obtain⟨Vv,o,ho,Tu⟩:listed.getD i true=false/\∃o,ops[i]?=some o/\∀j∈dG o,listed.getD j true=true:=by exact V15
  have Rw:i<ops.length:=by
   rcases n5 i ops.length with h'|h'
   ·exact h'
   ·rw[e9 h']at ho;cases ho
  obtain⟨b,e,he⟩:∃b e,es[i]?=some (b,e):=⟨_,_,i9 o_⟩;have Sf:=sN ops es s 0 Rx i o b e ho he;simp only[s7]at Sf
  let S:Nat->Bool:=fun i=>listed.getD i true
  have QK:∀j o' b' e',ops[j]?=some o'->es[j]?=some (b',e')->j≠i->(ga ops o o' (e.R,e.us.map (·.1)) (e'.R,e'.us.map (·.1))=true\/ga ops o' o (e'.R,e'.us.map (·.1)) (e.R,e.us.map (·.1))=true)->S j=decide (j<i):=by
   intro j o' b' e' QL Rd P2 QK;have g1:(es.map fun p=>(p.2.R,p.2.us.map (·.1)))[i]?=some (e.R,e.us.map (·.1)):=(by simp[he]);have g2:(es.map fun p=>(p.2.R,p.2.us.map (·.1)))[j]?=some (e'.R,e'.us.map (·.1)):=by simp[Rd]
   have aaD:∀(a b:Oper) (ra rb:List Id×List Id),ga ops a b ra rb=true->ga ops b a rb ra=true:=by
    intro a b ra rb h;simp only[ga,x9,A6]at h⊢;rcases h with(((h|h)|h)|⟨k,h1,h2|h2⟩)|⟨k,h1,h2⟩
    ·exact .inl (.inl (.inl (.inr h)))
    ·exact .inl (.inl (.inl (.inl h)))
    ·refine .inl (.inl (.inr ?_));unfold nh at h⊢;split at h
     ·rename_i d d' e1 e2;rw[e1,e2];simp at h⊢;exact h.symm
     ·cases h
    ·exact .inr ⟨k,h1,h2⟩
    ·exact .inl (.inr ⟨k,memI_iff.1 h2,.inr (memI_iff.2 h1)⟩)
    ·exact .inl (.inr ⟨k,h1,.inl h2⟩)
   rcases F7 P2 with O4|WQ
   ·have hd:decide (j<i)=true:=(by simpa using O4);rw[hd];have ST:ga ops o' o (e'.R,e'.us.map (·.1)) (e.R,e.us.map (·.1))=true:=QK.elim (aaD _ _ _ _) id;rcases wM Uo j i o' o _ _ O4 QL ho g2 g1 with h|⟨f,h⟩
    ·rw[ST]at h;cases h
    ·exact AQ Sa ho Tu _ j h
   ·have hd:decide (j<i)=false:=(by simp;omega);rw[hd];have ST:ga ops o o' (e.R,e.us.map (·.1)) (e'.R,e'.us.map (·.1))=true:=QK.elim id (aaD _ _ _ _);rcases wM Uo i j o o' _ _ WQ ho QL g1 g2 with h|⟨f,h⟩
    ·rw[ST]at h;cases h
    ·cases hj:S j with
     | false=>rfl
     | true=>
      have:=np Sa _ j hj i h;rw[Vv]at this
      cases this
  have WY:S i=false:=Vv
  have Th:∀t,t∈gu ops o->(sel s ops es S 0).L t=(sel s ops es (fun n=>decide (n<i)) 0).L t:=by
   intro t ht;refine MR ops es s s S _ 0 t rfl fun j o' h1 h2=>?_;simp only[s7];by_cases R7:j=i
   ·subst R7;rw[WY];simp
   ·have Q0:j<es.length:=by exact V139
    refine QK j o' _ _ h1 (i9 Q0) R7 (.inl ?_);simp only[ga,x9];refine .inl (.inl (.inl (.inr ?_)));simp only[zW,h2];exact memN_iff.2 ht
  have aaG:∀q∈e.R,(sel s ops es S 0).H q=(sel s ops es (fun n=>decide (n<i)) 0).H q:=by
   intro q hq;refine Jf ops es s s S _ 0 q rfl fun j o' b' e' h1 h2 h3=>?_;simp only[s7];by_cases R7:j=i
   ·subst R7;rw[WY];simp
   ·refine QK j o' b' e' h1 h2 R7 (.inl ?_);simp only[ga,x9,A6];exact .inr ⟨q,h3,memI_iff.2 hq⟩
  have UC:∀j o' b' e',i<j->S (0+j)=true->ops[j]?=some o'->es[j]?=some (b',e')->Apart o.dst o'.dst e e':=by
   intro j o' b' e' SP YN h1 h2;simp only[s7]at YN
   have Xi:ga ops o o' (e.R,e.us.map (·.1)) (e'.R,e'.us.map (·.1))=false:=by
    cases O8:ga ops o o' (e.R,e.us.map (·.1)) (e'.R,e'.us.map (·.1))with
    | false=>rfl
    | true=>have:=QK j o' b' e' h1 h2 o_ (.inl O8);rw[YN]at this;simp at this;omega
   simp only[ga,C6,G5,x9,not_or]at Xi;obtain⟨⟨⟨_,h5⟩,h6⟩,h7⟩:=Xi;refine⟨fun t ht ht'=>?_,fun q hq P4=>?_⟩
   ·simp[nh,ht,ht']at h5
   ·exact(h6 q hq).2 (memI_iff.2 P4)
  have QT:(sel s ops es (fun n=>if n=i then true else S n) 0)=(sel s ops es S 0).app o.dst e:=by have:=CK ops es s S 0 i o b e ho he (by simpa using WY) UC;simpa using this
  have SF:∀n,(listed.setIfInBounds i true).getD n true=(if n=i then true else S n):=by exact V83
  have aaF:ops.length<=fuel+((List.range ops.length).filter fun n=>(listed.setIfInBounds i true).getD n true).length:=by exact V8
  have VF:∀k o1,ops[k]?=some o1->(listed.setIfInBounds i true).getD k true=true->∀j∈dG o1,(listed.setIfInBounds i true).getD j true=true:=by exact V63
  have next:∀(v:Value) (w':World) (ρ':Rho),Conc N B M w0 ρ' ((sel s ops es S 0).app o.dst e) (a.put o.dst v) w'->wpAny P .any ops.toArray Q fuel (listed.setIfInBounds i true) (a.put o.dst v) w':=by exact V56
  have Wq:fL ops (sel s ops es S 0) o b:=by exact V35
  have hw:=uR (ops:=ops) hc Wq;unfold wpOp;have QL:ops.toArray[i]?=some o:=by simpa using ho
  rw[QL];show if Region.wanted o (yielded ops.toArray a.tmps)=true then _ else _
  cases b with
  | true=>
   rw[b9 hw];obtain⟨g1,g2⟩:=Sf.yes rfl;have Vd:=g1.mono (vO Th) aaG
   exact V29
  | false=>exact V102
end
def nV (ops:List Oper)(a b:Oper)(ra rb:List Id×List Id):Bool:=
 zW a (gu ops b)||zW b (gu ops a)||nh a b||ra.2.any (fun k=>mt k rb.1||mt k rb.2)
def clX (ops:List Oper)(xi xj i j:Nat)(a b:Oper)(ra rb:List Id×List Id):Bool:=
 bif Nat.beq i xi&&Nat.beq j xj then nV ops a b ra rb else bif Nat.beq j xi&&Nat.beq i xj then nV ops b a rb ra else ga ops a b ra rb||ga ops b a rb ra
def ur (ops:List Oper)(xi xj:Nat)(m:Nat->Nat)(i:Nat)(o:Oper)(r:List Id×List Id):Nat->List Oper->Log->Bool
 | j,o'::l,r'::log=>(!clX ops xi xj i j o o' r r'||Nat.testBit (m j) i)&&ur ops xi xj m i o r (j+1) l log
 | _,_,_=>true
def nE (ops:List Oper)(xi xj:Nat)(m:Nat->Nat):Nat->List Oper->Log->Bool
 | i,o::l,r::log=>(dG o).all (fun j=>Nat.blt j i)&&ur ops xi xj m i o r (i+1) l log&&nE ops xi xj m (i+1) l log
 | _,[],[]=>true
 | _,_,_=>false
def nO (ops:List Oper)(xi xj:Nat)(log:Log):Bool:=Nat.blt xi xj&&nE ops xi xj (fun j=>(II [] ops).getD j 0) 0 ops log
def w1T (P:Program)(Γ:Env)(N:Nat)(o:Oper)(st:St)(K:St->Eff->Prop):Prop:=
 match o.dst with
 | some d=>(match Nat.blt d N with
   | true=>sem P Γ d o (evL (eb st.fr)) (cI st.h) fun e=>
    (
     match e.new with
     | some n=>(match used st.u n with
      | false=>st.put (some d) e fun O5 _=>K O5 e
      | true=>False)
     | none=>st.put (some d) e fun O5 _=>K O5 e)
   | false=>False)
 | none=>sem P Γ (100000+st.u.length) o (evL (eb st.fr)) (cI st.h) fun e=>
   (
   match e.new with
   | some n=>(match used st.u n with
     | false=>st.put none e fun O5 _=>K O5 e
     | true=>False)
   | none=>st.put none e fun O5 _=>K O5 e)
abbrev Jm (P:Program)(Γ:Env)(N:Nat):List Oper->St->List (St×Eff)->(St->List (St×Eff)->Prop)->Prop
 | [],st,tr,K=>K st tr
 | o::rest,st,tr,K=>
  match o.guard with
  | none=>w1T P Γ N o st fun O5 e=>Jm P Γ N rest O5 ((st,e)::tr) K
  | some _=>False
def NU:List (St×Eff)->Log
 | []=>[]
 | p::l=>(p.2.R,p.2.us.map (·.1))::NU l
def MM (P:Program)(Γ:Env)(ops:List Oper)(xi xj:Nat)(tr:List (St×Eff)):Prop:=
 match ops[xi]?,tr[xi]?,tr[xj]? with
 | some o,some (sti,ei),some (_,ej)=>sem P Γ (bM o sti.u) o (evL (eb sti.fr)) (cI (wo ej.us sti.h)) fun e=>e=ei
 | _,_,_=>False
def OD (P:Program)(Γ:Env)(N:Nat)(ops:List Oper)(xi xj:Nat)(st:St)(K:St->Prop):Prop:=
 Jm P Γ N ops st [] fun O5 tr=>nO ops xi xj (NU tr.reverse)=true/\MM P Γ ops xi xj tr.reverse/\K O5
section
variable {P:Program} {Γ:Env} {N:Nat} {ops:List Oper} {m:Nat->Nat} {xi xj:Nat}
theorem jD (ops:List Oper)(xi xj i j:Nat)(a b:Oper)(ra rb:List Id×List Id):
  (i=xi/\j=xj/\clX ops xi xj i j a b ra rb=nV ops a b ra rb)\/(j=xi/\i=xj/\(i≠xi\/j≠xj)/\clX ops xi xj i j a b ra rb=nV ops b a rb ra)\/
  (¬(i=xi/\j=xj)/\¬(j=xi/\i=xj)/\clX ops xi xj i j a b ra rb=(ga ops a b ra rb||ga ops b a rb ra)):=by
 have hb:∀p q p' q':Nat,(Nat.beq p q&&Nat.beq p' q')=true↔p=q/\p'=q':=fun p q p' q'=>by
  rw[d5];exact⟨fun h=>⟨t8 h.1,t8 h.2⟩,fun h=>by obtain⟨rfl,rfl⟩:=h;simp⟩
 unfold clX
 cases h1:(Nat.beq i xi&&Nat.beq j xj)with
 | true=>exact .inl ⟨((hb _ _ _ _).1 h1).1,((hb _ _ _ _).1 h1).2,rfl⟩
 | false=>
  have n1:¬(i=xi/\j=xj):=fun h=>by rw[(hb _ _ _ _).2 h]at h1;cases h1
  cases h2:(Nat.beq j xi&&Nat.beq i xj)with
  | true=>
   refine .inr (.inl ⟨((hb _ _ _ _).1 h2).1,((hb _ _ _ _).1 h2).2,?_,rfl⟩);by_cases e:i=xi
   ·exact .inr fun e2=>n1 ⟨e,e2⟩
   ·exact .inl e
  | false=>exact .inr (.inr ⟨n1,(fun h=>by rw[(hb _ _ _ _).2 h]at h2;cases h2),rfl⟩)
theorem KF {i j:Nat}{a b:Oper}{ra rb:List Id×List Id}(hx:xi<xj)(h:clX ops xi xj i j a b ra rb=true):clX ops xi xj j i b a rb ra=true:=by
 rcases jD ops xi xj i j a b ra rb with⟨e1,e2,e⟩|⟨e1,e2,_,e⟩|⟨n1,n2,e⟩<;>rw[e]at h
 ·rcases jD ops xi xj j i b a rb ra with⟨g1,g2,g⟩|⟨g1,g2,_,g⟩|⟨g1,g2,g⟩<;>rw[g]
  ·omega
  ·exact h
  ·exact absurd ⟨e1,e2⟩ g2
 ·rcases jD ops xi xj j i b a rb ra with⟨g1,g2,g⟩|⟨g1,g2,_,g⟩|⟨g1,g2,g⟩<;>rw[g]
  ·exact h
  ·omega
  ·exact absurd ⟨e1,e2⟩ g1
 ·rcases jD ops xi xj j i b a rb ra with⟨g1,g2,g⟩|⟨g1,g2,_,g⟩|⟨g1,g2,g⟩<;>rw[g]
  ·exact absurd ⟨g1,g2⟩ n2
  ·exact absurd ⟨g1,g2⟩ n1
  ·rw[Bool.or_comm];exact h
theorem Nn {i j:Nat}{o o':Oper}{r r':List Id×List Id}(h:zW o' (gu ops o)=true):clX ops xi xj i j o o' r r'=true:=by rcases jD ops xi xj i j o o' r r' with⟨e1,e2,e⟩|⟨e1,e2,_,e⟩|⟨n1,n2,e⟩<;>rw[e]<;>simp[nV,ga,h]
theorem Ck {i j:Nat}{o o':Oper}{r r':List Id×List Id}(hx:¬(i=xi/\j=xj))(h:r'.2.any (fun k=>mt k r.1)=true):clX ops xi xj i j o o' r r'=true:=by
 have h2:r'.2.any (fun k=>mt k r.1||mt k r.2)=true:=by rw[A6]at h⊢;obtain⟨q,h1,h2⟩:=h;exact⟨q,h1,by rw[h2];rfl⟩
 rcases jD ops xi xj i j o o' r r' with⟨e1,e2,e⟩|⟨e1,e2,_,e⟩|⟨n1,n2,e⟩<;>rw[e]
 ·exact absurd ⟨e1,e2⟩ hx
 ·simp only[nV,h2,Bool.or_true]
 ·simp only[ga,h,Bool.or_true,Bool.true_or]
theorem Jq {i j:Nat}{o o':Oper}{r r':List Id×List Id}(hx:xi<xj)(SP:i<j)(h:clX ops xi xj i j o o' r r'=false):nh o o'=false/\∀q∈r.2,¬mt q r'.2=true:=by
 have key:nV ops o o' r r'=false->nh o o'=false/\∀q∈r.2,¬mt q r'.2=true:=by intro h;simp only[nV,C6,G5,x9,not_or]at h;exact⟨h.1.2,fun q hq=>(h.2 q hq).2⟩
 rcases jD ops xi xj i j o o' r r' with⟨e1,e2,e⟩|⟨e1,e2,_,e⟩|⟨n1,n2,e⟩<;>rw[e]at h
 ·exact key h
 ·omega
 ·simp only[C6]at h;refine key ?_;have:=h.1;simp only[ga,C6]at this;simp only[nV,C6];exact this.1
theorem rd:∀(l:List Oper) (log:Log) (k:Nat),nE ops xi xj m k l log=true->∀i o,l[i]?=some o->∀j∈dG o,j<k+i
 | [],_,_,_,i,o,h=>by simp at h
 | o0::l,[],k,h,_,_,_=>by simp[nE]at h
 | o0::l,r::log,k,h,i,o,ho=>by
  simp only[nE,d5,n9]at h
  cases i with
  | zero=>simp at ho;subst ho;intro j hj;simpa using h.1.1 j hj
  | succ i=>intro j hj;have:=rd l log (k+1) h.2 i o aaW j hj;omega
theorem tW:∀(l:List Oper) (log:Log) (i:Nat) (o:Oper) (r:List Id×List Id) (k:Nat),ur ops xi xj m i o r k l log=true->∀j o' r',l[j]?=some o'->log[j]?=some r'->clX ops xi xj i (k+j) o o' r r'=false\/(m (k+j)).testBit i=true
 | [],_,_,_,_,_,_,j,o',r',h,_=>by simp at h
 | _::_,[],_,_,_,_,_,j,o',r',_,h=>by simp at h
 | o0::l,r0::log,i,o,r,k,h,j,o',r',ho,hr=>by
  simp only[ur,d5,x9,v4]at h
  cases j with
  | zero=>
   simp at ho hr;subst ho;subst hr
   exact h.1
  | succ j=>have:=tW l log i o r (k+1) h.2 j o' r' aaW abe;rwa [show k+1+j=k+(j+1) by omega]at this
theorem qS:∀(l:List Oper) (log:Log) (k:Nat),nE ops xi xj m k l log=true->∀i j o o' r r',i<j->l[i]?=some o->l[j]?=some o'->log[i]?=some r->log[j]?=some r'->clX ops xi xj (k+i) (k+j) o o' r r'=false\/(m (k+j)).testBit (k+i)=true
 | [],_,_,_,i,j,o,o',r,r',_,h,_,_,_=>by simp at h
 | _::_,[],_,_,i,j,o,o',r,r',_,_,_,h,_=>by simp at h
 | o0::l,r0::log,k,h,i,j,o,o',r,r',SP,h1,h2,h3,h4=>by
  simp only[nE,d5]at h;obtain⟨j,rfl⟩:∃j',j=j'+1:=⟨j-1,o_⟩
  cases i with
  | zero=>
   simp at h1 h3;subst h1;subst h3;have:=tW l log k o0 r0 (k+1) h.1.2 j o' r' aaq aa2
   rwa [show k+1+j=k+(j+1) by omega]at this
  | succ i=>have:=qS l log (k+1) h.2 i j o o' r r' o_ aaw aaq aa0 aa2;rwa [show k+1+i=k+(i+1) by omega,show k+1+j=k+(j+1) by omega]at this
theorem Dv {log:Log}(h:nO ops xi xj log=true):∀i o,ops[i]?=some o->∀j∈dG o,j<i:=fun i o ho j hj=>by
 have:=rd ops log 0 (by unfold nO at h;rw[d5]at h;exact h.2) i o ho j hj;omega
theorem uc {log:Log}(h:nO ops xi xj log=true)(i j:Nat)(o o':Oper)(r r':List Id×List Id)(SP:i<j)(h1:ops[i]?=some o)(h2:ops[j]?=some o')(h3:log[i]?=some r)(h4:log[j]?=some r'):clX ops xi xj i j o o' r r'=false\/∃f,i∈anc ops f j:=by
 rcases qS ops log 0 (by unfold nO at h;rw[d5]at h;exact h.2) i j o o' r r' SP h1 h2 h3 h4 with h|h
 ·simp only[s7]at h;exact .inl h
 ·simp only[s7]at h;exact .inr (zA ops [] [] rfl rfl (fun j i hb=>by simp at hb) j i h)
theorem Gb:∀(l:List Oper) (es:List (Bool×Eff)) (s:F_) (S:Nat->Bool) (k j:Nat) (o:Oper) (b:Bool) (e:Eff) (q:Id),l[j]?=some o->es[j]?=some (b,e)->S (k+j)=true->q∈e.us.map (·.1)->
  (∀j' o' b' e',j<j'->l[j']?=some o'->es[j']?=some (b',e')->q∈e'.us.map (·.1)->S (k+j')=false)->∀H:Id->Option AO,(sel s l es S k).H q=cD H e.us q
 | [],_,_,_,_,j,_,_,_,_,h,_,_,_,_=>by simp at h
 | _::_,[],_,_,_,j,_,_,_,_,_,h,_,_,_=>by simp at h
 | o0::l,(b0,e0)::es,s,S,k,0,o,b,e,q,ho,he,hS,hq,QR=>by
  intro H;simp only[f9,Option.some.injEq,Prod.mk.injEq,y5]at ho he hS;obtain⟨rfl,rfl⟩:=he;subst ho;rw[sel,b9 hS]
  have h1:=Jf l es (s.app o0.dst e0) (s.app o0.dst e0) S (fun _=>false) (k+1) q rfl fun j o' b' e' h1 h2 h3=>by
   have:=QR (j+1) o' b' e' o_ aaw aaq h3;rwa [show k+(j+1)=k+1+j by omega]at this
  rw[h1,ph l es _ _ _ fun _ _ _=>rfl]
  exact oQ e0.us _ _ q hq
 | o0::l,(b0,e0)::es,s,S,k,j+1,o,b,e,q,ho,he,hS,hq,QR=>by
  intro H;rw[sel];refine Gb l es _ S (k+1) j o b e q aaW (by simpa using he) (by rw[show k+1+j=k+(j+1) by omega];exact hS) hq (fun j' o' b' e' h0 h1 h2 h3=>?_) H;have:=QR (j'+1) o' b' e' o_ aaw aaq h3;rwa [show k+(j'+1)=k+1+j' by omega]at this
theorem Pu {o:Oper}{st:St}{K:St->Eff->Prop}(hΓ:Γ.chk P=true)(h:w1T P Γ N o st K):
  ∃e,K (st.app o.dst e) e/\(∀d,o.dst=some d->d<N)/\Good P o (evL st.fs.L) st.fs.H e/\(∀n,e.new=some n->¬st.fs.U n):=by
 have fin:∀(d:Option Nat) (e:Eff),(match e.new with
     | some n=>(match used st.u n with
      | false=>st.put d e fun O5 _=>K O5 e
      | true=>False)
     | none=>st.put d e fun O5 _=>K O5 e)->K (st.app d e) e/\∀n,e.new=some n->¬st.fs.U n:=by
  exact V45
 unfold w1T at h;exact V31
theorem Im:∀(T:List (St×Eff)),NU T=(T.map fun p=>(true,p.2)).map fun p=>(p.2.R,p.2.us.map (·.1))
 | []=>rfl
 | p::T=>by rw[NU,Im T];rfl
theorem EI (hΓ:Γ.chk P=true):∀(l:List Oper) (st:St) (tr:List (St×Eff)) (K:St->List (St×Eff)->Prop),Jm P Γ N l st tr K->
  ∃(T:List (St×Eff)) (O5:St),T.length=l.length/\jf P N ops st.fs l (T.map fun p=>(true,p.2))/\(∀k i p,T[i]?=some p->p.1.fs=sel st.fs l (T.map fun p=>(true,p.2)) (fun n=>decide (n<k+i)) k)/\O5.fs=jr st.fs l (T.map fun p=>(true,p.2))/\K O5 (T.reverse++tr)
 | [],st,tr,K,h=>⟨[],st,rfl,trivial,fun _ _ _ h=>by simp at h,rfl,h⟩
 | o::rest,st,tr,K,h=>by
  rw[Jm]at h;split at h
  ·rename_i Xo;obtain⟨e,h1,h2,h3,h4⟩:=Pu hΓ h;obtain⟨T,O5,g1,g2,g3,g4,g5⟩:=EI hΓ rest _ _ _ h1;rw[DD]at g2 g4;refine⟨(st,e)::T,O5,by simp[g1],⟨⟨h2,by unfold fL;rw[Xo],fun _=>⟨h3,h4⟩,fun h=>by cases h⟩,g2⟩,fun k i p hp=>?_,g4,by simpa using g5⟩
   cases i with
   | zero=>
    simp only[f9,Option.some.injEq]at hp;subst hp
    rw[ph _ _ _ _ _ fun i h1 _=>by simp;omega]
   | succ i=>have:=g3 (k+1) i p (by simpa using hp);rw[DD]at this;rw[this,p7,sel];have hd:decide (k<k+(i+1))=true:=s_;simp only[hd,if_true];rw[show k+(i+1)=k+1+i by omega]
  ·exact h.elim
 termination_by l=>l.length
theorem HC {xi xj:Nat}{B:Nat}{M:Nat->Prop}{w0:Start}{Q:Exit->Act->World->Prop}(s:F_)(es:List (Bool×Eff))(O2:es.length=ops.length)(Rx:jf P N ops s ops es)(ZS:xi<xj)(Uo:nO ops xi xj (es.map fun p=>(p.2.R,p.2.us.map (·.1)))=true)
  {oi oj:Oper} {bj:Bool} {ei ej:Eff} (Zp:ops[xi]?=some oi) (hei:es[xi]?=some (true,ei)) (hoj:ops[xj]?=some oj) (Yt:es[xj]?=some (bj,ej)) (hX:Good P oi (evL (sel s ops es (fun n=>decide (n<xi)) 0).L) (cD (sel s ops es (fun n=>decide (n<xi)) 0).H ej.us) ei)
  (hQ:∀ρ a w,Conc N B M w0 ρ (jr s ops es) a w->Q .normal a w):
  ∀(fuel:Nat) (listed:Array Bool) (ρ:Rho) (a:Act) (w:World),listed.size=ops.length->(ops.length<=fuel+((List.range ops.length).filter fun i=>listed.getD i true).length)->
   (∀i o,ops[i]?=some o->listed.getD i true=true->∀j∈dG o,listed.getD j true=true)->
   Conc N B M w0 ρ (sel s ops es (fun i=>listed.getD i true) 0) a w->wpAny P .any ops.toArray Q fuel listed a w:=by
 have VZ:=Dv (ops:=ops) Uo
 have Ss:∀listed:Array Bool,listed.size=ops.length->Region.ready .any ops.toArray listed=[]->∀i,i<ops.length->listed.getD i true=true:=by exact V12
 have QO:∀(listed:Array Bool) (ρ:Rho) (a:Act) (w:World),listed.size=ops.length->Conc N B M w0 ρ (sel s ops es (fun i=>listed.getD i true) 0) a w->Region.ready .any ops.toArray listed=[]->Q .normal a w:=by exact V137
 intro fuel
 induction fuel with
 | zero=>exact V19
 | succ fuel ih=>
  intro listed ρ a w RK Uk Sa hc;refine⟨QO listed ρ a w RK hc,fun i hi=>?_⟩
  obtain⟨Vv,o,ho,Tu⟩:listed.getD i true=false/\∃o,ops[i]?=some o/\∀j∈dG o,listed.getD j true=true:=by exact V15
  have Rw:i<ops.length:=by
   rcases n5 i ops.length with h'|h'
   ·exact h'
   ·rw[e9 h']at ho;cases ho
  obtain⟨b,e,he⟩:∃b e,es[i]?=some (b,e):=⟨_,_,i9 o_⟩;have Sf:=sN ops es s 0 Rx i o b e ho he;simp only[s7]at Sf
  let S:Nat->Bool:=fun i=>listed.getD i true
  have QK:∀j o' b' e',ops[j]?=some o'->es[j]?=some (b',e')->j≠i->clX ops xi xj i j o o' (e.R,e.us.map (·.1)) (e'.R,e'.us.map (·.1))=true->S j=decide (j<i):=by
   intro j o' b' e' QL Rd P2 QK;have g1:(es.map fun p=>(p.2.R,p.2.us.map (·.1)))[i]?=some (e.R,e.us.map (·.1)):=(by simp[he]);have g2:(es.map fun p=>(p.2.R,p.2.us.map (·.1)))[j]?=some (e'.R,e'.us.map (·.1)):=(by simp[Rd]);rcases F7 P2 with O4|WQ
   ·have hd:decide (j<i)=true:=(by simpa using O4);rw[hd];have ST:clX ops xi xj j i o' o (e'.R,e'.us.map (·.1)) (e.R,e.us.map (·.1))=true:=KF ZS QK;rcases uc Uo j i o' o _ _ O4 QL ho g2 g1 with h|⟨f,h⟩
    ·rw[ST]at h;cases h
    ·exact AQ Sa ho Tu _ j h
   ·have hd:decide (j<i)=false:=(by simp;omega);rw[hd];rcases uc Uo i j o o' _ _ WQ ho QL g1 g2 with h|⟨f,h⟩
    ·rw[QK]at h;cases h
    ·cases hj:S j with
     | false=>rfl
     | true=>
      have:=np Sa _ j hj i h;rw[Vv]at this
      cases this
  have WY:S i=false:=Vv
  have Th:∀t,t∈gu ops o->(sel s ops es S 0).L t=(sel s ops es (fun n=>decide (n<i)) 0).L t:=by
   intro t ht;refine MR ops es s s S _ 0 t rfl fun j o' h1 h2=>?_;simp only[s7];by_cases R7:j=i
   ·subst R7;rw[WY];simp
   ·have Q0:j<es.length:=by exact V139
    refine QK j o' _ _ h1 (i9 Q0) R7 (Nn ?_);simp only[zW,h2];exact memN_iff.2 ht
  have VA:∀q∈e.R,(∀j o' b' e',ops[j]?=some o'->es[j]?=some (b',e')->q∈e'.us.map (·.1)->i=xi->j=xj->S j=false)->(sel s ops es S 0).H q=(sel s ops es (fun n=>decide (n<i)) 0).H q:=by
   intro q hq QR;refine Jf ops es s s S _ 0 q rfl fun j o' b' e' h1 h2 h3=>?_;simp only[s7];by_cases R7:j=i
   ·subst R7;rw[WY];simp
   ·by_cases hx:i=xi/\j=xj
    ·rw[QR j o' b' e' h1 h2 h3 hx.1 hx.2];symm;rw[p6];omega
    ·refine QK j o' b' e' h1 h2 R7 ?_;exact Ck hx (A6.2 ⟨q,h3,memI_iff.2 hq⟩)
  have aaU:Good P o (evL (sel s ops es S 0).L) (sel s ops es S 0).H e\/b=false:=by
   cases b with
   | false=>exact .inr rfl
   | true=>
    left;obtain⟨k1,_⟩:=Sf.yes rfl;by_cases hx:i=xi/\S xj=true
    ·obtain⟨Wp,YN⟩:=hx;subst Wp;have eo:oi=o:=(by rw[ho]at Zp;injection Zp with h;exact h.symm);have ee:ei=e:=(by rw[he]at hei;injection hei with h;injection h with _ h;exact h.symm);subst eo;subst ee;have hg:=hX;refine hg.mono (vO Th) fun q hq=>?_;by_cases hk:q∈ej.us.map (·.1)
     ·have h1:=Gb ops es s S 0 xj oj bj ej q hoj Yt (by simpa using YN) hk (fun j o' b' e' hj h1 h2 h3=>by
       simp only[s7];have R7:j≠i:=o_;have hx:¬(i=i/\j=xj):=fun h=>o_;have:=QK j o' b' e' h1 h2 R7 (Ck hx (A6.2 ⟨q,h3,memI_iff.2 hq⟩))
       rw[this,p6];omega) (sel s ops es (fun n=>decide (n<i)) 0).H
      exact h1
     ·rw[dx ej.us _ q hk];refine VA q hq fun j o' b' e' h1 h2 h3 _ SQ=>?_;subst SQ;rw[Yt]at h2;injection h2 with h2;injection h2 with _ h2;subst h2;exact absurd h3 hk
    ·refine k1.mono (vO Th) fun q hq=>VA q hq fun j o' b' e' h1 h2 h3 Wp SQ=>?_;subst SQ
     cases hS:S j with|false=>rfl|true=>exact absurd ⟨Wp,hS⟩ hx
  have UC:∀j o' b' e',i<j->S (0+j)=true->ops[j]?=some o'->es[j]?=some (b',e')->Apart o.dst o'.dst e e':=by
   intro j o' b' e' SP YN h1 h2;simp only[s7]at YN
   have Xi:clX ops xi xj i j o o' (e.R,e.us.map (·.1)) (e'.R,e'.us.map (·.1))=false:=by
    cases O8:clX ops xi xj i j o o' (e.R,e.us.map (·.1)) (e'.R,e'.us.map (·.1))with
    | false=>rfl
    | true=>have:=QK j o' b' e' h1 h2 o_ O8;rw[YN]at this;simp at this;omega
   obtain⟨h5,h6⟩:=Jq ZS SP Xi;refine⟨fun t ht ht'=>?_,fun q hq P4=>?_⟩
   ·simp[nh,ht,ht']at h5
   ·exact h6 q hq (memI_iff.2 P4)
  have QT:(sel s ops es (fun n=>if n=i then true else S n) 0)=(sel s ops es S 0).app o.dst e:=by have:=CK ops es s S 0 i o b e ho he (by simpa using WY) UC;simpa using this
  have SF:∀n,(listed.setIfInBounds i true).getD n true=(if n=i then true else S n):=by exact V83
  have aaF:ops.length<=fuel+((List.range ops.length).filter fun n=>(listed.setIfInBounds i true).getD n true).length:=by exact V8
  have VF:∀k o1,ops[k]?=some o1->(listed.setIfInBounds i true).getD k true=true->∀j∈dG o1,(listed.setIfInBounds i true).getD j true=true:=by exact V63
  have next:∀(v:Value) (w':World) (ρ':Rho),Conc N B M w0 ρ' ((sel s ops es S 0).app o.dst e) (a.put o.dst v) w'->wpAny P .any ops.toArray Q fuel (listed.setIfInBounds i true) (a.put o.dst v) w':=by exact V56
  have Wq:fL ops (sel s ops es S 0) o b:=by exact V35
  have hw:=uR (ops:=ops) hc Wq;unfold wpOp;have QL:ops.toArray[i]?=some o:=by simpa using ho
  rw[QL];show if Region.wanted o (yielded ops.toArray a.tmps)=true then _ else _
  cases b with
  | true=>
   rw[b9 hw];obtain⟨g1,g2⟩:=Sf.yes rfl;have Vd:Good P o (evL (sel s ops es S 0).L) (sel s ops es S 0).H e:=aaU.resolve_right s_
   exact V29
  | false=>exact V102
theorem Ll (hΓ:Γ.chk P=true){st:St}{K:St->Prop}(h:OD P Γ N ops xi xj st K):∃es O5,es.length=ops.length/\jf P N ops st.fs ops es/\xi<xj/\nO ops xi xj (es.map fun p=>(p.2.R,p.2.us.map (·.1)))=true/\
  (∃oi oj bj ei ej,ops[xi]?=some oi/\es[xi]?=some (true,ei)/\ops[xj]?=some oj/\es[xj]?=some (bj,ej)/\Good P oi (evL (sel st.fs ops es (fun n=>decide (n<xi)) 0).L) (cD (sel st.fs ops es (fun n=>decide (n<xi)) 0).H ej.us) ei)/\O5.fs=jr st.fs ops es/\K O5:=by
 obtain⟨T,O5,h1,h2,h3,h4,h5,h6,h7⟩:=EI (ops:=ops) hΓ ops st [] _ h;simp only[m7,List.reverse_reverse]at h5 h6;refine⟨T.map fun p=>(true,p.2),O5,by simp[h1],h2,?_,by rw[<-Im];exact h5,?_,h4,h7⟩
 ·unfold nO at h5;rw[d5]at h5;simpa using h5.1
 ·unfold MM at h6;split at h6
  ·rename_i oi sti ei _ ej g1 g2 g3;obtain⟨e,g4,g5⟩:=yD hΓ h6;subst g4
   have hl:xj<ops.length:=by
    rw[<-h1];rcases n5 xj T.length with h'|h'
    ·exact h'
    ·rw[e9 h']at g3;cases g3
   have hs:=h3 0 xi _ g2;simp only[s7]at hs;refine⟨oi,ops[xj],true,e,ej,g1,by simp[g2],i9 hl,by simp[g3],?_⟩;rw[<-hs];have e2:cD sti.fs.H ej.us=cI (wo ej.us sti.h):=(by funext o;exact(pT ej.us sti.h o).symm);show Good P oi (evL sti.fs.L) (cD sti.fs.H ej.us) e;rw[e2];exact g5
  ·exact h6.elim
end
end Go.Sim
