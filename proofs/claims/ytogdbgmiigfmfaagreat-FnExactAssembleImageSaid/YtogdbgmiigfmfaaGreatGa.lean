import Derived.WalkKit
import Derived.Laws.IdiomCopy
import Derived.Orders
import Derived.Laws.StructEq
import Derived.MapKept
import Derived.ChangeMaps5
import Derived.KernelRfl
import Derived.ProofKit
import Derived.OpenShut
namespace Go.Sim
open Go.RowKit
inductive Tr where
 | int (k:IntKind) (n:Int)
 | bool (b:Bool)
 | str (s:List UInt8)
 | lst (sz:Nat) (rows:List (List Tr))
instance:Inhabited Tr:=⟨.bool false⟩
abbrev Id:=Nat×Nat×Nat
inductive AC where
 | t (x:Tr)
 | f (x:Tr)
 | nils (sz:Nat)
 | nilp
 | own (o:Id)
 | sub (o:Id) (k:Nat)
 | ptr (o:Id) (off:Nat)
 | opq
 | mpv (o:Id)
inductive AR where
 | c (x:AC)
 | agg (cs:List AC)
inductive DC where
 | t (x:Tr)
 | d (x:Tr)
inductive AV where
 | r (x:AR)
 | tup (xs:List AR)
 | el (o:Id) (sz i off:Nat)
 | ro (fr:Bool) (row:List Tr) (off:Nat)
 | unk
inductive AO where
 | arr (fr:Bool) (sz:Nat) (rows:List (List Tr))
 | box (cells:List AC)
 | dar (sz:Nat) (rows:List (List DC)) (hole:Option (Nat×Nat×Id))
 | mp (kk:Option IntKind) (es:List (Tr×Int))
structure Rho where
 val:Id→Value
 fp:Id→Nat→Prop
 al:Nat→Prop
instance:CoeFun Rho (fun _=>Id→Value):=⟨Rho.val⟩
theorem add_block (a:Addr)(n:Nat):(a.add n).block=a.block:=by unfold Addr.add;split <;> rfl
theorem add_add (a:Addr)(i j:Nat):(a.add i).add j=a.add (i+j):=by
 unfold Addr.add
 by_cases hi:i=0 <;> by_cases hj:j=0 <;> simp[hi,hj,Nat.add_assoc]
theorem add_zero' (a:Addr):a.add 0=a:=by simp[Addr.add]
theorem add_head (b i:Nat):(⟨b,0,none⟩:Addr).add i=⟨b,i,none⟩:=by unfold Addr.add;split <;> simp_all
theorem add_mid (b o i:Nat):(⟨b,o,none⟩:Addr).add i=⟨b,o+i,none⟩:=by unfold Addr.add;split <;> simp_all
inductive RT (w:World) (ok:Nat→Prop):Value→Tr→Prop where
 | int (k:IntKind) (n:Int):RT w ok (.int k n) (.int k n)
 | bool (b:Bool):RT w ok (.bool b) (.bool b)
 | str (s:List UInt8):RT w ok (.string ⟨s.toArray⟩) (.str s)
 | emp (A:Option Addr) (c sz:Nat) (hc:c≤maxLen):RT w ok (.slice A 0 c) (.lst sz [])
 | lst (ad:Addr) (n c sz:Nat) (rows:List (List Tr)) (us:List Value) (hn:rows.length=n) (hc:n≤c) (hm:c≤maxLen) (hu:∀r∈rows,r.length=sz)
   (hok:ok ad.block) (hl:us.length=rows.flatten.length) (hcell:∀(p:Nat) (v:Value),us[p]?=some v→w.cell? (ad.add p)=some v)
   (hrec:∀(p:Nat) (v:Value) (u:Tr),us[p]?=some v→rows.flatten[p]?=some u→RT w ok v u):RT w ok (.slice (some ad) n c) (.lst sz rows)
def RTs (w:World)(ok:Nat→Prop):List Value→List Tr→Prop
 | [],[]=>True
 | v::vs,t::ts=>RT w ok v t∧RTs w ok vs ts
 | _,_=>False
def unfrozen (n:Nat)(fz:Nat×Nat):Prop:=∀p,p < n→¬(fz.1≤p∧p < fz.2)
inductive DT (w:World):(Nat→Prop)→Value→Tr→Prop where
 | int (F:Nat→Prop) (k:IntKind) (n:Int):DT w F (.int k n) (.int k n)
 | bool (F:Nat→Prop) (b:Bool):DT w F (.bool b) (.bool b)
 | str (F:Nat→Prop) (s:List UInt8):DT w F (.string ⟨s.toArray⟩) (.str s)
 | nil (F:Nat→Prop) (sz:Nat):DT w F (.slice none 0 0) (.lst sz [])
 | arr (F:Nat→Prop) (b n cap sz:Nat) (cur:Array Value) (e:TypeId) (fz:Nat×Nat) (rows:List (List Tr)) (Fp:Nat→Nat→Prop) (hb:F b) (hh:w.heap[b]?=some (.cells cur e fz)) (hf:unfrozen cur.size fz)
   (hn:rows.length=n) (h1:n≤cap) (h2:cap≤maxLen) (h3:cur.size=cap * sz) (hu:∀r∈rows,r.length=sz) (hl:(cur.toList.take (n * sz)).length=rows.flatten.length)
   (hp:∀p c,Fp p c→F c∧c≠b) (hd:∀p q c,p≠q→Fp p c→¬Fp q c)
   (hrec:∀(p:Nat) (v:Value) (u:Tr),(cur.toList.take (n * sz))[p]?=some v→rows.flatten[p]?=some u→DT w (Fp p) v u):DT w F (.slice (some ⟨b,0,none⟩) n cap) (.lst sz rows)
theorem DT.keep {w w':World}{F:Nat→Prop}{v:Value}{t:Tr}(h:DT w F v t):∀{F':Nat→Prop},(∀c,F c→w'.heap[c]?=w.heap[c]?∧F' c)→DT w' F' v t:=by
 induction h with
 | int F k n=>intro F' _;exact .int _ _ _
 | bool F b=>intro F' _;exact .bool _ _
 | str F s=>intro F' _;exact .str _ _
 | nil F sz=>intro F' _;exact .nil _ _
 | arr F b n cap sz cur e fz rows Fp hb hh hf hn h1 h2 h3 hu hl hp hd hrec ih=>
  intro F' hk
  exact .arr F' b n cap sz cur e fz rows Fp (hk b hb).2 (by rw[(hk b hb).1];exact hh) hf hn h1 h2 h3 hu hl (fun p c hc=>⟨(hk c (hp p c hc).1).2,(hp p c hc).2⟩) hd fun p v u hv hu'=>ih p v u hv hu' fun c hc=>⟨(hk c (hp p c hc).1).1,hc⟩
theorem DT.mono {w:World}{F F':Nat→Prop}{v:Value}{t:Tr}(h:DT w F v t)(hk:∀c,F c→F' c):DT w F' v t:=h.keep fun c hc=>⟨rfl,hk c hc⟩
theorem DT.one {w:World}{F:Nat→Prop}{v:Value}{t:Tr}(h:DT w F v t):v.oneCell'=true:=by cases h <;> rfl
theorem DT.cells1 {w:World}{F:Nat→Prop}{v:Value}{t:Tr}(h:DT w F v t):v.cells=#[v]:=by cases h <;> rfl
theorem DT.toRT {w:World}{ok:Nat→Prop}{F:Nat→Prop}{v:Value}{t:Tr}(h:DT w F v t):(∀c,F c→ok c)→RT w ok v t:=by
 induction h with
 | int F k n=>intro _;exact .int _ _
 | bool F b=>intro _;exact .bool _
 | str F s=>intro _;exact .str _
 | nil F sz=>intro _;exact .emp _ _ _ (Nat.zero_le _)
 | arr F b n cap sz cur e fz rows Fp hb hh hf hn h1 h2 h3 hu hl hp hd hrec ih=>
  intro hk
  refine .lst _ _ _ _ _ (cur.toList.take (n * sz)) hn h1 h2 hu (hk b hb) hl (fun p v hv=>?_) fun p v u hv hu'=>ih p v u hv hu' fun c hc=>hk c (hp p c hc).1
  have:(⟨b,0,none⟩:Addr).add p=⟨b,p,none⟩:=by unfold Addr.add;split <;> simp_all
  rw[this,cell_of_row w b p cur e fz hh]
  rw[List.getElem?_take]at hv
  split at hv
  ·simpa using hv
  ·cases hv
section
variable {w w':World} {ok ok':Nat→Prop}
theorem RTs.length:∀{vs:List Value} {ts:List Tr},RTs w ok vs ts→vs.length=ts.length
 | [],[],_=>rfl
 | _::_,_::_,h=>by simp[RTs.length h.2]
 | [],_::_,h=>h.elim
 | _::_,[],h=>h.elim
theorem RTs.get:∀{vs:List Value} {ts:List Tr},RTs w ok vs ts→∀(p:Nat) (v:Value) (t:Tr),vs[p]?=some v→ts[p]?=some t→RT w ok v t
 | [],[],_,p,v,t,hv,_=>by simp at hv
 | v0::vs,t0::ts,h,0,v,t,hv,ht=>by simp at hv ht;subst hv;subst ht;exact h.1
 | v0::vs,t0::ts,h,p+1,v,t,hv,ht=>RTs.get h.2 p v t (by simpa using hv) (by simpa using ht)
 | [],_::_,h,_,_,_,_,_=>h.elim
 | _::_,[],h,_,_,_,_,_=>h.elim
theorem RTs.of:∀{vs:List Value} {ts:List Tr},vs.length=ts.length→(∀(p:Nat) (v:Value) (t:Tr),vs[p]?=some v→ts[p]?=some t→RT w ok v t)→RTs w ok vs ts
 | [],[],_,_=>trivial
 | v::vs,t::ts,hl,h=>⟨h 0 v t (by simp) (by simp),RTs.of (by simpa using hl) fun p v t hv ht=>h (p+1) v t (by simpa using hv) (by simpa using ht)⟩
 | [],_::_,hl,_=>by simp at hl
 | _::_,[],hl,_=>by simp at hl
theorem RTs.append:∀{vs vs':List Value} {ts ts':List Tr},RTs w ok vs ts→RTs w ok vs' ts'→RTs w ok (vs++vs') (ts++ts')
 | [],_,[],_,_,h'=>h'
 | _::_,_,_::_,_,h,h'=>⟨h.1,RTs.append h.2 h'⟩
 | [],_,_::_,_,h,_=>h.elim
 | _::_,_,[],_,h,_=>h.elim
theorem RTs.take:∀{vs:List Value} {ts:List Tr} (n:Nat),RTs w ok vs ts→RTs w ok (vs.take n) (ts.take n)
 | _,_,0,_=>by simp[RTs]
 | [],[],_+1,_=>trivial
 | _::_,_::_,n+1,h=>⟨h.1,RTs.take n h.2⟩
 | [],_::_,_+1,h=>h.elim
 | _::_,[],_+1,h=>h.elim
theorem RTs.drop:∀{vs:List Value} {ts:List Tr} (n:Nat),RTs w ok vs ts→RTs w ok (vs.drop n) (ts.drop n)
 | _,_,0,h=>h
 | [],[],_+1,_=>trivial
 | _::_,_::_,n+1,h=>RTs.drop n h.2
 | [],_::_,_+1,h=>h.elim
 | _::_,[],_+1,h=>h.elim
theorem RTs.set:∀{vs:List Value} {ts:List Tr} (n:Nat) {v:Value} {t:Tr},RTs w ok vs ts→RT w ok v t→RTs w ok (vs.set n v) (ts.set n t)
 | [],[],_,_,_,_,_=>trivial
 | _::_,_::_,0,_,_,h,h'=>⟨h',h.2⟩
 | _::_,_::_,n+1,_,_,h,h'=>⟨h.1,RTs.set n h.2 h'⟩
 | [],_::_,_,_,_,h,_=>h.elim
 | _::_,[],_,_,_,h,_=>h.elim
theorem RT.one {v:Value}{t:Tr}(h:RT w ok v t):v.oneCell'=true:=by cases h <;> rfl
theorem RT.cells1 {v:Value}{t:Tr}(h:RT w ok v t):v.cells=#[v]:=by cases h <;> rfl
theorem RTs.one {vs:List Value}{ts:List Tr}(h:RTs w ok vs ts):∀v∈vs,v.oneCell'=true:=by
 intro v hv
 obtain⟨p,hp⟩:=List.getElem?_of_mem hv
 have hl:=h.length
 have:p < vs.length:=by
  rcases Nat.lt_or_ge p vs.length with h|h
  ·exact h
  ·rw[List.getElem?_eq_none h]at hp;cases hp
 exact(h.get p v (ts[p]'(by omega)) hp (List.getElem?_eq_getElem (by omega))).one
theorem RT.keep {v:Value}{t:Tr}(h:RT w ok v t)(hk:∀b,ok b→w'.heap[b]?=w.heap[b]?∧ok' b):RT w' ok' v t:=by
 induction h with
 | int k n=>exact .int k n
 | bool b=>exact .bool b
 | str s=>exact .str s
 | emp A c sz hc=>exact .emp A c sz hc
 | lst ad n c sz rows us hn hc hm hu hok hl hcell hrec ih=>
  exact .lst ad n c sz rows us hn hc hm hu (hk _ hok).2 hl (fun p v hv=>(World.cell?_of_block (by rw[add_block];exact(hk _ hok).1)).trans (hcell p v hv)) ih
theorem RTs.keep {vs:List Value}{ts:List Tr}(h:RTs w ok vs ts)(hk:∀b,ok b→w'.heap[b]?=w.heap[b]?∧ok' b):RTs w' ok' vs ts:=
 RTs.of h.length fun p v t hv ht=>(h.get p v t hv ht).keep hk
theorem RT.slice_inv {v:Value}{sz:Nat}{rows:List (List Tr)}(h:RT w ok v (.lst sz rows)):
  ∃A c,v= .slice A rows.length c∧rows.length≤c∧c≤maxLen∧(∀r∈rows,r.length=sz)∧
   (rows≠[]→∃ad us,A=some ad∧ok ad.block∧us.length=rows.flatten.length∧(∀(p:Nat) (v:Value),us[p]?=some v→w.cell? (ad.add p)=some v)∧RTs w ok us rows.flatten):=by
 cases h with
 | emp A c sz hc=>exact⟨A,c,rfl,Nat.zero_le _,hc,by simp,fun h=>absurd rfl h⟩
 | lst ad n c sz rows us hn hc hm hu hok hl hcell hrec=>exact⟨some ad,c,by rw[hn],by omega,hm,hu,fun _=>⟨ad,us,rfl,hok,hl,hcell,RTs.of hl hrec⟩⟩
theorem flatten_drop {α:Type}(sz:Nat):∀(rows:List (List α)) (i:Nat),(∀r∈rows,r.length=sz)→i≤rows.length→rows.flatten.drop (i * sz)=(rows.drop i).flatten
 | rows,0,_,_=>by simp
 | [],i+1,_,h=>by simp at h
 | r::rows,i+1,hu,h=>by
  have hr:r.length=sz:=hu r (by simp)
  have:(i+1) * sz=r.length+i * sz:=by rw[Nat.add_mul,hr];omega
  rw[List.flatten_cons,this,List.drop_length_add_append,List.drop_succ_cons]
  exact flatten_drop sz rows i (fun r hr=>hu r (by simp[hr])) (by simpa using h)
theorem flatten_take {α:Type}(sz:Nat):∀(rows:List (List α)) (i:Nat),(∀r∈rows,r.length=sz)→i≤rows.length→rows.flatten.take (i * sz)=(rows.take i).flatten
 | rows,0,_,_=>by simp
 | [],i+1,_,h=>by simp at h
 | r::rows,i+1,hu,h=>by
  have hr:r.length=sz:=hu r (by simp)
  have:(i+1) * sz=r.length+i * sz:=by rw[Nat.add_mul,hr];omega
  rw[List.flatten_cons,this,List.take_length_add_append,List.take_succ_cons,List.flatten_cons]
  rw[flatten_take sz rows i (fun r hr=>hu r (by simp[hr])) (by simpa using h)]
theorem flatten_length {α:Type}(sz:Nat):∀(rows:List (List α)),(∀r∈rows,r.length=sz)→rows.flatten.length=rows.length * sz
 | [],_=>by simp
 | r::rows,hu=>by
  rw[List.flatten_cons,List.length_append,flatten_length sz rows (fun r hr=>hu r (by simp[hr])),hu r (by simp),List.length_cons,Nat.add_mul];omega
theorem flatten_set {α:Type}(sz:Nat):∀(rows:List (List α)) (i off:Nat) (row:List α) (x:α),(∀r∈rows,r.length=sz)→rows[i]?=some row→off < sz→(rows.set i (row.set off x)).flatten=rows.flatten.set (i * sz+off) x
 | [],i,off,row,x,_,h,_=>by simp at h
 | r::rows,0,off,row,x,hu,h,ho=>by
  simp at h;subst h
  have hr:r.length=sz:=hu r (by simp)
  simp only[List.set_cons_zero,List.flatten_cons,Nat.zero_mul,Nat.zero_add]
  rw[List.set_append_left _ _ (by omega)]
 | r::rows,i+1,off,row,x,hu,h,ho=>by
  have hr:r.length=sz:=hu r (by simp)
  simp only[List.set_cons_succ,List.flatten_cons]
  rw[flatten_set sz rows i off row x (fun r hr=>hu r (by simp[hr])) (by simpa using h) ho,List.set_append_right _ _ (by rw[Nat.add_mul];omega)]
  congr 2
  rw[Nat.add_mul];omega
theorem flatten_get {α:Type}(sz:Nat)(rows:List (List α))(i off:Nat)(row:List α)(hu:∀r∈rows,r.length=sz)(h:rows[i]?=some row)(ho:off < sz):rows.flatten[i * sz+off]?=row[off]?:=by
 have hi:i < rows.length:=by
  rcases Nat.lt_or_ge i rows.length with h'|h'
  ·exact h'
  ·rw[List.getElem?_eq_none h']at h;cases h
 have hd:=flatten_drop sz rows i hu (by omega)
 rw[List.drop_eq_getElem_cons hi]at hd
 have hrow:rows[i]=row:=by rw[List.getElem?_eq_getElem hi]at h;simpa using h
 rw[hrow,List.flatten_cons]at hd
 have hr:row.length=sz:=hu row (List.mem_of_getElem? h)
 rw[←List.getElem?_drop,hd,List.getElem?_append_left (by omega)]
theorem RT.cut {ad:Option Addr}{n c sz:Nat}{rows:List (List Tr)}(h:RT w ok (.slice ad n c) (.lst sz rows))(lo hi:Nat)(h1:lo≤hi)(h2:hi≤rows.length):
  RT w ok (.slice (if c=lo then ad else ad.map (·.add (lo * sz))) (hi - lo) (c - lo)) (.lst sz ((rows.take hi).drop lo)):=by
 obtain⟨A,c',he,hc,hm,hu,hne⟩:=h.slice_inv
 injection he with e1 e2 e3
 subst e1;subst e3
 by_cases hh:hi=lo
 ·subst hh
  have:(rows.take hi).drop hi=[]:=by simp
  rw[this,Nat.sub_self]
  exact .emp _ _ _ (by omega)
 ·have hrows:rows≠[]:=by intro e;subst e;simp at h2;omega
  obtain⟨ad',us,rfl,hok,hl,hcell,hts⟩:=hne hrows
  rw[if_neg (by omega)]
  have hfl:=flatten_length sz rows hu
  have hut:∀r∈rows.take hi,r.length=sz:=fun r hr=>hu r (List.mem_of_mem_take hr)
  have hflat:((rows.take hi).drop lo).flatten=(rows.flatten.take (hi * sz)).drop (lo * sz):=by
   rw[flatten_take sz rows hi hu h2,flatten_drop sz (rows.take hi) lo hut (by rw[List.length_take];omega)]
  refine .lst _ _ _ _ _ ((us.take (hi * sz)).drop (lo * sz)) ?_ (by omega) (by omega) (fun r hr=>hut r (List.mem_of_mem_drop hr)) (by show ok (Addr.add _ _).block;rw[add_block];exact hok) ?_ ?_ ?_
  ·rw[List.length_drop,List.length_take];omega
  ·rw[hflat,List.length_drop,List.length_drop,List.length_take,List.length_take,hl]
  ·intro p v hv
   rw[List.getElem?_drop,List.getElem?_take]at hv
   split at hv
   ·show w.cell? (Addr.add (Addr.add _ _) _)=_
    rw[add_add];exact hcell _ v hv
   ·cases hv
  ·intro p v u hv hu'
   rw[hflat]at hu'
   exact((hts.take (hi * sz)).drop (lo * sz)).get p v u hv hu'
theorem RT.row {ad:Option Addr}{n c sz:Nat}{rows:List (List Tr)}(h:RT w ok (.slice ad n c) (.lst sz rows))(i:Nat)(row:List Tr)(hr:rows[i]?=some row):
  ∃a us,ad=some a∧ok a.block∧row.length=sz∧i < n∧us.length=row.length∧(∀(p:Nat) (v:Value),us[p]?=some v→w.cell? ((a.add (i * sz)).add p)=some v)∧RTs w ok us row:=by
 obtain⟨A,c',he,hc,hm,hu,hne⟩:=h.slice_inv
 injection he with e1 e2 e3
 subst e1;subst e3
 have hi:i < rows.length:=by
  rcases Nat.lt_or_ge i rows.length with h'|h'
  ·exact h'
  ·rw[List.getElem?_eq_none h']at hr;cases hr
 obtain⟨ad',us,rfl,hok,hl,hcell,hts⟩:=hne (by intro e;subst e;simp at hi)
 have hrl:row.length=sz:=hu row (List.mem_of_getElem? hr)
 have hfl:=flatten_length sz rows hu
 refine⟨ad',(us.drop (i * sz)).take sz,rfl,hok,hrl,by omega,?_,?_,?_⟩
 ·rw[List.length_take,List.length_drop,hl,hfl]
  have hle:=Nat.mul_le_mul_right sz hi
  rw[Nat.succ_mul]at hle
  omega
 ·intro p v hv
  rw[List.getElem?_take]at hv
  split at hv
  ·rw[List.getElem?_drop]at hv
   rw[add_add];exact hcell _ v hv
  ·cases hv
 ·have hd:=flatten_drop sz rows i hu (by omega)
  rw[List.drop_eq_getElem_cons hi]at hd
  have hrow:rows[i]=row:=by rw[List.getElem?_eq_getElem hi]at hr;simpa using hr
  rw[hrow,List.flatten_cons]at hd
  have:=(hts.drop (i * sz)).take sz
  rw[hd,List.take_append_of_le_length (by omega),List.take_of_length_le (show row.length≤sz by omega)]at this
  exact this
end
end Go.Sim
namespace Go.Sim
open Go.RowKit
def blk:Value→Option Nat
 | .slice (some a) _ _=>some a.block
 | .pointer (some a)=>some a.block
 | .map (some b)=>some b
 | _=>none
def keyV:Tr→Value
 | .int k n=> .int k n
 | .bool b=> .bool b
 | .str s=> .string ⟨s.toArray⟩
 | .lst _ _=>undef
def entV (p:Tr×Int):Value×Value:=(keyV p.1,.int .i64 p.2)
def keyFit:Option IntKind→Tr→Prop
 | some k,.int k' _=>k'=k
 | none,.str _=>True
 | _,_=>False
def okF (B:Nat)(ok:Nat→Prop)(fr:Bool)(b:Nat):Prop:=ok b∧(fr=true→B≤b)
def RC (B:Nat)(ρ:Rho)(w:World)(ok:Nat→Prop)(v:Value):AC→Prop
 | .t x=>RT w ok v x
 | .f x=>RT w (okF B ok true) v x
 | .nils _=>v= .slice none 0 0
 | .nilp=>v= .pointer none
 | .own o=>(∃A n c,ρ o= .slice A n c)∧v=ρ o
 | .sub o k=>∃A n c,ρ o= .slice A n c∧v= .slice A k c∧k≤n
 | .ptr o off=>∃b,ρ o= .pointer (some ⟨b,0,none⟩)∧v= .pointer (some ⟨b,off,none⟩)
 | .opq=>v.oneCell'=true∧v.cells=#[v]
 | .mpv o=>(∃b,ρ o= .map (some b))∧v=ρ o
def RCs (B:Nat)(ρ:Rho)(w:World)(ok:Nat→Prop):List Value→List AC→Prop
 | [],[]=>True
 | v::vs,c::cs=>RC B ρ w ok v c∧RCs B ρ w ok vs cs
 | _,_=>False
def RR (B:Nat)(ρ:Rho)(w:World)(ok:Nat→Prop)(v:Value):AR→Prop
 | .c x=>RC B ρ w ok v x
 | .agg cs=>∃us,v= .agg us∧RCs B ρ w ok us.toList cs
def RRs (B:Nat)(ρ:Rho)(w:World)(ok:Nat→Prop):List Value→List AR→Prop
 | [],[]=>True
 | v::vs,c::cs=>RR B ρ w ok v c∧RRs B ρ w ok vs cs
 | _,_=>False
def RV (B:Nat)(ρ:Rho)(w:World)(ok:Nat→Prop)(v:Value):AV→Prop
 | .r x=>RR B ρ w ok v x
 | .tup xs=>∃us,v= .tuple us∧RRs B ρ w ok us.toList xs
 | .el o sz i off=>∃b n c,ρ o= .slice (some ⟨b,0,none⟩) n c∧i < n∧v= .pointer (some ⟨b,i * sz+off,none⟩)
 | .ro fr row off=>∃(a:Addr) (us:List Value),v= .pointer (some (a.add off))∧okF B ok fr a.block∧us.length=row.length∧(∀(p:Nat) (u:Value),us[p]?=some u→w.cell? (a.add p)=some u)∧RTs w (okF B ok fr) us row
 | .unk=>True
def RD (w:World)(ok F:Nat→Prop)(v:Value):DC→Prop
 | .t x=>RT w ok v x
 | .d x=>DT w F v x
def holeAt (sz:Nat):Option (Nat×Nat×Id)→Nat→Option Id
 | some (i,off,n),p=>if p=i * sz+off then some n else none
 | none,_=>none
def RDs (ρ:Rho)(w:World)(ok:Nat→Prop)(sz:Nat)(hole:Option (Nat×Nat×Id))(Fp:Nat→Nat→Prop)(us:List Value)(cs:List DC):Prop:=
 us.length=cs.length∧∀(p:Nat) (v:Value) (c:DC),us[p]?=some v→cs[p]?=some c→(match holeAt sz hole p with
  | some n=>v=ρ n∧v.oneCell'=true∧v.cells=#[v]
  | none=>RD w ok (Fp p) v c)
def RO (B:Nat)(ρ:Rho)(w:World)(ok:Nat→Prop)(o:Id):AO→Prop
 | .arr fr sz rows=>(∀r∈rows,r.length=sz)∧
   (
    (ρ o= .slice none 0 0∧rows=[])∨
    ∃b cap cur e fz,ρ o= .slice (some ⟨b,0,none⟩) rows.length cap∧w.heap[b]?=some (.cells cur e fz)∧unfrozen cur.size fz∧rows.length≤cap∧cap≤maxLen∧cur.size=cap * sz∧
    RTs w (okF B ok fr) (cur.toList.take (rows.length * sz)) rows.flatten∧(fr=true→B≤b))
 | .box cells=>∃b cur t fz,ρ o= .pointer (some ⟨b,0,none⟩)∧w.heap[b]?=some (.cells cur t fz)∧unfrozen cur.size fz∧RCs B ρ w ok cur.toList cells
 | .mp kk es=>∃b ents clock,ρ o= .map (some b)∧w.heap[b]?=some (.map ents clock)∧ents.toList.map (fun e=>(e.key,e.val))=es.map entV∧∀p∈es,keyFit kk p.1
 | .dar sz rows hole=>(∀r∈rows,r.length=sz)∧
   (
    (ρ o= .slice none 0 0∧rows=[]∧hole=none)∨
    ∃b cap cur e fz Fp,ρ o= .slice (some ⟨b,0,none⟩) rows.length cap∧w.heap[b]?=some (.cells cur e fz)∧unfrozen cur.size fz∧rows.length≤cap∧cap≤maxLen∧cur.size=cap * sz∧
    (∀p c,Fp p c→ρ.fp o c∧c≠b)∧(∀p q c,p≠q→Fp p c→¬Fp q c)∧RDs ρ w ok sz hole Fp (cur.toList.take (rows.length * sz)) rows.flatten)
def Own (ρ:Rho)(o:Id)(b:Nat):Prop:=blk (ρ o)=some b∨ρ.fp o b
def AC.ids:AC→List Id
 | .own o=>[o]
 | .sub o _=>[o]
 | .ptr o _=>[o]
 | .mpv o=>[o]
 | _=>[]
def AR.ids:AR→List Id
 | .c x=>x.ids
 | .agg cs=>cs.flatMap AC.ids
def AV.ids:AV→List Id
 | .r x=>x.ids
 | .tup xs=>xs.flatMap AR.ids
 | .el o _ _ _=>[o]
 | _=>[]
def AO.ids:AO→List Id
 | .arr _ _ _=>[]
 | .mp _ _=>[]
 | .dar _ _ hole=>(match hole with|some (_,_,n)=>[n]|none=>[])
 | .box cells=>cells.flatMap AC.ids
section
variable {B:Nat} {ρ ρ':Rho} {w w':World} {ok ok':Nat→Prop}
theorem okF_keep {fr:Bool}(hk:∀b,ok b→w'.heap[b]?=w.heap[b]?∧ok' b):∀b,okF B ok fr b→w'.heap[b]?=w.heap[b]?∧okF B ok' fr b:=
 fun b hb=>⟨(hk b hb.1).1,(hk b hb.1).2,hb.2⟩
theorem okF_weak {fr fr':Bool}(h:fr'=true→fr=true):∀b,okF B ok fr b→w.heap[b]?=w.heap[b]?∧okF B ok fr' b:=fun b hb=>⟨rfl,hb.1,fun e=>hb.2 (h e)⟩
theorem okF_drop {fr:Bool}:∀b,okF B ok fr b→w.heap[b]?=w.heap[b]?∧ok b:=fun b hb=>⟨rfl,hb.1⟩
theorem RC.keep {v:Value}{x:AC}(h:RC B ρ w ok v x)(hk:∀b,ok b→w'.heap[b]?=w.heap[b]?∧ok' b)(hρ:∀o∈x.ids,ρ' o=ρ o):RC B ρ' w' ok' v x:=by
 cases x with
 | t x=>exact RT.keep h hk
 | f x=>exact RT.keep h (okF_keep hk)
 | nils n=>exact h
 | nilp=>exact h
 | own o=>rw[RC,hρ o (by simp[AC.ids])];exact h
 | sub o k=>rw[RC,hρ o (by simp[AC.ids])];exact h
 | ptr o k=>rw[RC,hρ o (by simp[AC.ids])];exact h
 | opq=>exact h
 | mpv o=>rw[RC,hρ o (by simp[AC.ids])];exact h
theorem RCs.keep:∀{vs:List Value} {xs:List AC},RCs B ρ w ok vs xs→(∀b,ok b→w'.heap[b]?=w.heap[b]?∧ok' b)→(∀o∈xs.flatMap AC.ids,ρ' o=ρ o)→RCs B ρ' w' ok' vs xs
 | [],[],_,_,_=>trivial
 | v::vs,x::xs,h,hk,hρ=>⟨h.1.keep hk fun o ho=>hρ o (by simp[ho]),RCs.keep h.2 hk fun o ho=>hρ o (by simp only[List.flatMap_cons,List.mem_append];exact .inr ho)⟩
 | [],_::_,h,_,_=>h.elim
 | _::_,[],h,_,_=>h.elim
theorem RR.keep {v:Value}{x:AR}(h:RR B ρ w ok v x)(hk:∀b,ok b→w'.heap[b]?=w.heap[b]?∧ok' b)(hρ:∀o∈x.ids,ρ' o=ρ o):RR B ρ' w' ok' v x:=by
 cases x with
 | c x=>exact RC.keep h hk hρ
 | agg cs=>obtain⟨us,hv,h⟩:=h;exact⟨us,hv,h.keep hk hρ⟩
theorem RRs.keep:∀{vs:List Value} {xs:List AR},RRs B ρ w ok vs xs→(∀b,ok b→w'.heap[b]?=w.heap[b]?∧ok' b)→(∀o∈xs.flatMap AR.ids,ρ' o=ρ o)→RRs B ρ' w' ok' vs xs
 | [],[],_,_,_=>trivial
 | v::vs,x::xs,h,hk,hρ=>⟨h.1.keep hk fun o ho=>hρ o (by simp[ho]),RRs.keep h.2 hk fun o ho=>hρ o (by simp only[List.flatMap_cons,List.mem_append];exact .inr ho)⟩
 | [],_::_,h,_,_=>h.elim
 | _::_,[],h,_,_=>h.elim
theorem RV.keep {v:Value}{x:AV}(h:RV B ρ w ok v x)(hk:∀b,ok b→w'.heap[b]?=w.heap[b]?∧ok' b)(hρ:∀o∈x.ids,ρ' o=ρ o):RV B ρ' w' ok' v x:=by
 cases x with
 | r x=>exact RR.keep h hk hρ
 | tup xs=>obtain⟨us,hv,h⟩:=h;exact⟨us,hv,h.keep hk hρ⟩
 | el o sz i off=>rw[RV,hρ o (by simp[AV.ids])];exact h
 | ro fr row off=>
  obtain⟨a,us,hv,hok,hl,hc,ht⟩:=h
  exact⟨a,us,hv,(okF_keep hk _ hok).2,hl,fun p u hu=>(World.cell?_of_block (by rw[add_block];exact(hk _ hok.1).1)).trans (hc p u hu),ht.keep (okF_keep hk)⟩
 | unk=>trivial
theorem RD.keep {F F':Nat→Prop}{v:Value}{c:DC}(h:RD w ok F v c)(hk:∀b,ok b→w'.heap[b]?=w.heap[b]?∧ok' b)(hF:∀b,F b→w'.heap[b]?=w.heap[b]?∧F' b):RD w' ok' F' v c:=by
 cases c with
 | t x=>exact RT.keep h hk
 | d x=>exact DT.keep h hF
theorem RDs.keep {sz:Nat}{hole:Option (Nat×Nat×Id)}{Fp Fp':Nat→Nat→Prop}{us:List Value}{cs:List DC}(h:RDs ρ w ok sz hole Fp us cs)(hk:∀b,ok b→w'.heap[b]?=w.heap[b]?∧ok' b)
  (hF:∀p b,Fp p b→w'.heap[b]?=w.heap[b]?∧Fp' p b) (hρ:∀i off n,hole=some (i,off,n)→ρ' n=ρ n):RDs ρ' w' ok' sz hole Fp' us cs:=by
 refine⟨h.1,fun p v c hv hc=>?_⟩
 have:=h.2 p v c hv hc
 cases hh:holeAt sz hole p with
 | some n=>
  rw[hh]at this
  have hn:ρ' n=ρ n:=by
   match hole,hh with
   | some (i,off,m),hh=>
    simp only[holeAt]at hh
    split at hh
    ·injection hh with hh;subst hh;exact hρ i off _ rfl
    ·cases hh
  exact⟨this.1.trans hn.symm,this.2⟩
 | none=>rw[hh]at this;exact this.keep hk (hF p)
theorem RO.keep {o:Id}{x:AO}(h:RO B ρ w ok o x)(hk:∀b,ok b→w'.heap[b]?=w.heap[b]?∧ok' b)(hρ:∀o∈x.ids,ρ' o=ρ o)(ho:ρ' o=ρ o)(hf:∀b,ρ.fp o b→ρ'.fp o b)(hb:∀b,Own ρ o b→w'.heap[b]?=w.heap[b]?):RO B ρ' w' ok' o x:=by
 cases x with
 | arr fr sz rows=>
  obtain⟨hu,h⟩:=h
  refine⟨hu,?_⟩
  rcases h with h|⟨b,cap,cur,e,fz,h1,h2,h3,h4,h5,h6,h7,h8⟩
  ·exact .inl (by rw[ho];exact h)
  ·exact .inr ⟨b,cap,cur,e,fz,by rw[ho];exact h1,by rw[hb b (.inl (by rw[h1];rfl))];exact h2,h3,h4,h5,h6,h7.keep (okF_keep hk),h8⟩
 | box cells=>
  obtain⟨b,cur,t,fz,h1,h2,h3,h4⟩:=h
  exact⟨b,cur,t,fz,by rw[ho];exact h1,by rw[hb b (.inl (by rw[h1];rfl))];exact h2,h3,h4.keep hk hρ⟩
 | mp kk es=>
  obtain⟨b,ents,clock,h1,h2,h3⟩:=h
  exact⟨b,ents,clock,by rw[ho];exact h1,by rw[hb b (.inl (by rw[h1];rfl))];exact h2,h3⟩
 | dar sz rows hole=>
  obtain⟨hu,h⟩:=h
  refine⟨hu,?_⟩
  rcases h with h|⟨b,cap,cur,e,fz,Fp,h1,h2,h3,h4,h5,h6,h7,h8,h9⟩
  ·exact .inl ⟨by rw[ho];exact h.1,h.2⟩
  ·refine .inr ⟨b,cap,cur,e,fz,Fp,by rw[ho];exact h1,by rw[hb b (.inl (by rw[h1];rfl))];exact h2,h3,h4,h5,h6,fun p c hc=>⟨hf c (h7 p c hc).1,(h7 p c hc).2⟩,h8,h9.keep hk (fun p c hc=>⟨hb c (.inr (h7 p c hc).1),hc⟩) fun i off n e=>hρ n (by subst e;simp[AO.ids])⟩
theorem RCs.length:∀{vs:List Value} {ts:List AC},RCs B ρ w ok vs ts→vs.length=ts.length
 | [],[],_=>rfl
 | _::vs,_::ts,h=>by simp[RCs.length (vs:=vs) (ts:=ts) h.2]
 | [],_::_,h=>h.elim
 | _::_,[],h=>h.elim
theorem RCs.get:∀{vs:List Value} {ts:List AC},RCs B ρ w ok vs ts→∀(p:Nat) (t:AC),ts[p]?=some t→∃v,vs[p]?=some v∧RC B ρ w ok v t
 | [],[],_,p,t,ht=>by simp at ht
 | v0::vs,t0::ts,h,0,t,ht=>by simp at ht;subst ht;exact⟨v0,by simp,h.1⟩
 | v0::vs,t0::ts,h,p+1,t,ht=>by
  obtain⟨v,h1,h2⟩:=RCs.get h.2 p t (by simpa using ht)
  exact⟨v,by simpa using h1,h2⟩
 | [],_::_,h,_,_,_=>h.elim
 | _::_,[],h,_,_,_=>h.elim
theorem RCs.take:∀{vs:List Value} {ts:List AC} (n:Nat),RCs B ρ w ok vs ts→RCs B ρ w ok (vs.take n) (ts.take n)
 | _,_,0,_=>by simp[RCs]
 | [],[],_+1,_=>trivial
 | _::_,_::_,n+1,h=>⟨h.1,RCs.take n h.2⟩
 | [],_::_,_+1,h=>h.elim
 | _::_,[],_+1,h=>h.elim
theorem RCs.drop:∀{vs:List Value} {ts:List AC} (n:Nat),RCs B ρ w ok vs ts→RCs B ρ w ok (vs.drop n) (ts.drop n)
 | _,_,0,h=>h
 | [],[],_+1,_=>trivial
 | _::_,_::_,n+1,h=>RCs.drop n h.2
 | [],_::_,_+1,h=>h.elim
 | _::_,[],_+1,h=>h.elim
theorem RCs.set:∀{vs:List Value} {ts:List AC} (n:Nat) {v:Value} {t:AC},RCs B ρ w ok vs ts→RC B ρ w ok v t→RCs B ρ w ok (vs.set n v) (ts.set n t)
 | [],[],_,_,_,_,_=>trivial
 | _::_,_::_,0,_,_,h,h'=>⟨h',h.2⟩
 | _::_,_::_,n+1,_,_,h,h'=>⟨h.1,RCs.set n h.2 h'⟩
 | [],_::_,_,_,_,h,_=>h.elim
 | _::_,[],_,_,_,h,_=>h.elim
theorem RCs.append:∀{vs vs':List Value} {ts ts':List AC},RCs B ρ w ok vs ts→RCs B ρ w ok vs' ts'→RCs B ρ w ok (vs++vs') (ts++ts')
 | [],_,[],_,_,h'=>h'
 | _::_,_,_::_,_,h,h'=>⟨h.1,RCs.append h.2 h'⟩
 | [],_,_::_,_,h,_=>h.elim
 | _::_,_,[],_,h,_=>h.elim
theorem RC.one {v:Value}{t:AC}(h:RC B ρ w ok v t):v.oneCell'=true:=by
 cases t with
 | t x=>exact RT.one h
 | f x=>exact RT.one h
 | nils=>subst h;rfl
 | nilp=>subst h;rfl
 | own o=>obtain⟨⟨A,n,c,e⟩,rfl⟩:=h;rw[e];rfl
 | sub o k=>obtain⟨A,n,c,_,rfl,_⟩:=h;rfl
 | ptr o off=>obtain⟨b,_,rfl⟩:=h;rfl
 | opq=>exact h.1
 | mpv o=>obtain⟨⟨b,e⟩,rfl⟩:=h;rw[e];rfl
theorem RC.cells1 {v:Value}{t:AC}(h:RC B ρ w ok v t):v.cells=#[v]:=by
 cases t with
 | t x=>exact RT.cells1 h
 | f x=>exact RT.cells1 h
 | nils=>subst h;rfl
 | nilp=>subst h;rfl
 | own o=>obtain⟨⟨A,n,c,e⟩,rfl⟩:=h;rw[e];rfl
 | sub o k=>obtain⟨A,n,c,_,rfl,_⟩:=h;rfl
 | ptr o off=>obtain⟨b,_,rfl⟩:=h;rfl
 | opq=>exact h.2
 | mpv o=>obtain⟨⟨b,e⟩,rfl⟩:=h;rw[e];rfl
theorem RCs.one:∀{vs:List Value} {ts:List AC},RCs B ρ w ok vs ts→∀v∈vs,v.oneCell'=true
 | [],[],_,v,hv=>by cases hv
 | v0::vs,t0::ts,h,v,hv=>by
  rcases List.mem_cons.1 hv with rfl|hv
  ·exact h.1.one
  ·exact RCs.one h.2 v hv
 | [],_::_,h,_,_=>h.elim
 | _::_,[],h,_,_=>h.elim
def AR.cells:AR→List AC
 | .c x=>[x]
 | .agg cs=>cs
theorem RR.cells {v:Value}{x:AR}(h:RR B ρ w ok v x):RCs B ρ w ok v.cells.toList x.cells:=by
 cases x with
 | c x=>have:=RC.cells1 h;rw[this];exact⟨h,trivial⟩
 | agg cs=>obtain⟨us,rfl,h⟩:=h;exact h
end
structure Keep (B:Nat) (M:Nat→Prop) (w w':World):Prop where
 os:w'.os=w.os
 tape:w'.tape=w.tape
 output:w'.output=w.output
 size:w.heap.size≤w'.heap.size
 block:∀k,k < B→¬M k→w'.heap[k]?=w.heap[k]?
structure Start where
 w:World
 al:Nat→Prop
 fx:Id→Option Value
structure F_ where
 L:Nat→AV
 H:Id→Option AO
 U:Nat→Prop
def okB (ρ:Rho)(H:Id→Option AO)(w:World)(b:Nat):Prop:=(b < w.heap.size∧ρ.al b)∧∀o x,H o=some x→¬Own ρ o b
structure Conc (N B:Nat) (M:Nat→Prop) (w0:Start) (ρ:Rho) (s:F_) (a:Act) (w:World):Prop where
 size:a.tmps.size=N
 defers:a.defers=[]
 slot:∀t,RV B ρ w (okB ρ s.H w) (a.tmps.getD t undef) (s.L t)
 obj:∀o x,s.H o=some x→RO B ρ w (okB ρ s.H w) o x
 sep:∀o o' x x' b,s.H o=some x→s.H o'=some x'→o≠o'→Own ρ o b→¬Own ρ o' b
 rng:∀o x b,s.H o=some x→Own ρ o b→b < w.heap.size∧(B≤b∨M b)
 keep:Keep B M w0.w w
 base:B≤w.heap.size
 alw:∀b,B≤b∨M b→ρ.al b
 cst:ρ.al=w0.al
 fix:∀o v,w0.fx o=some v→ρ o=v∧s.U o.1
 usedL:∀t o,o∈(s.L t).ids→s.U o.1
 usedH:∀o x,s.H o=some x→s.U o.1∧∀o'∈x.ids,s.U o'.1
section
variable {N B:Nat} {M:Nat→Prop} {w0:Start} {ρ:Rho} {s:F_} {a:Act} {w:World}
theorem Conc.congr {s':F_}(h:Conc N B M w0 ρ s a w)(hL:∀t,s'.L t=s.L t)(hH:∀o,s'.H o=s.H o)(hU:∀n,s'.U n↔s.U n):Conc N B M w0 ρ s' a w:=by
 have e1:s'.L=s.L:=funext hL
 have e2:s'.H=s.H:=funext hH
 have e3:s'.U=s.U:=funext fun n=>propext (hU n)
 obtain⟨L,H,U⟩:=s
 obtain⟨L',H',U'⟩:=s'
 simp only at e1 e2 e3
 subst e1;subst e2;subst e3
 exact h
structure Turn (D:Nat→Prop) (w w':World):Prop where
 os:w'.os=w.os
 tape:w'.tape=w.tape
 output:w'.output=w.output
 size:w.heap.size≤w'.heap.size
 block:∀k,k < w.heap.size→¬D k→w'.heap[k]?=w.heap[k]?
theorem Turn.refl (D:Nat→Prop)(w:World):Turn D w w:=⟨rfl,rfl,rfl,Nat.le_refl _,fun _ _ _=>rfl⟩
theorem Turn.drew (D:Nat→Prop)(w:World):Turn D w w.drew:=⟨rfl,rfl,rfl,Nat.le_refl _,fun _ _ _=>rfl⟩
theorem Turn.alloc (D:Nat→Prop)(w:World)(o:Obj):Turn D w (w.alloc o):=⟨rfl,rfl,rfl,by simp,fun k hk _=>Below.heap_alloc w o k hk⟩
theorem Turn.trans {D:Nat→Prop}{w w' w'':World}(h:Turn D w w')(h':Turn D w' w''):Turn D w w'':=
 ⟨h'.os.trans h.os,h'.tape.trans h.tape,h'.output.trans h.output,Nat.le_trans h.size h'.size,fun k hk hd=>(h'.block k (Nat.lt_of_lt_of_le hk h.size) hd).trans (h.block k hk hd)⟩
theorem Turn.mono {D D':Nat→Prop}{w w':World}(h:Turn D w w')(hd:∀k,D k→D' k):Turn D' w w':=
 ⟨h.os,h.tape,h.output,h.size,fun k hk hn=>h.block k hk fun hx=>hn (hd k hx)⟩
theorem Turn.setCell (w:World)(p:Addr)(v:Value):Turn (fun k=>k=p.block) w (w.setCell p v):=
 ⟨rfl,rfl,rfl,by simp[World.setCell],fun k _ hk=>Below.heap_setCell w p v k hk⟩
theorem Conc.step (h:Conc N B M w0 ρ s a w)(D:Nat→Prop)(keys:List Id){w':World}{ρ':Rho}{H':Id→Option AO}{U':Nat→Prop}{a':Act}{L':Nat→AV}
  (hT:Turn D w w') (hN:a'.tmps.size=N) (hd:a'.defers=[])
  (hρ:∀o,s.U o.1→ρ' o=ρ o) (hfp:∀o x,o∉keys→s.H o=some x→ρ'.fp o=ρ.fp o) (hal:ρ'.al=ρ.al) (hH:∀o,o∉keys→H' o=s.H o) (hU:∀n,s.U n→U' n)
  (hD1:∀b,okB ρ s.H w b→¬D b) (hD2:∀o x b,s.H o=some x→o∉keys→Own ρ o b→¬D b)
  (hD3:∀b,b < B→¬M b→¬D b)
  (hnew:∀o x b,o∈keys→H' o=some x→Own ρ' o b→b < w'.heap.size∧(B≤b∨M b)∧(w.heap.size≤b∨∃o' x',s.H o'=some x'∧o'∈keys∧Own ρ o' b))
  (hsep:∀o o' x x' b,o∈keys→o'∈keys→H' o=some x→H' o'=some x'→o≠o'→Own ρ' o b→¬Own ρ' o' b)
  (hobj:∀(hk:∀b,okB ρ s.H w b→w'.heap[b]?=w.heap[b]?∧okB ρ' H' w' b),∀o x,o∈keys→H' o=some x→RO B ρ' w' (okB ρ' H' w') o x∧U' o.1∧∀o'∈x.ids,U' o'.1)
  (hslot:∀(hk:∀b,okB ρ s.H w b→w'.heap[b]?=w.heap[b]?∧okB ρ' H' w' b),∀t,(L' t=s.L t∧a'.tmps.getD t undef=a.tmps.getD t undef)∨(RV B ρ' w' (okB ρ' H' w') (a'.tmps.getD t undef) (L' t)∧∀o∈(L' t).ids,U' o.1)):
  Conc N B M w0 ρ' ⟨L',H',U'⟩ a' w':=by
 have old:∀o x,o∉keys→H' o=some x→s.H o=some x∧ρ' o=ρ o∧∀b,Own ρ' o b↔Own ρ o b:=fun o x hn ho=>by
  rw[hH o hn]at ho
  have e:=hρ o (h.usedH o x ho).1
  exact⟨ho,e,fun b=>by unfold Own;rw[e,hfp o x hn ho]⟩
 have hk:∀b,okB ρ s.H w b→w'.heap[b]?=w.heap[b]?∧okB ρ' H' w' b:=by
  intro b hb
  refine⟨hT.block b hb.1.1 (hD1 b hb),⟨Nat.lt_of_lt_of_le hb.1.1 hT.size,by rw[hal];exact hb.1.2⟩,fun o x ho he=>?_⟩
  by_cases hok:o∈keys
  ·rcases(hnew o x b hok ho he).2.2 with h1|⟨o',x',h1,_,h3⟩
   ·exact absurd hb.1.1 (by omega)
   ·exact hb.2 o' x' h1 h3
  ·obtain⟨g1,_,g3⟩:=old o x hok ho
   exact hb.2 o x g1 ((g3 b).1 he)
 have cross:∀o o' x x' b,o∈keys→o'∉keys→H' o=some x→H' o'=some x'→Own ρ' o b→¬Own ρ' o' b:=by
  intro o o' x x' b hk1 hk2 ho ho' he he'
  obtain⟨g1,_,g2⟩:=old o' x' hk2 ho'
  rw[g2]at he'
  rcases(hnew o x b hk1 ho he).2.2 with h1|⟨o2,x2,h1,h2,h3⟩
  ·exact absurd (h.rng o' x' b g1 he').1 (by omega)
  ·exact h.sep o2 o' x2 x' b h1 g1 (fun e=>hk2 (e ▸ h2)) h3 he'
 refine⟨hN,hd,fun t=>?_,fun o x ho=>?_,fun o o' x x' b ho ho' hne he he'=>?_,fun o x b ho he=>?_,?_,Nat.le_trans h.base hT.size,fun b hb=>by rw[hal];exact h.alw b hb,hal.trans h.cst,fun o v hv=>?_,fun t o ho=>?_,fun o x ho=>?_⟩
 ·rcases hslot hk t with⟨e1,e2⟩|h1
  ·simp only[e1,e2]
   exact(h.slot t).keep hk fun o ho=>hρ o (h.usedL t o ho)
  ·exact h1.1
 ·by_cases hok:o∈keys
  ·exact(hobj hk o x hok ho).1
  ·obtain⟨g1,g2,_⟩:=old o x hok ho
   refine(h.obj o x g1).keep hk (fun o' ho'=>hρ o' ((h.usedH o x g1).2 o' ho')) g2 (fun b hb=>by rw[hfp o x hok g1];exact hb) fun b hb=>?_
   exact hT.block b (h.rng o x b g1 hb).1 (hD2 o x b g1 hok hb)
 ·simp only at ho ho' he he'
  by_cases hk1:o∈keys
  ·by_cases hk2:o'∈keys
   ·exact hsep o o' x x' b hk1 hk2 ho ho' hne he he'
   ·exact cross o o' x x' b hk1 hk2 ho ho' he he'
  ·by_cases hk2:o'∈keys
   ·exact cross o' o x' x b hk2 hk1 ho' ho he' he
   ·obtain⟨g1,_,g2⟩:=old o x hk1 ho
    obtain⟨g3,_,g4⟩:=old o' x' hk2 ho'
    rw[g2]at he
    rw[g4]at he'
    exact h.sep o o' x x' b g1 g3 hne he he'
 ·simp only at ho he
  by_cases hk1:o∈keys
  ·exact⟨(hnew o x b hk1 ho he).1,(hnew o x b hk1 ho he).2.1⟩
  ·obtain⟨g1,_,g2⟩:=old o x hk1 ho
   rw[g2]at he
   have:=h.rng o x b g1 he
   exact⟨Nat.lt_of_lt_of_le this.1 hT.size,this.2⟩
 ·refine⟨hT.os.trans h.keep.os,hT.tape.trans h.keep.tape,hT.output.trans h.keep.output,Nat.le_trans h.keep.size hT.size,fun k hkB hkM=>?_⟩
  exact(hT.block k (Nat.lt_of_lt_of_le hkB h.base) (hD3 k hkB hkM)).trans (h.keep.block k hkB hkM)
 ·obtain⟨h1,h2⟩:=h.fix o v hv
  exact⟨(hρ o h2).trans h1,hU _ h2⟩
 ·simp only at ho ⊢
  rcases hslot hk t with⟨e1,_⟩|h1
  ·rw[e1]at ho;exact hU _ (h.usedL t o ho)
  ·exact h1.2 o ho
 ·simp only at ho ⊢
  by_cases hk1:o∈keys
  ·exact(hobj hk o x hk1 ho).2
  ·obtain⟨g1,_⟩:=old o x hk1 ho
   exact⟨hU _ (h.usedH o x g1).1,fun o' ho'=>hU _ ((h.usedH o x g1).2 o' ho')⟩
end
end Go.Sim
namespace Go.Sim
open Go.RowKit
structure TI where
 size:Nat
 bytes:Nat
 agg:Bool
 zero:List AC
 kind:Option IntKind:=none
 str:Bool:=false
 bool:Bool:=false
 elem:Option TypeId:=none
 fields:List (Nat×Nat×TypeId):=[]
 map:Option (Option IntKind):=none
abbrev Env:=List (TypeId×TI)
def Env.get:Env→TypeId→Option TI
 | [],_=>none
 |(u,i)::r,t=>bif Nat.beq u t then some i else Env.get r t
inductive RC' where
 | t (x:Tr)
 | arr (sz:Nat) (rows:List (List Tr))
inductive RR' where
 | c (x:RC')
 | agg (cs:List RC')
inductive Res where
 | r (x:RR')
 | tup (xs:List RR')
inductive TV where
 | c (x:Tr)
 | agg (xs:List Tr)
def RC'.ac (d i j:Nat):RC'→AC
 | .t x=> .t x
 | .arr _ _=> .own (d,i,j)
def RC'.acs (d i:Nat):Nat→List RC'→List AC
 | _,[]=>[]
 | j,c::r=>c.ac d i j::RC'.acs d i (j+1) r
def RC'.os (d i j:Nat):RC'→List (Id×AO)
 | .t _=>[]
 | .arr sz rows=>[((d,i,j),.arr true sz rows)]
def RC'.oss (d i:Nat):Nat→List RC'→List (Id×AO)
 | _,[]=>[]
 | j,c::r=>c.os d i j++RC'.oss d i (j+1) r
def RR'.ar (d i:Nat):RR'→AR
 | .c x=> .c (x.ac d i 0)
 | .agg cs=> .agg (RC'.acs d i 0 cs)
def RR'.os (d i:Nat):RR'→List (Id×AO)
 | .c x=>x.os d i 0
 | .agg cs=>RC'.oss d i 0 cs
def RR'.ars (d:Nat):Nat→List RR'→List AR
 | _,[]=>[]
 | i,x::r=>x.ar d i::RR'.ars d (i+1) r
def RR'.oss (d:Nat):Nat→List RR'→List (Id×AO)
 | _,[]=>[]
 | i,x::r=>x.os d i++RR'.oss d (i+1) r
def Res.av (d:Nat):Res→AV
 | .r x=> .r (x.ar d 0)
 | .tup xs=> .tup (RR'.ars d 0 xs)
def Res.os (d:Nat):Res→List (Id×AO)
 | .r x=>x.os d 0
 | .tup xs=>RR'.oss d 0 xs
def RTV (w:World)(ok:Nat→Prop)(v:Value):TV→Prop
 | .c x=>RT w ok v x
 | .agg xs=>∃us,v= .agg us∧RTs w ok us.toList xs
def RTVs (w:World)(ok:Nat→Prop):List Value→List TV→Prop
 | [],[]=>True
 | v::vs,t::ts=>RTV w ok v t∧RTVs w ok vs ts
 | _,_=>False
def ResOK (B:Nat)(w:World)(v:Value)(r:Res):Prop:=
 ∃ρ:Rho,∃okp:Nat→Prop,(∀b,okp b→b < w.heap.size∧B≤b)∧RV B ρ w okp v (r.av 0)∧
  (∀o x,(o,x)∈r.os 0→RO B ρ w okp o x∧∀b,blk (ρ o)=some b→B≤b∧b < w.heap.size∧¬okp b)∧
  (∀o o' x x',(o,x)∈r.os 0→(o',x')∈r.os 0→o≠o'→∀b,blk (ρ o)=some b→blk (ρ o')≠some b)
def Enters (P:Program)(f:FuncId):Prop:=∀(args:Array Value) (w:World),(callFunc f args).run P w= .ok (.enter f args) w
def idEq (a b:Id):Bool:=Nat.beq a.1 b.1 && (Nat.beq a.2.1 b.2.1 && Nat.beq a.2.2 b.2.2)
def lkH:List (Id×AO)→Id→Option AO
 | [],_=>none
 |(i,x)::r,o=>bif idEq o i then some x else lkH r o
def RVs (B:Nat)(ρ:Rho)(w:World)(ok:Nat→Prop):List Value→List AV→Prop
 | [],[]=>True
 | v::vs,x::xs=>RV B ρ w ok v x∧RVs B ρ w ok vs xs
 | _,_=>False
def Ms (ρ:Rho)(h:List (Id×AO))(b:Nat):Prop:=∃o x,lkH h o=some x∧Own ρ o b
structure Lies (B:Nat) (ρ:Rho) (w:World) (h:List (Id×AO)):Prop where
 obj:∀o x,lkH h o=some x→RO B ρ w (okB ρ (lkH h) w) o x
 sep:∀o o' x x' b,lkH h o=some x→lkH h o'=some x'→o≠o'→Own ρ o b→¬Own ρ o' b
 lt:∀o x b,lkH h o=some x→Own ρ o b→b < w.heap.size
def SpecG (P:Program)(f:FuncId)(xs:List AV)(h0:List (Id×AO))(r:AV)(h1:List (Id×AO)):Prop:=
 Enters P f∧∀(w:World) (vs:Array Value) (ρ:Rho),RVs w.heap.size ρ w (okB ρ (lkH h0) w) vs.toList xs→Lies w.heap.size ρ w h0→(∀b,(w.heap.size≤b∨Ms ρ h0 b)→ρ.al b)→
  Calls P f vs w fun e w'=>∃v ρ',e= .returned v∧Keep w.heap.size (Ms ρ h0) w w'∧(∀o,(lkH h0 o).isSome=true→ρ' o=ρ o)∧ρ'.al=ρ.al∧
   RV w.heap.size ρ' w' (okB ρ' (lkH h1) w') v r∧Lies w.heap.size ρ' w' h1∧∀o x b,lkH h1 o=some x→Own ρ' o b→w.heap.size≤b∨Ms ρ h0 b
def Spec (P:Program)(f:FuncId)(ts:List TV)(r:Res):Prop:=
 Enters P f∧∀(w:World) (vs:Array Value),RTVs w (fun b=>b < w.heap.size) vs.toList ts→
  Calls P f vs w fun e w'=>∃v,e= .returned v∧Below w.heap.size w w'∧ResOK w.heap.size w' v r
structure Eff where
 v:AV
 us:List (Id×Option AO)
 new:Option Nat
 R:List Id
abbrev Eff.val (v:AV)(R:List Id):Eff:=⟨v,[],none,R⟩
abbrev tI (k:IntKind)(n:Int):AV:= .r (.c (.t (.int k n)))
abbrev tB (b:Bool):AV:= .r (.c (.t (.bool b)))
abbrev tS (s:List UInt8):AV:= .r (.c (.t (.str s)))
def ifB (b:Bool)(X Y:Prop):Prop:=
 match b with
 | true=>X
 | false=>Y
theorem ifB_intro {b:Bool}{X Y:Prop}(h1:b=true→X)(h2:b=false→Y):ifB b X Y:=by
 cases b
 ·exact h2 rfl
 ·exact h1 rfl
theorem ifB_mono {b:Bool}{X Y X' Y':Prop}(h1:X→X')(h2:Y→Y')(h:ifB b X Y):ifB b X' Y':=by
 cases b
 ·exact h2 h
 ·exact h1 h
def cut {α:Type}:Nat→Nat→List α→Option (List α)
 | 0,0,_=>some []
 | 0,n+1,x::r=>(cut 0 n r).map (x::·)
 | i+1,n,_::r=>cut i n r
 | _,_,_=>none
def lay {α:Type}:Nat→List α→List α→Option (List α)
 | 0,[],r=>some r
 | 0,x::xs,_::r=>(lay 0 xs r).map (x::·)
 | i+1,xs,y::r=>(lay i xs r).map (y::·)
 | _,_,_=>none
def mkC (fr:Bool):Tr→AC
 | .lst sz rows=>(match fr with
   | true=> .f (.lst sz rows)
   | false=> .t (.lst sz rows))
 | x=> .t x
def DC.tr:DC→Tr
 | .t x=>x
 | .d x=>x
def DC.ld:DC→AC
 | .t x=> .t x
 | .d x=>(match x with
   | .lst _ _=> .opq
   | x=> .t x)
def flat (rows:List (List Tr)):Prop:=∀row∈rows,∀x∈row,∀sz rs,x≠.lst sz rs
def deepRows (rows:List (List Tr)):List (List DC):=rows.map (·.map .d)
def memI (t:Id)(l:List Id):Bool:=l.any (idEq t)
def nodupI:List Id→Bool
 | []=>true
 | o::l=>!memI o l && nodupI l
def ofConst:Value→AV
 | .int k n=>tI k n
 | .bool b=>tB b
 | .string s=>tS s.data.toList
 | .slice none 0 0=> .r (.c (.nils 0))
 | .pointer none=> .r (.c .nilp)
 | _=> .unk
def evL (L:Nat→AV):Operand→AV
 | .tmp t=>L t
 | .const v=>ofConst v
 | _=> .unk
def frz (H:Id→Option AO):List AC→Option (List Tr×Bool×List Id)
 | []=>some ([],true,[])
 | .t x::r=>(match frz H r with
   | some (ts,fr,ids)=>(match x with
    | .lst sz rows=>some (.lst sz rows::ts,false,ids)
    | x=>some (x::ts,fr,ids))
   | none=>none)
 | .f x::r=>(match frz H r with
   | some (ts,fr,ids)=>some (x::ts,fr,ids)
   | none=>none)
 | .nils sz::r=>(match frz H r with
   | some (ts,fr,ids)=>some (.lst sz []::ts,fr,ids)
   | none=>none)
 | .own o::r=>(match H o,frz H r with
   | some (.arr fr' sz rows),some (ts,fr,ids)=>some (.lst sz rows::ts,fr' && fr,o::ids)
   | _,_=>none)
 | _::_=>none
abbrev frzD (H:Id→Option AO):List AC→(List DC→List Id→Prop)→Prop
 | [],K=>K [] []
 | c::r,K=>(match c with
   | .t x=>(match x with
    | .lst sz rows=>frzD H r fun cs ids=>K (.t (.lst sz rows)::cs) ids
    | x=>frzD H r fun cs ids=>K (.d x::cs) ids)
   | .f x=>(match x with
    | .lst sz rows=>frzD H r fun cs ids=>K (.t (.lst sz rows)::cs) ids
    | x=>frzD H r fun cs ids=>K (.d x::cs) ids)
   | .nils sz=>frzD H r fun cs ids=>K (.d (.lst sz [])::cs) ids
   | .own o=>(match H o with
    | some (.arr _ sz rows)=>flat rows∧frzD H r fun cs ids=>K (.d (.lst sz rows)::cs) (o::ids)
    | some (.dar sz rows none)=>∃rows',rows=deepRows rows'∧frzD H r fun cs ids=>K (.d (.lst sz rows')::cs) (o::ids)
    | _=>False)
   | _=>False)
def arith (op:BinOp)(k:IntKind)(a b:Int)(K:AV→Prop):Prop:=
 match op with
 | .add=>K (tI k (k.wrap (a+b)))
 | .sub=>K (tI k (k.wrap (a - b)))
 | .mul=>K (tI k (k.wrap (a * b)))
 | .quo=>b≠0∧K (tI k (k.wrap (a.tdiv b)))
 | .rem=>b≠0∧K (tI k (a.tmod b))
 | .and=>K (tI k (k.wrap ((BitVec.ofInt k.bits a &&& BitVec.ofInt k.bits b).toNat)))
 | .or=>K (tI k (k.wrap ((BitVec.ofInt k.bits a ||| BitVec.ofInt k.bits b).toNat)))
 | .xor=>K (tI k (k.wrap ((BitVec.ofInt k.bits a ^^^ BitVec.ofInt k.bits b).toNat)))
 | .eql=>K (tB (a==b))
 | .neq=>K (tB (a !=b))
 | .lss=>K (tB (decide (a < b)))
 | .leq=>K (tB (decide (a≤b)))
 | .gtr=>K (tB (decide (a > b)))
 | .geq=>K (tB (decide (a≥b)))
 | _=>False
def shift (op:BinOp)(k:IntKind)(a b:Int)(K:AV→Prop):Prop:=
 match op with
 | .shl=>0≤b∧K (tI k (k.wrap (a * 2 ^ (min b.toNat k.bits))))
 | .shr=>0≤b∧K (tI k (a.fdiv (2 ^ (min b.toNat k.bits))))
 | _=>False
def semBin (op:BinOp)(x y:AV)(K:AV→Prop):Prop:=
 match x,y with
 | .r (.c (.t (.int k a))),.r (.c (.t (.int k' b)))=>
  (
   match op with
   | .shl=>shift .shl k a b K
   | .shr=>shift .shr k a b K
   | op=>k=k'∧arith op k a b K)
 | .r (.c (.t (.str a))),.r (.c (.t (.str b)))=>
  (
   match op with
   | .add=>((a.length+b.length:Nat):Int)≤9223372036854775807∧K (tS (a++b))
   | .eql=>K (tB (a==b))
   | .neq=>K (tB (!(a==b)))
   | _=>False)
 | _,_=>False
def semBool (op:BinOp)(x y:AV)(K:AV→Prop):Prop:=
 match x,y with
 | .r (.c (.t (.bool a))),.r (.c (.t (.bool b)))=>
  (
   match op with
   | .eql=>K (tB (a==b))
   | .neq=>K (tB (!(a==b)))
   | _=>False)
 | _,_=>False
def plainS (Γ:Env)(t:TypeId):Option Nat:=
 match Γ.get t with
 | some ti=>(match ti.agg,ti.kind,ti.bool,ti.str with
   | false,some _,_,_=>some 0
   | false,none,true,_=>some 1
   | false,none,false,true=>some 2
   | _,_,_,_=>none)
 | none=>none
abbrev eqCs (Γ:Env):Nat→List (Nat×Nat×TypeId)→List AC→List AC→(Bool→Prop)→Prop
 | _,[],[],[],K=>K true
 | i,(off,_,ft)::fs,x::xs,y::ys,K=>(match Nat.beq off i,plainS Γ ft,x,y with
   | true,some 0,.t (.int k a),.t (.int k' b)=>k=k'∧eqCs Γ (i+1) fs xs ys fun r=>K ((a==b) && r)
   | true,some 1,.t (.bool a),.t (.bool b)=>eqCs Γ (i+1) fs xs ys fun r=>K ((a==b) && r)
   | true,some 2,.t (.str a),.t (.str b)=>eqCs Γ (i+1) fs xs ys fun r=>K ((a==b) && r)
   | _,_,_,_=>False)
 | _,_,_,_,_=>False
def eqTyOk (P:Program)(T:TypeId):Bool:=
 match P.underlying T with
 | some (.struct fs)=>fs.toList.all (fun f=>f.name != "_") && !P.stoodInHeld T && !P.eqGuardType P.depth T
 | _=>false
def semEqS (Γ:Env)(fs:List (Nat×Nat×TypeId))(op:BinOp)(xs:List AC)(y:AV)(K:AV→Prop):Prop:=
 match y with
 | .r (.agg ys)=>(match op with
   | .eql=>eqCs Γ 0 fs xs ys fun r=>K (tB r)
   | .neq=>eqCs Γ 0 fs xs ys fun r=>K (tB (!r))
   | _=>False)
 | _=>False
def semUn (op:UnOp)(x:AV)(K:AV→Prop):Prop:=
 match op,x with
 | .not,.r (.c (.t (.bool b)))=>K (tB (!b))
 | .neg,.r (.c (.t (.int k n)))=>K (tI k (k.wrap (0 - n)))
 | _,_=>False
def semLoad (deep:Bool)(nm:Nat)(ti:TI)(x:AV)(H:Id→Option AO)(K:Eff→Prop):Prop:=
 match x with
 | .r (.c (.ptr o off))=>
  (
   match H o with
   | some (.box cells)=>
    (
    match ti.agg with
    | true=>(match cut off ti.size cells with
     | some cs=>K (.val (.r (.agg cs)) [o])
     | none=>False)
    | false=>(match cut off 1 cells with
     | some [c]=>K (.val (.r (.c c)) [o])
     | _=>False))
   | _=>False)
 | .el o sz i off=>
  (
   match H o with
   | some (.arr fr sz' rows)=>sz'=sz∧∃row,rows[i]?=some row∧
    (
    match ti.agg with
    | true=>(match cut off ti.size row with
     | some cs=>K (.val (.r (.agg (cs.map (mkC fr)))) [o])
     | none=>False)
    | false=>(match cut off 1 row with
     | some [c]=>K (.val (.r (.c (mkC fr c))) [o])
     | _=>False))
   | some (.dar sz' rows none)=>sz'=sz∧∃row,rows[i]?=some row∧
    (
    match ti.agg with
    | true=>(match cut off ti.size row with
     | some cs=>K (.val (.r (.agg (cs.map DC.ld))) [o])
     | none=>False)
    | false=>(match cut off 1 row with
     | some [.d (.lst s rs)]=>(match deep with
       | true=>K ⟨.r (.c (.own (nm,0,0))),[(o,some (.dar sz rows (some (i,off,(nm,0,0))))),((nm,0,0),some (.dar s (deepRows rs) none))],some nm,[o]⟩
       | false=>flat rs∧K ⟨.r (.c (.own (nm,0,0))),[(o,some (.dar sz rows (some (i,off,(nm,0,0))))),((nm,0,0),some (.arr false s rs))],some nm,[o]⟩)
     | some [c]=>K (.val (.r (.c c.ld)) [o])
     | _=>False))
   | _=>False)
 | .ro fr row off=>
  (
   match ti.agg with
   | true=>(match cut off ti.size row with
    | some cs=>K (.val (.r (.agg (cs.map (mkC fr)))) [])
    | none=>False)
   | false=>(match cut off 1 row with
    | some [c]=>K (.val (.r (.c (mkC fr c))) [])
    | _=>False))
 | _=>False
def semStore (ti:TI)(x y:AV)(H:Id→Option AO)(K:Eff→Prop):Prop:=
 match y with
 | .r ar=>
  (
   match Nat.beq ar.cells.length ti.size with
   | true=>
    (
    match x with
    | .r (.c (.ptr o off))=>
     (
      match H o with
      | some (.box cells)=>
       (
       match lay off ar.cells cells with
       | some cells'=>K ⟨.unk,[(o,some (.box cells'))],none,[o]⟩
       | none=>False)
      | _=>False)
    | .el o sz' i off=>
     (
      match H o with
      | some (.arr fr sz rows)=>(match frz H ar.cells with
       | some (ts,fr',ids)=>sz=sz'∧o∉ids∧∃row,rows[i]?=some row∧
        (
         match lay off ts row with
         | some row'=>K ⟨.unk,ids.map (fun r=>(r,none))++[(o,some (.arr (fr && fr') sz (rows.set i row')))],none,o::ids⟩
         | none=>False)
       | none=>False)
      | some (.dar sz rows none)=>sz=sz'∧∃row,rows[i]?=some row∧frzD H ar.cells fun cs ids=>nodupI (o::ids)=true∧
       (
       match lay off cs row with
       | some row'=>K ⟨.unk,ids.map (fun r=>(r,none))++[(o,some (.dar sz (rows.set i row') none))],none,o::ids⟩
       | none=>False)
      | some (.dar sz rows (some (i2,off2,_)))=>sz=sz'∧i=i2∧off=off2∧ar.cells.length=1∧∃row,rows[i]?=some row∧frzD H ar.cells fun cs ids=>nodupI (o::ids)=true∧
       (
       match lay off cs row with
       | some row'=>K ⟨.unk,ids.map (fun r=>(r,none))++[(o,some (.dar sz (rows.set i row') none))],none,o::ids⟩
       | none=>False)
      | _=>False)
    | _=>False)
   | false=>False)
 | _=>False
def semFieldAddr (off:Nat)(x:AV)(K:AV→Prop):Prop:=
 match x with
 | .r (.c (.ptr o k))=>K (.r (.c (.ptr o (k+off))))
 | .el o sz i k=>K (.el o sz i (k+off))
 | .ro fr row k=>K (.ro fr row (k+off))
 | _=>False
def semIndexAddr (esz:Nat)(x i:AV)(H:Id→Option AO)(K:Eff→Prop):Prop:=
 match x,i with
 | .r (.c (.t (.lst sz rows))),.r (.c (.t (.int _ n)))=>sz=esz∧∃(j:Nat) (row:List Tr),n=(j:Int)∧rows[j]?=some row∧K (.val (.ro false row 0) [])
 | .r (.c (.f (.lst sz rows))),.r (.c (.t (.int _ n)))=>sz=esz∧∃(j:Nat) (row:List Tr),n=(j:Int)∧rows[j]?=some row∧K (.val (.ro true row 0) [])
 | .r (.c (.own o)),.r (.c (.t (.int _ n)))=>
  (
   match H o with
   | some (.arr _ sz rows)=>sz=esz∧∃j:Nat,n=(j:Int)∧j < rows.length∧K (.val (.el o esz j 0) [o])
   | some (.dar sz rows _)=>sz=esz∧∃j:Nat,n=(j:Int)∧j < rows.length∧K (.val (.el o esz j 0) [o])
   | _=>False)
 | .r (.c (.sub o k)),.r (.c (.t (.int _ n)))=>
  (
   match H o with
   | some (.arr _ sz rows)=>sz=esz∧∃j:Nat,n=(j:Int)∧j < k∧j < rows.length∧K (.val (.el o esz j 0) [o])
   | some (.dar sz rows _)=>sz=esz∧∃j:Nat,n=(j:Int)∧j < k∧j < rows.length∧K (.val (.el o esz j 0) [o])
   | _=>False)
 | _,_=>False
def semIndex (x i:AV)(K:AV→Prop):Prop:=
 match x,i with
 | .r (.c (.t (.str s))),.r (.c (.t (.int _ n)))=>∃(j:Nat) (b:UInt8),n=(j:Int)∧s[j]?=some b∧K (tI .u8 b.toNat)
 | _,_=>False
def bnd (d:Nat):Option AV→Nat→Prop
 | none,n=>n=d
 | some (.r (.c (.t (.int _ i)))),n=>i=(n:Int)
 | _,_=>False
def semSlice (esz:Nat)(x:AV)(lo hi:Option AV)(H:Id→Option AO)(K:Eff→Prop):Prop:=
 match x with
 | .r (.c (.t (.str s)))=>∃l h:Nat,bnd 0 lo l∧bnd s.length hi h∧l≤h∧h≤s.length∧K (.val (tS ((s.take h).drop l)) [])
 | .r (.c (.t (.lst sz rows)))=>sz=esz∧∃l h:Nat,bnd 0 lo l∧bnd rows.length hi h∧l≤h∧h≤rows.length∧K (.val (.r (.c (.t (.lst sz ((rows.take h).drop l))))) [])
 | .r (.c (.f (.lst sz rows)))=>sz=esz∧∃l h:Nat,bnd 0 lo l∧bnd rows.length hi h∧l≤h∧h≤rows.length∧K (.val (.r (.c (.f (.lst sz ((rows.take h).drop l))))) [])
 | .r (.c (.own o))=>
  (
   match H o with
   | some (.arr _ _ rows)=>
    (
    match lo with
    | none=>∃h:Nat,bnd rows.length hi h∧h≤rows.length∧K (.val (.r (.c (.sub o h))) [o])
    | some l=>False)
   | some (.dar _ rows _)=>
    (
    match lo with
    | none=>∃h:Nat,bnd rows.length hi h∧h≤rows.length∧K (.val (.r (.c (.sub o h))) [o])
    | some l=>False)
   | _=>False)
 | .r (.c (.sub o k))=>
  (
   match H o with
   | some (.arr _ _ rows)=>
    (
    match lo with
    | none=>∃h:Nat,bnd k hi h∧h≤k∧h≤rows.length∧K (.val (.r (.c (.sub o h))) [o])
    | some l=>False)
   | some (.dar _ rows _)=>
    (
    match lo with
    | none=>∃h:Nat,bnd k hi h∧h≤k∧h≤rows.length∧K (.val (.r (.c (.sub o h))) [o])
    | some l=>False)
   | _=>False)
 | _=>False
def semLen (x:AV)(H:Id→Option AO)(K:Eff→Prop):Prop:=
 match x with
 | .r (.c (.t (.lst _ rows)))=>K (.val (tI .i64 rows.length) [])
 | .r (.c (.f (.lst _ rows)))=>K (.val (tI .i64 rows.length) [])
 | .r (.c (.nils _))=>K (.val (tI .i64 0) [])
 | .r (.c (.own o))=>(match H o with
   | some (.arr _ _ rows)=>K (.val (tI .i64 rows.length) [o])
   | some (.dar _ rows _)=>K (.val (tI .i64 rows.length) [o])
   | _=>False)
 | .r (.c (.sub _ k))=>K (.val (tI .i64 k) [])
 | _=>False
def byteRow (b:UInt8):List Tr:=[.int .u8 b.toNat]
def srcRows (esz:Nat)(x:AV)(H:Id→Option AO)(K2:Bool→List (List Tr)→List Id→Prop):Prop:=
 match x with
 | .r (.c (.t (.str b)))=>esz=1∧K2 true (b.map byteRow) []
 | .r (.c (.nils _))=>K2 true [] []
 | .r (.c (.t (.lst sz rows)))=>sz=esz∧K2 false rows []
 | .r (.c (.f (.lst sz rows)))=>sz=esz∧K2 true rows []
 | .r (.c (.own o))=>(match H o with
   | some (.arr fr sz rows)=>sz=esz∧K2 fr rows [o]
   | _=>False)
 | .r (.c (.sub o k))=>(match H o with
   | some (.arr fr sz rows)=>sz=esz∧k≤rows.length∧K2 fr (rows.take k) [o]
   | _=>False)
 | _=>False
def fits (n bytes:Nat):Prop:=n * bytes≤140737488355328∧n≤9223372036854775807
def srcD (esz:Nat)(x:AV)(H:Id→Option AO)(K2:List (List DC)→List Id→List Id→Prop):Prop:=
 match x with
 | .r (.c (.own o))=>(match H o with
   | some (.dar sz rows none)=>sz=esz∧K2 rows [o] []
   | _=>srcRows esz x H fun _ rows R=>K2 (rows.map (·.map .t)) [] R)
 | x=>srcRows esz x H fun _ rows R=>K2 (rows.map (·.map .t)) [] R
def isDeep (H:Id→Option AO):AV→Bool
 | .r (.c (.own o))=>(match H o with
   | some (.dar _ _ none)=>true
   | _=>false)
 | _=>false
def semAppend (d esz bytes:Nat)(s x:AV)(H:Id→Option AO)(K:Eff→Prop):Prop:=
 match s with
 | .r (.c (.nils _))=>(match isDeep H x with
   | true=>srcD esz x H fun news rm R=>fits news.length bytes∧K ⟨.r (.c (.own (d,0,0))),rm.map (fun r=>(r,none))++[((d,0,0),some (.dar esz news none))],some d,rm++R⟩
   | false=>srcRows esz x H fun fr news R=>fits news.length bytes∧K ⟨.r (.c (.own (d,0,0))),[((d,0,0),some (.arr fr esz news))],some d,R⟩)
 | .r (.c (.own o))=>
  (
   match H o with
   | some (.arr fr sz rows)=>sz=esz∧srcRows esz x H fun fr' news R=>fits (rows.length+news.length) bytes∧o∉R∧
    K ⟨.r (.c (.own (d,0,0))),[(o,none),((d,0,0),some (.arr (fr && fr') esz (rows++news)))],some d,o::R⟩
   | some (.dar sz rows none)=>sz=esz∧srcD esz x H fun news rm R=>fits (rows.length+news.length) bytes∧memI o (rm++R)=false∧
    K ⟨.r (.c (.own (d,0,0))),(o::rm).map (fun r=>(r,none))++[((d,0,0),some (.dar esz (rows++news) none))],some d,o::(rm++R)⟩
   | _=>False)
 | .r (.c (.sub o k))=>
  (
   match H o with
   | some (.arr fr sz rows)=>sz=esz∧k≤rows.length∧srcRows esz x H fun fr' news R=>fits (k+news.length) bytes∧o∉R∧
    K ⟨.r (.c (.own (d,0,0))),[(o,none),((d,0,0),some (.arr (fr && fr') esz (rows.take k++news)))],some d,o::R⟩
   | some (.dar sz rows none)=>sz=esz∧k≤rows.length∧srcD esz x H fun news rm R=>fits (k+news.length) bytes∧memI o (rm++R)=false∧
    K ⟨.r (.c (.own (d,0,0))),(o::rm).map (fun r=>(r,none))++[((d,0,0),some (.dar esz (rows.take k++news) none))],some d,o::(rm++R)⟩
   | _=>False)
 | _=>False
def isBytes (Γ:Env)(ti:TI):Bool:=
 match ti.elem with
 | some e=>(match Γ.get e with
   | some te=>(match te.kind with
    | some .u8=>true
    | _=>false)
   | none=>false)
 | none=>false
def semConvert (Γ:Env)(src dst:TI)(d:Nat)(x:AV)(H:Id→Option AO)(K:Eff→Prop):Prop:=
 match x with
 | .r (.c (.t (.int _ n)))=>(match dst.kind with
   | some k=>K (.val (tI k (k.wrap n)) [])
   | none=>False)
 | .r (.c (.t (.str s)))=>(match dst.str with
   | true=>K (.val (tS s) [])
   | false=>(match src.str && isBytes Γ dst with
    | true=>s.length≤140737488355328∧K ⟨.r (.c (.own (d,0,0))),[((d,0,0),some (.arr true 1 (s.map byteRow)))],some d,[]⟩
    | false=>False))
 | y=>(match dst.str,isBytes Γ src with
   | true,true=>srcRows 1 y H fun _ rows R=>∃bs:List UInt8,rows=bs.map byteRow∧K (.val (tS bs) R)
   | _,_=>False)
abbrev semBuild (fs:List (Nat×Nat×TypeId))(zero:List AC):List (Nat×AV)→(List AC→Prop)→Prop
 | [],K=>K zero
 |(i,.r ar)::r,K=>(match fs[i]? with
   | some (off,sz,_)=>(match Nat.beq ar.cells.length sz,lay off ar.cells zero with
    | true,some z=>semBuild fs z r K
    | _,_=>False)
   | none=>False)
 | _,_=>False
abbrev semRows (H:Id→Option AO):Nat→List (Nat×AV)→(Bool→List (List Tr)→List Id→Prop)→Prop
 | _,[],K=>K true [] []
 | n,(i,.r ar)::r,K=>(match Nat.beq i n,frz H ar.cells with
   | true,some (ts,fr,ids)=>semRows H (n+1) r fun fr' rows ids'=>K (fr && fr') (ts::rows) (ids++ids')
   | _,_=>False)
 | _,_,_=>False
abbrev semRowsD (H:Id→Option AO):Nat→List (Nat×AV)→(List (List DC)→List Id→Prop)→Prop
 | _,[],K=>K [] []
 | n,(i,.r ar)::r,K=>(match Nat.beq i n with
   | true=>frzD H ar.cells fun cs ids=>semRowsD H (n+1) r fun rows ids'=>K (cs::rows) (ids++ids')
   | false=>False)
 | _,_,_=>False
def ownIn:List AC→Bool
 | []=>false
 | .own _::_=>true
 | _::r=>ownIn r
def ownInParts:List (Nat×AV)→Bool
 | []=>false
 |(_,.r ar)::r=>ownIn ar.cells || ownInParts r
 | _::r=>ownInParts r
def nilsIn:List AC→Bool
 | []=>false
 | .nils _::_=>true
 | _::r=>nilsIn r
def acTree (H:Id→Option AO):AC→Tr→Prop
 | .t x,y=>y=x
 | .f x,y=>y=x
 | .nils _,y=>∃sz,y= .lst sz []
 | .own o,y=>(match H o with
   | some (.arr _ sz rows)=>y= .lst sz rows
   | some (.dar sz rows none)=>y= .lst sz (rows.map (·.map DC.tr))
   | _=>False)
 | .sub o k,y=>(match H o with
   | some (.arr _ sz rows)=>y= .lst sz (rows.take k)
   | some (.dar sz rows none)=>y= .lst sz ((rows.take k).map (·.map DC.tr))
   | _=>False)
 | _,_=>False
def acTrees (H:Id→Option AO):List AC→List Tr→Prop
 | [],[]=>True
 | c::cs,t::ts=>acTree H c t∧acTrees H cs ts
 | _,_=>False
def argTree (H:Id→Option AO):AV→TV→Prop
 | .r (.c x),.c t=>acTree H x t
 | .r (.agg cs),.agg ts=>acTrees H cs ts
 | _,_=>False
def argTrees (H:Id→Option AO):List AV→List TV→Prop
 | [],[]=>True
 | x::xs,t::ts=>argTree H x t∧argTrees H xs ts
 | _,_=>False
def semExtract (i:Nat)(x:AV)(K:AV→Prop):Prop:=
 match x with
 | .tup xs=>(match xs[i]? with
   | some a=>K (.r a)
   | none=>False)
 | _=>False
def semField (off:Nat)(ti:TI)(x:AV)(K:AV→Prop):Prop:=
 match x with
 | .r (.agg cs)=>
  (
   match ti.agg with
   | true=>(match cut off ti.size cs with
    | some xs=>K (.r (.agg xs))
    | none=>False)
   | false=>(match cut off 1 cs with
    | some [c]=>K (.r (.c c))
    | _=>False))
 | _=>False
def semMake (d esz bytes:Nat)(zero:List AC)(l c:AV)(K:Eff→Prop):Prop:=
 match l,c,frz (fun _=>none) zero with
 | .r (.c (.t (.int _ n))),.r (.c (.t (.int _ m))),some (z,_,_)=>∃j:Nat,n=(j:Int)∧m=(j:Int)∧j≤9223372036854775807∧j * bytes≤140737488355328∧
   (
    match nilsIn zero with
    | false=>K ⟨.r (.c (.own (d,0,0))),[((d,0,0),some (.arr true esz (List.replicate j z)))],some d,[]⟩
    | true=>K ⟨.r (.c (.own (d,0,0))),[((d,0,0),some (.dar esz (List.replicate j (z.map .d)) none))],some d,[]⟩)
 | _,_,_=>False
def deepE (Γ:Env)(ti:TI):Bool:=
 match ti.elem with
 | some e=>(match Γ.get e with
   | some te=>nilsIn te.zero
   | none=>false)
 | none=>false
def setH (H:Id→Option AO)(o:Id)(x:Option AO):Id→Option AO:=fun q=>bif idEq q o then x else H q
def closeAt (H:Id→Option AO)(x:AV)(K:(Id→Option AO)→List (Id×Option AO)→List Id→Prop):Prop:=
 match x with
 | .el o _ _ _=>(match H o with
   | some (.dar sz rows (some (i,off,n)))=>(match idEq n o,H n with
    | false,some (.arr _ t rs)=>flat rs∧∃row,rows[i]?=some row∧off < sz∧
      K (setH (setH H n none) o (some (.dar sz (rows.set i (row.set off (.d (.lst t rs)))) none))) [(n,none),(o,some (.dar sz (rows.set i (row.set off (.d (.lst t rs)))) none))] [o,n]
    | false,some (.dar t rs none)=>∃rs',rs=deepRows rs'∧∃row,rows[i]?=some row∧off < sz∧
      K (setH (setH H n none) o (some (.dar sz (rows.set i (row.set off (.d (.lst t rs')))) none))) [(n,none),(o,some (.dar sz (rows.set i (row.set off (.d (.lst t rs')))) none))] [o,n]
    | false,none=>K H [] []
    | _,_=>False)
   | _=>K H [] [])
 | _=>K H [] []
def lkI:List (Id×Id)→Id→Option Id
 | [],_=>none
 |(i,x)::r,o=>bif idEq o i then some x else lkI r o
def bindI (θ:List (Id×Id))(q o:Id)(K:List (Id×Id)→Prop):Prop:=
 match lkI θ q with
 | some o'=>idEq o o'=true∧K θ
 | none=>K ((q,o)::θ)
def maC (H:Id→Option AO)(θ:List (Id×Id))(bw:List Id):AC→AC→(List (Id×Id)→List Id→Prop)→Prop
 | .own o,.own q,K=>bindI θ q o fun θ=>K θ bw
 | .ptr o n,.ptr q n',K=>n=n'∧bindI θ q o fun θ=>K θ bw
 | .nilp,.nilp,K=>K θ bw
 | .mpv o,.mpv q,K=>bindI θ q o fun θ=>K θ bw
 | .nils _,.nils _,K=>K θ bw
 | .own o,.t y,K=>acTree H (.own o) y∧K θ (o::bw)
 | .sub o k,.t y,K=>acTree H (.sub o k) y∧K θ (o::bw)
 | x,.t y,K=>acTree H x y∧K θ bw
 | _,.opq,K=>K θ bw
 | _,_,_=>False
abbrev maCs (H:Id→Option AO)(θ:List (Id×Id))(bw:List Id):List AC→List AC→(List (Id×Id)→List Id→Prop)→Prop
 | [],[],K=>K θ bw
 | x::xs,y::ys,K=>maC H θ bw x y fun θ bw=>maCs H θ bw xs ys K
 | _,_,_=>False
def maV (H:Id→Option AO)(θ:List (Id×Id))(bw:List Id):AV→AV→(List (Id×Id)→List Id→Prop)→Prop
 | .r (.c x),.r (.c y),K=>maC H θ bw x y K
 | .r (.agg xs),.r (.agg ys),K=>maCs H θ bw xs ys K
 | _,_,_=>False
abbrev maVs (H:Id→Option AO)(θ:List (Id×Id))(bw:List Id):List AV→List AV→(List (Id×Id)→List Id→Prop)→Prop
 | [],[],K=>K θ bw
 | x::xs,y::ys,K=>maV H θ bw x y fun θ bw=>maVs H θ bw xs ys K
 | _,_,_=>False
abbrev maO (H:Id→Option AO)(θ:List (Id×Id))(bw:List Id):List (Id×AO)→(List (Id×Id)→List Id→Prop)→Prop
 | [],K=>K θ bw
 |(q,y)::l,K=>(match lkI θ q with
   | some o=>(match H o with
    | some (.box cs)=>(match y with
      | .box ds=>maCs H θ bw cs ds fun θ bw=>maO H θ bw l K
      | _=>False)
    | some (.arr _ sz rows)=>(match y with
      | .arr fr' sz' rows'=>fr'=false∧sz=sz'∧rows=rows'∧maO H θ bw l K
      | _=>False)
    | some (.dar sz rows none)=>(match y with
      | .dar sz' rows' none=>sz=sz'∧rows=rows'∧maO H θ bw l K
      | _=>False)
    | some (.mp kk es)=>(match y with
      | .mp kk' es'=>kk=kk'∧es=es'∧maO H θ bw l K
      | _=>False)
    | _=>False)
   | none=>False)
def okI (θ:List (Id×Id))(bw:List Id)(h0:List (Id×AO)):Bool:=
 nodupI (θ.map (·.2)) && nodupI (θ.map (·.1)) && nodupI (h0.map (·.1)) && θ.all (fun p=>memI p.1 (h0.map (·.1)) && !memI p.2 bw) && h0.all (fun p=>memI p.1 (θ.map (·.1)))
def reI (θ:List (Id×Id))(nm:Nat)(q:Id):Id:=
 match lkI θ q with
 | some o=>o
 | none=>(nm,q.2)
def AC.re (θ:List (Id×Id))(nm:Nat):AC→AC
 | .own q=> .own (reI θ nm q)
 | .sub q k=> .sub (reI θ nm q) k
 | .ptr q k=> .ptr (reI θ nm q) k
 | .mpv q=> .mpv (reI θ nm q)
 | x=>x
def reCs (θ:List (Id×Id))(nm:Nat):List AC→List AC
 | []=>[]
 | c::cs=>c.re θ nm::reCs θ nm cs
def AR.re (θ:List (Id×Id))(nm:Nat):AR→AR
 | .c x=> .c (x.re θ nm)
 | .agg cs=> .agg (reCs θ nm cs)
def reRs (θ:List (Id×Id))(nm:Nat):List AR→List AR
 | []=>[]
 | c::cs=>c.re θ nm::reRs θ nm cs
def AV.re (θ:List (Id×Id))(nm:Nat):AV→AV
 | .r x=> .r (x.re θ nm)
 | .tup xs=> .tup (reRs θ nm xs)
 | _=> .unk
def AO.re (θ:List (Id×Id))(nm:Nat):AO→AO
 | .arr fr sz rows=> .arr fr sz rows
 | .box cs=> .box (reCs θ nm cs)
 | .dar sz rows hole=> .dar sz rows hole
 | .mp kk es=> .mp kk es
def newC:AC→Bool
 | .t x=>(match x with
   | .lst _ _=>false
   | _=>true)
 | _=>true
def newCs:List AC→Bool
 | []=>true
 | c::cs=>newC c && newCs cs
def newR:AR→Bool
 | .c x=>newC x
 | .agg cs=>newCs cs
def newRs:List AR→Bool
 | []=>true
 | c::cs=>newR c && newRs cs
def newV:AV→Bool
 | .r x=>newR x
 | .tup xs=>newRs xs
 | _=>false
noncomputable def allD (rows:List (List DC)):Bool:=@decide (∃rs,rows=deepRows rs) (Classical.propDecidable _)
theorem allD_deep (rs:List (List Tr)):allD (deepRows rs)=true:=by
 unfold allD
 exact @decide_eq_true _ (Classical.propDecidable _) ⟨rs,rfl⟩
theorem allD_of {rows:List (List DC)}(h:allD rows=true):∃rs,rows=deepRows rs:=by
 unfold allD at h
 exact @of_decide_eq_true _ (Classical.propDecidable _) h
attribute [irreducible] allD
noncomputable def newO:List (Id×AO)→Bool
 | []=>true
 |(_,.dar _ rows none)::l=>newO l && allD rows
 |(_,.box cs)::l=>newCs cs && newO l
 |(_,.arr true _ _)::l=>newO l
 |(_,.mp _ _)::l=>newO l
 | _=>false
def okN (h0:List (Id×AO))(q:Id):Bool:=memI q (h0.map (·.1)) || Nat.beq q.1 1
def noHole:AO→Bool
 | .dar _ _ (some _)=>false
 | _=>true
def okJ (h0:List (Id×AO))(r:AV)(h1:List (Id×AO)):Bool:=nodupI (h1.map (·.1)) && h1.all (fun p=>okN h0 p.1 && noHole p.2 && p.2.ids.all (okN h0)) && r.ids.all (okN h0) && h0.all (fun p=>Nat.beq p.1.1 0)
def usG (θ:List (Id×Id))(nm:Nat)(h1:List (Id×AO)):List (Id×Option AO):=(θ.map fun p=>(p.2,none))++(h1.map fun p=>(reI θ nm p.1,some (p.2.re θ nm)))
def semG (P:Program)(f:FuncId)(nm:Nat)(args:List AV)(H:Id→Option AO)(K:Eff→Prop):Prop:=
 ∃xs h0 r h1,SpecG P f xs h0 r h1∧maVs H [] [] args xs fun θ bw=>maO H θ bw h0 fun θ bw=>
  (okI θ bw h0 && okJ h0 r h1 && (bw.isEmpty || (newV r && newO h1)))=true∧K ⟨r.re θ nm,usG θ nm h1,some nm,(θ.map (·.2))++(bw++args.flatMap AV.ids)⟩
def Res.us (d:Nat)(r:Res):List (Id×Option AO):=(r.os d).map fun p=>(p.1,some p.2)
def mpFind (k:Tr→Bool):List (Tr×Int)→Option Int
 | []=>none
 |(q,v)::r=>bif k q then some v else mpFind k r
def mpSet (k:Tr→Bool)(key:Tr)(v:Int):List (Tr×Int)→List (Tr×Int)
 | []=>[(key,v)]
 |(q,x)::r=>bif k q then(q,v)::r else(q,x)::mpSet k key v r
def mpCut (k:Tr→Bool):List (Tr×Int)→List (Tr×Int)
 | []=>[]
 |(q,x)::r=>bif k q then r else(q,x)::mpCut k r
def keyEq:Tr→Tr→Bool
 | .int _ a,.int _ b=>a==b
 | .str a,.str b=>a==b
 | _,_=>false
def mpGet (es:List (Tr×Int))(k:Tr):Option Int:=mpFind (keyEq k) es
def mpPut (es:List (Tr×Int))(k:Tr)(v:Int):List (Tr×Int):=mpSet (keyEq k) k v es
def mpDel (es:List (Tr×Int))(k:Tr):List (Tr×Int):=mpCut (keyEq k) es
def mpVal:Option Int→Int
 | some v=>v
 | none=>0
def mapKind (Γ:Env)(T:TypeId):Option (Option IntKind):=
 match Γ.get T with
 | some ti=>ti.map
 | none=>none
def semLookup (Γ:Env)(T:TypeId)(x k:AV)(c:Bool)(H:Id→Option AO)(K:Eff→Prop):Prop:=
 match x,k with
 | .r (.c (.mpv o)),.r (.c (.t key))=>(match H o with
   | some (.mp kk es)=>mapKind Γ T=some kk∧keyFit kk key∧(match c with
    | true=>K (.val (.tup [.c (.t (.int .i64 (mpVal (mpGet es key)))),.c (.t (.bool (mpGet es key).isSome))]) [o])
    | false=>K (.val (tI .i64 (mpVal (mpGet es key))) [o]))
   | _=>False)
 | _,_=>False
def semMapSet (Γ:Env)(T:TypeId)(x k v:AV)(H:Id→Option AO)(K:Eff→Prop):Prop:=
 match x,k,v with
 | .r (.c (.mpv o)),.r (.c (.t key)),.r (.c (.t (.int .i64 n)))=>(match H o with
   | some (.mp kk es)=>mapKind Γ T=some kk∧keyFit kk key∧K ⟨.unk,[(o,some (.mp kk (mpPut es key n)))],none,[o]⟩
   | _=>False)
 | _,_,_=>False
def semMapDel (Γ:Env)(T:TypeId)(x k:AV)(H:Id→Option AO)(K:Eff→Prop):Prop:=
 match x,k with
 | .r (.c (.mpv o)),.r (.c (.t key))=>(match H o with
   | some (.mp kk es)=>mapKind Γ T=some kk∧keyFit kk key∧K ⟨.unk,[(o,some (.mp kk (mpDel es key)))],none,[o]⟩
   | _=>False)
 | _,_=>False
def sem (P:Program)(Γ:Env)(nm:Nat)(o:Oper)(ev:Operand→AV)(H:Id→Option AO)(K:Eff→Prop):Prop:=
 match o.op with
 | .move x=>K (.val (ev x) [])
 | .assign x=>K (.val (ev x) [])
 | .pick c a b=>(match ev c with
   | .r (.c (.t (.bool t)))=>ifB t (K (.val (ev a) [])) (K (.val (ev b) []))
   | _=>False)
 | .alloc T=>(match o.dst,Γ.get T with
   | some d,some ti=>K ⟨.r (.c (.ptr (d,0,0) 0)),[((d,0,0),some (.box ti.zero))],some d,[]⟩
   | _,_=>False)
 | .box _ x=>(match o.dst,ev x with
   | some d,.r ar=>K ⟨.r (.c (.ptr (d,0,0) 0)),[((d,0,0),some (.box ar.cells))],some d,[]⟩
   | _,_=>False)
 | .load T x=>(match Γ.get T with
   | some ti=>closeAt H (ev x) fun H us R=>semLoad (deepE Γ ti) nm ti (ev x) H fun e=>K ⟨e.v,us++e.us,e.new,R++e.R⟩
   | none=>False)
 | .store T x y=>(match Γ.get T with
   | some ti=>closeAt H (ev x) fun H us R=>semStore ti (ev x) (ev y) H fun e=>K ⟨e.v,us++e.us,e.new,R++e.R⟩
   | none=>False)
 | .fieldAddr T x f=>(match Γ.get T with
   | some ti=>(match ti.fields[f]? with
    | some (off,_,_)=>semFieldAddr off (ev x) fun v=>K (.val v [])
    | none=>False)
   | none=>False)
 | .indexAddr T x i=>(match Γ.get T with
   | some ti=>(match ti.elem with
    | some e=>(match Γ.get e with
      | some te=>semIndexAddr te.size (ev x) (ev i) H K
      | none=>False)
    | none=>False)
   | none=>False)
 | .index T x i=>(match Γ.get T with
   | some ti=>(match ti.str with
    | true=>semIndex (ev x) (ev i) fun v=>K (.val v [])
    | false=>False)
   | none=>False)
 | .binOp op T x y _=>(match ev x with
   | .r (.c (.t (.bool _)))=>(match Γ.get T with
    | some ti=>(match ti.bool with
      | true=>semBool op (ev x) (ev y) fun v=>K (.val v [])
      | false=>False)
    | none=>False)
   | .r (.agg xs)=>(match Γ.get T with
    | some ti=>eqTyOk P T=true∧semEqS Γ ti.fields op xs (ev y) fun v=>K (.val v [])
    | none=>False)
   | _=>semBin op (ev x) (ev y) fun v=>K (.val v []))
 | .unOp op _ x=>semUn op (ev x) fun v=>K (.val v [])
 | .makeMap T none=>(match o.dst,mapKind Γ T with
   | some d,some kk=>K ⟨.r (.c (.mpv (d,0,0))),[((d,0,0),some (.mp kk []))],some d,[]⟩
   | _,_=>False)
 | .lookup T x k c=>semLookup Γ T (ev x) (ev k) c H K
 | .mapUpdate T x k v=>semMapSet Γ T (ev x) (ev k) (ev v) H K
 | .call {callee:= .builtin .delete,args:=⟨[x,k]⟩,argTypes:=⟨[T,_]⟩}=>semMapDel Γ T (ev x) (ev k) H K
 | .convert src dst x=>(match o.dst,Γ.get src,Γ.get dst with
   | some d,some ts,some td=>semConvert Γ ts td d (ev x) H K
   | _,_,_=>False)
 | .build T parts=>(match Γ.get T with
   | some ti=>(match ti.fields with
    | []=>False
    | fs=>semBuild fs ti.zero (parts.toList.map fun p=>(p.1,ev p.2)) fun cs=>K (.val (.r (.agg cs)) []))
   | none=>False)
 | .buildSlice T n parts=>(match o.dst,Γ.get T with
   | some d,some ti=>(match ti.elem with
    | some e=>(match Γ.get e with
      | some te=>(match Nat.beq parts.toList.length n with
       | true=>(match ownInParts (parts.toList.map fun p=>(p.1,ev p.2))with
         | false=>semRows H 0 (parts.toList.map fun p=>(p.1,ev p.2)) fun fr rows ids=>(∀r∈rows,r.length=te.size)∧n * te.size≤16777216∧K ⟨.r (.c (.own (d,0,0))),ids.map (fun r=>(r,none))++[((d,0,0),some (.arr fr te.size rows))],some d,ids⟩
         | true=>semRowsD H 0 (parts.toList.map fun p=>(p.1,ev p.2)) fun rows ids=>(∀r∈rows,r.length=te.size)∧n * te.size≤16777216∧nodupI ids=true∧K ⟨.r (.c (.own (d,0,0))),ids.map (fun r=>(r,none))++[((d,0,0),some (.dar te.size rows none))],some d,ids⟩)
       | false=>False)
      | none=>False)
    | none=>False)
   | _,_=>False)
 | .makeSlice T l c=>(match o.dst,Γ.get T with
   | some d,some ti=>(match ti.elem with
    | some e=>(match Γ.get e with
      | some te=>semMake d te.size te.bytes te.zero (ev l) (ev c) K
      | none=>False)
    | none=>False)
   | _,_=>False)
 | .slice T x lo hi none=>(match Γ.get T with
   | some ti=>(match ti.elem with
    | some e=>(match Γ.get e with
      | some te=>(match ev x with
       | .r (.c (.t (.str _)))=>False
       | _=>semSlice te.size (ev x) (lo.map ev) (hi.map ev) H K)
      | none=>False)
    | none=>(match ti.str with
      | true=>∃t,ev x=tS t∧semSlice 0 (ev x) (lo.map ev) (hi.map ev) H K
      | false=>False))
   | none=>False)
 | .field T x f=>(match Γ.get T with
   | some ti=>(match ti.fields[f]? with
    | some (off,_,ft)=>(match Γ.get ft with
      | some tf=>semField off tf (ev x) fun v=>K (.val v [])
      | none=>False)
    | none=>False)
   | none=>False)
 | .extract x i=>semExtract i (ev x) fun v=>K (.val v [])
 | .nilCheck x=>(match ev x with
   | .r (.c (.ptr o off))=>K (.val (.r (.c (.ptr o off))) [])
   | .el o sz i off=>K (.val (.el o sz i off) [])
   | .ro fr row off=>K (.val (.ro fr row off) [])
   | _=>False)
 | .call {callee:= .builtin .len,args:=⟨[x]⟩,argTypes:=⟨[T]⟩}=>(match Γ.get T with
   | some ti=>(match ti.str,ti.elem with
    | true,none=>∃b,ev x=tS b∧K (.val (tI .i64 b.length) [])
    | false,some _=>semLen (ev x) H K
    | _,_=>False)
   | none=>False)
 | .call {callee:= .builtin .append,args:=⟨[s,x]⟩,argTypes:=⟨[T,U]⟩}=>(match o.dst,Γ.get T,Γ.get U with
   | some d,some ti,some tu=>(match ti.elem,tu.kind with
    | some e,none=>(match Γ.get e with
      | some te=>semAppend d te.size te.bytes (ev s) (ev x) H K
      | none=>False)
    | _,_=>False)
   | _,_,_=>False)
 | .call {callee:= .builtin .min,args:=⟨[x,y]⟩,argTypes:=_}=>(match ev x,ev y with
   | .r (.c (.t (.int k a))),.r (.c (.t (.int _ b)))=>K (.val (tI k (if b < a then b else a)) [])
   | _,_=>False)
 | .call {callee:= .builtin .max,args:=⟨[x,y]⟩,argTypes:=_}=>(match ev x,ev y with
   | .r (.c (.t (.int k a))),.r (.c (.t (.int _ b)))=>K (.val (tI k (if b > a then b else a)) [])
   | _,_=>False)
 | .call {callee:= .value (.func f),args,argTypes:=_}=>(match o.dst with
   | some d=>(∃ts r,argTrees H (args.toList.map ev) ts∧Spec P f ts r∧K ⟨r.av d,r.us d,some d,((args.toList.map ev).flatMap AV.ids)⟩)∨semG P f nm (args.toList.map ev) H K
   | none=>(∃ts r,argTrees H (args.toList.map ev) ts∧Spec P f ts r∧K ⟨.unk,[],none,((args.toList.map ev).flatMap AV.ids)⟩)∨semG P f nm (args.toList.map ev) H K)
 | _=>False
end Go.Sim
namespace Go.Sim
open Go.RowKit
def zMatch:Value→AC→Bool
 | .int k n,.t (.int k' n')=>decide (k=k') && decide (n=n')
 | .bool b,.t (.bool b')=>b==b'
 | .string s,.t (.str l)=>s.data.toList.isEmpty && l.isEmpty
 | .slice none 0 0,.nils _=>true
 | .pointer none,.nilp=>true
 | .map none,.opq=>true
 | .nilIface,.opq=>true
 | .nilFunc,.opq=>true
 | _,_=>false
def zMatches:List Value→List AC→Bool
 | [],[]=>true
 | v::vs,c::cs=>zMatch v c && zMatches vs cs
 | _,_=>false
def dAgg:TypeDesc→Bool|.struct _=>true|.array _ _=>true|_=>false
def dKind:TypeDesc→Option IntKind|.int k=>some k|_=>none
def dStr:TypeDesc→Bool|.string=>true|_=>false
def dBool:TypeDesc→Bool|.bool=>true|_=>false
def dElem:TypeDesc→Option TypeId|.slice e=>some e|_=>none
def dMapK (P:Program):TypeDesc→Option (Option IntKind)
 | .map kt et=>(match P.info? et with
   | some i=>(match i.zero with
    | some (.int .i64 n)=>(match decide (n=0),P.underlying kt with
      | true,some (.int k)=>some (some k)
      | true,some .string=>some none
      | _,_=>none)
    | _=>none)
   | none=>none)
 | _=>none
def dFields (P:Program):TypeDesc→List (Nat×Nat×TypeId)→Bool
 | .struct fs,l=>decide (fs.toList.map (fun f=>(f.offset,P.cellsOf f.type,f.type))=l) && l.all fun f=>!Nat.beq f.2.1 0
 | _,l=>l.isEmpty
def TI.chk (P:Program)(t:TypeId)(ti:TI):Bool:=
 match P.info? t,P.underlying t with
 | some i,some d=>Nat.beq i.size ti.size && Nat.beq i.bytes ti.bytes && (dAgg d==ti.agg) && (match i.zero with|some z=>zMatches z.cells.toList ti.zero|none=>false) &&
   decide (dKind d=ti.kind) && (dStr d==ti.str) && (dBool d==ti.bool) && decide (dElem d=ti.elem) && dFields P d ti.fields && decide (dMapK P d=ti.map) && !Nat.beq ti.size 0 && Nat.beq ti.zero.length ti.size
 | _,_=>false
def Env.chk (P:Program):Env→Bool
 | []=>true
 |(t,ti)::r=>ti.chk P t && Env.chk P r
structure TI.Fit (P:Program) (t:TypeId) (ti:TI) (i:TypeInfo) (d:TypeDesc):Prop where
 info:P.info? t=some i
 und:P.underlying t=some d
 size:i.size=ti.size
 bytes:i.bytes=ti.bytes
 agg:dAgg d=ti.agg
 zero:∃z,i.zero=some z∧zMatches z.cells.toList ti.zero=true
 kind:dKind d=ti.kind
 str:dStr d=ti.str
 bool:dBool d=ti.bool
 elem:dElem d=ti.elem
 fields:dFields P d ti.fields=true
 map:dMapK P d=ti.map
 pos:ti.size≠0
 zlen:ti.zero.length=ti.size
theorem TI.Fit.field {P:Program}{t:TypeId}{ti:TI}{i:TypeInfo}{d:TypeDesc}(fit:ti.Fit P t i d){f off sz:Nat}{ft:TypeId}(h:ti.fields[f]?=some (off,sz,ft)):
  ∃fs F,d= .struct fs∧fs[f]?=some F∧F.offset=off∧F.type=ft∧P.cellsOf F.type=sz∧sz≠0∧fs.toList.map (fun f=>(f.offset,P.cellsOf f.type,f.type))=ti.fields:=by
 have ho:=fit.fields
 cases d <;> simp only[dFields]at ho <;> try(rw[List.isEmpty_iff]at ho;rw[ho]at h;simp at h)
 rename_i fs
 simp only[Bool.and_eq_true,decide_eq_true_eq,List.all_eq_true,Bool.not_eq_true']at ho
 have h':=h
 rw[←ho.1,List.getElem?_map,Option.map_eq_some_iff]at h'
 obtain⟨F,h1,h2⟩:=h'
 simp only[Prod.mk.injEq]at h2
 refine⟨fs,F,rfl,by simpa using h1,h2.1,h2.2.2,h2.2.1,fun e=>?_,ho.1⟩
 have:=ho.2 _ (List.mem_of_getElem? h)
 simp only[e]at this
 simp at this
theorem TI.fit {P:Program}{t:TypeId}{ti:TI}(h:ti.chk P t=true):∃i d,ti.Fit P t i d:=by
 unfold TI.chk at h
 split at h
 ·rename_i i d h1 h2
  simp only[Bool.and_eq_true,beq_iff_eq,Nat.beq_eq,decide_eq_true_eq,Bool.not_eq_true']at h
  obtain⟨⟨⟨⟨⟨⟨⟨⟨⟨⟨⟨a1,a2⟩,a3⟩,a4⟩,a5⟩,a6⟩,a7⟩,a8⟩,a9⟩,am⟩,a10⟩,a11⟩:=h
  refine⟨i,d,h1,h2,a1,a2,a3,?_,a5,a6,a7,a8,a9,am,?_,a11⟩
  ·split at a4
   ·rename_i z hz;exact⟨z,hz,a4⟩
   ·cases a4
  ·intro e;rw[e]at a10;simp at a10
 ·cases h
theorem Env.fit {P:Program}:∀{Γ:Env},Γ.chk P=true→∀{t:TypeId} {ti:TI},Γ.get t=some ti→∃i d,ti.Fit P t i d
 | [],_,t,ti,h=>by simp[Env.get]at h
 |(u,i)::r,hc,t,ti,h=>by
  simp only[Env.chk,Bool.and_eq_true]at hc
  simp only[Env.get]at h
  cases hb:Nat.beq u t with
  | true=>
   rw[hb]at h
   simp only[cond_true,Option.some.injEq]at h
   have:u=t:=by simpa using hb
   subst this;subst h
   exact TI.fit hc.1
  | false=>
   rw[hb]at h
   exact Env.fit hc.2 (by simpa using h)
theorem zMatches_ok {B:Nat}{ρ:Rho}{w:World}{ok:Nat→Prop}:∀{vs:List Value} {cs:List AC},zMatches vs cs=true→RCs B ρ w ok vs cs
 | [],[],_=>trivial
 | v::vs,c::cs,h=>by
  simp only[zMatches,Bool.and_eq_true]at h
  refine⟨?_,zMatches_ok h.2⟩
  have h1:=h.1
  unfold zMatch at h1
  split at h1
  ·simp only[Bool.and_eq_true,decide_eq_true_eq]at h1
   obtain⟨rfl,rfl⟩:=h1
   exact .int _ _
  ·simp only[beq_iff_eq]at h1;subst h1;exact .bool _
  ·rename_i s l
   simp only[Bool.and_eq_true,List.isEmpty_iff]at h1
   obtain⟨h2,rfl⟩:=h1
   have:s=⟨#[]⟩:=by
    obtain⟨d⟩:=s
    have:d=#[]:=by simpa using h2
    rw[this]
   subst this
   exact .str []
  ·rfl
  ·rfl
  ·exact⟨rfl,rfl⟩
  ·exact⟨rfl,rfl⟩
  ·exact⟨rfl,rfl⟩
  ·cases h1
 | [],_::_,h=>by simp[zMatches]at h
 | _::_,[],h=>by simp[zMatches]at h
theorem zMatches_ids {vs:List Value}:∀{cs:List AC},zMatches vs cs=true→cs.flatMap AC.ids=[]:=by
 induction vs with
 | nil=>intro cs h;cases cs with
  | nil=>rfl
  | cons c cs=>simp[zMatches]at h
 | cons v vs ih=>intro cs h;cases cs with
  | nil=>simp[zMatches]at h
  | cons c cs=>
   simp only[zMatches,Bool.and_eq_true]at h
   rw[List.flatMap_cons,ih h.2]
   have h1:=h.1
   unfold zMatch at h1
   split at h1 <;> first|rfl|cases h1
def putL (L:Nat→AV):Option Nat→AV→Nat→AV
 | some d,v=>fun t=>bif Nat.beq t d then v else L t
 | none,_=>L
def updH (H:Id→Option AO):List (Id×Option AO)→Id→Option AO
 | []=>H
 | p::r=>updH (fun o=>if o=p.1 then p.2 else H o) r
def F_.app (s:F_)(dst:Option Nat)(e:Eff):F_:=⟨putL s.L dst e.v,updH s.H e.us,fun n=>s.U n∨e.new=some n⟩
def Good (P:Program)(o:Oper)(ev:Operand→AV)(H:Id→Option AO)(e:Eff):Prop:=
 ∀(N B:Nat) (M:Nat→Prop) (w0:Start) (ρ:Rho) (s:F_) (a:Act) (w:World) (Q:Exit→Act→World→Prop) (K:Act→World→Prop),
  Conc N B M w0 ρ s a w→(∀x∈o.op.operands.toList,evL s.L x=ev x)→(∀id∈e.R,s.H id=H id)→(∀n,e.new=some n→¬s.U n)→(∀d,o.dst=some d→d < N)→
  (∀v w' ρ',Conc N B M w0 ρ' (s.app o.dst e) (a.put o.dst v) w'→K (a.put o.dst v) w')→o.wp P a w K Q
section
variable {P:Program} {N B:Nat} {M:Nat→Prop} {w0:Start} {ρ:Rho} {s:F_} {a:Act} {w:World} {o:Oper} {ev:Operand→AV} {H:Id→Option AO}
theorem ofConst_ok (v:Value){ok:Nat→Prop}:RV B ρ w ok v (ofConst v)∧(ofConst v).ids=[]:=by
 unfold ofConst
 split
 ·exact⟨RT.int _ _,rfl⟩
 ·exact⟨RT.bool _,rfl⟩
 ·rename_i s
  exact⟨RT.str s.data.toList,rfl⟩
 ·exact⟨rfl,rfl⟩
 ·exact⟨rfl,rfl⟩
 ·exact⟨trivial,rfl⟩
theorem Conc.eval (h:Conc N B M w0 ρ s a w)(x:Operand):RV B ρ w (okB ρ s.H w) (a.eval x) (evL s.L x)∧∀id∈(evL s.L x).ids,s.U id.1:=by
 cases x with
 | tmp t=>exact⟨h.slot t,h.usedL t⟩
 | const v=>exact⟨(ofConst_ok v).1,by show ∀id∈(ofConst v).ids,_;rw[(ofConst_ok (B:=B) (ρ:=ρ) (w:=w) v (ok:=okB ρ s.H w)).2];simp⟩
 | global g=>exact⟨trivial,by simp[evL,AV.ids]⟩
 | func f=>exact⟨trivial,by simp[evL,AV.ids]⟩
theorem put_size (a:Act)(d:Option Nat)(v:Value):(a.put d v).tmps.size=a.tmps.size:=by cases d <;> simp[Act.put]
theorem put_defers (a:Act)(d:Option Nat)(v:Value):(a.put d v).defers=a.defers:=by cases d <;> rfl
theorem put_get (a:Act)(d:Nat)(v:Value)(t:Nat)(hd:d < a.tmps.size):(a.put (some d) v).tmps.getD t undef=if t=d then v else a.tmps.getD t undef:=by
 simp only[Act.put,Array.getD_eq_getD_getElem?,Array.getElem?_setIfInBounds]
 by_cases h:t=d
 ·subst h;simp[hd]
 ·rw[if_neg (fun e=>h e.symm),if_neg h]
theorem Conc.slots (h:Conc N B M w0 ρ s a w){dst:Option Nat}(hd:∀d,dst=some d→d < N){v:Value}{av:AV}{w':World}{ρ':Rho}{ok':Nat→Prop}{U':Nat→Prop}
  (hv:RV B ρ' w' ok' v av) (hi:∀id∈av.ids,U' id.1) (t:Nat):
  (putL s.L dst av t=s.L t∧(a.put dst v).tmps.getD t undef=a.tmps.getD t undef)∨(RV B ρ' w' ok' ((a.put dst v).tmps.getD t undef) (putL s.L dst av t)∧∀id∈(putL s.L dst av t).ids,U' id.1):=by
 cases dst with
 | none=>exact .inl ⟨rfl,rfl⟩
 | some d=>
  have hlt:=hd d rfl
  rw[put_get a d v t (by rw[h.size];exact hlt)]
  by_cases e:t=d
  ·subst e
   have:Nat.beq t t=true:=by simp
   simp only[putL,this,cond_true,if_true]
   exact .inr ⟨hv,hi⟩
  ·have:Nat.beq t d=false:=by cases hb:Nat.beq t d with|false=>rfl|true=>exact absurd (Nat.eq_of_beq_eq_true hb) e
   simp only[putL,this,cond_false,if_neg e]
   exact .inl ⟨trivial,trivial⟩
theorem Conc.put (h:Conc N B M w0 ρ s a w){dst:Option Nat}(hd:∀d,dst=some d→d < N){v:Value}{av:AV}(hv:RV B ρ w (okB ρ s.H w) v av)(hi:∀id∈av.ids,s.U id.1)(R:List Id):
  Conc N B M w0 ρ (s.app dst (.val av R)) (a.put dst v) w:=by
 have:=h.step (fun _=>False) [] (w':=w) (ρ':=ρ) (H':=s.H) (U':=s.U) (a':=a.put dst v) (L':=putL s.L dst av) (Turn.refl _ _) (by rw[put_size];exact h.size) (by rw[put_defers];exact h.defers)
  (fun _ _=>rfl) (fun _ _ _ _=>rfl) rfl (fun _ _=>rfl) (fun _ h=>h) (fun _ _ h=>h) (fun _ _ _ _ _ _ h=>h) (fun _ _ _ h=>h) (by simp) (by simp) (by simp) (fun _ t=>h.slots hd hv hi t)
 exact this.congr (fun _=>rfl) (fun _=>rfl) (fun n=>by simp[F_.app])
theorem good_val {av:AV}{R:List Id}
  (h:∀(N B:Nat) (M:Nat→Prop) (w0:Start) (ρ:Rho) (s:F_) (a:Act) (w:World),Conc N B M w0 ρ s a w→(∀x∈o.op.operands.toList,evL s.L x=ev x)→(∀id∈R,s.H id=H id)→
   ∃v,(execOp a.eval o).run P w= .ok (.value v) w∧RV B ρ w (okB ρ s.H w) v av∧∀id∈av.ids,s.U id.1):Good P o ev H (.val av R):=by
 intro N B M w0 ρ s a w Q K hc ho hR _ hd hK
 obtain⟨v,hr,hv,hi⟩:=h N B M w0 ρ s a w hc ho hR
 unfold Oper.wp
 rw[hr]
 exact hK v w ρ (hc.put hd hv hi R)
theorem inv_int {ok:Nat→Prop}{v:Value}{k:IntKind}{n:Int}(h:RV B ρ w ok v (tI k n)):v= .int k n:=by cases h;rfl
theorem inv_bool {ok:Nat→Prop}{v:Value}{b:Bool}(h:RV B ρ w ok v (tB b)):v= .bool b:=by cases h;rfl
theorem inv_str {ok:Nat→Prop}{v:Value}{b:List UInt8}(h:RV B ρ w ok v (tS b)):v= .string ⟨b.toArray⟩:=by cases h;rfl
theorem sound_move {x:Operand}(ho:o.op= .move x∨o.op= .assign x):Good P o ev H (.val (ev x) []):=by
 refine good_val fun N B M w0 ρ s a w hc hop _=>⟨a.eval x,?_,?_⟩
 ·rcases ho with ho|ho <;> simp[execOp,ho]
 ·have:=hc.eval x
  rw[hop x (by rcases ho with ho|ho <;> simp[ho,Op.operands])]at this
  exact this
theorem sound_pick {c x y:Operand}(ho:o.op= .pick c x y){t:Bool}(hc':ev c= .r (.c (.t (.bool t)))):
  Good P o ev H (.val (match t with|true=>ev x|false=>ev y) []):=by
 refine good_val fun N B M w0 ρ s a w hc hop _=>?_
 have h1:=(hc.eval c).1
 rw[hop c (by simp[ho,Op.operands]),hc']at h1
 have hb:a.eval c= .bool t:=inv_bool h1
 have h2:=hc.eval x
 have h3:=hc.eval y
 rw[hop x (by simp[ho,Op.operands])]at h2
 rw[hop y (by simp[ho,Op.operands])]at h3
 cases t
 ·exact⟨a.eval y,by simp[execOp,ho,hb,asBool],h3⟩
 ·exact⟨a.eval x,by simp[execOp,ho,hb,asBool],h2⟩
theorem run_eqGuard_int (op:BinOp)(T:TypeId)(x y:Operand)(k k':IntKind)(n m:Int):(eqGuard op T x y (.int k n) (.int k' m)).run P w= .ok () w:=by
 cases op <;> simp[eqGuard]
theorem run_eqGuard_str (op:BinOp)(T:TypeId)(x y:Operand)(n m:ByteArray):(eqGuard op T x y (.string n) (.string m)).run P w= .ok () w:=by
 cases op <;> simp[eqGuard]
theorem run_eqGuard_bool (op:BinOp)(T:TypeId)(x y:Operand)(n m:Bool):(eqGuard op T x y (.bool n) (.bool m)).run P w= .ok () w:=by
 cases op <;> simp[eqGuard]
theorem arith_ok {op:BinOp}{k:IntKind}{n m:Int}{K:AV→Prop}(h:arith op k n m K):
  ∃t,K (.r (.c (.t t)))∧(∀(P:Program) (w:World) (T:TypeId),∃v,(binOp op T (.int k n) (.int k m)).run P w= .ok v w∧∀ok,RT w ok v t):=by
 cases op <;> simp only[arith]at h <;> first
  | exact h.elim
  | exact⟨_,h,fun P w T=>⟨_,by simp[binOp,Op.intArith,Op.intBits,Op.intCmp];rfl,fun ok=>by constructor⟩⟩
  | exact⟨_,h.2,fun P w T=>⟨_,by simp[binOp,Op.intDiv,h.1];rfl,fun ok=>by constructor⟩⟩
theorem shift_ok {op:BinOp}{k k':IntKind}{n m:Int}{K:AV→Prop}(h:shift op k n m K):
  ∃t,K (.r (.c (.t t)))∧(∀(P:Program) (w:World) (T:TypeId),∃v,(binOp op T (.int k n) (.int k' m)).run P w= .ok v w∧∀ok,RT w ok v t):=by
 cases op <;> simp only[shift]at h <;> first
  | exact h.elim
  | exact⟨_,h.2,fun P w T=>⟨_,by simp[binOp,Op.shift,Int.not_lt.2 h.1];rfl,fun ok=>by constructor⟩⟩
theorem bytes_toList (l:List UInt8):(⟨l.toArray⟩:ByteArray).toList=l:=by
 rw[ByteArray.toList_eq]
theorem semBin_ok {op:BinOp}{x y:AV}{K:AV→Prop}(h:semBin op x y K):
  ∃t,K (.r (.c (.t t)))∧∀(P:Program) (B:Nat) (ρ:Rho) (w:World) (ok:Nat→Prop) (T:TypeId) (X Y:Operand) (u v:Value),RV B ρ w ok u x→RV B ρ w ok v y→
   ∃z,(do eqGuard op T X Y u v;binOp op T u v).run P w= .ok z w∧RT w ok z t:=by
 unfold semBin at h
 split at h
 ·rename_i k a k' b
  have key:(∃t,K (.r (.c (.t t)))∧(∀(P:Program) (w:World) (T:TypeId),∃v,(binOp op T (.int k a) (.int k' b)).run P w= .ok v w∧∀ok,RT w ok v t)):=by
   split at h
   ·exact shift_ok h
   ·exact shift_ok h
   ·obtain⟨rfl,h⟩:=h;exact arith_ok h
  obtain⟨t,hK,hr⟩:=key
  refine⟨t,hK,fun P B ρ w ok T X Y u v hu hv=>?_⟩
  rw[inv_int hu,inv_int hv]
  obtain⟨z,h1,h2⟩:=hr P w T
  exact⟨z,by simp[run_eqGuard_int,h1],h2 ok⟩
 ·rename_i a b
  split at h
  ·obtain⟨h1,h2⟩:=h
   refine⟨_,h2,fun P B ρ w ok T X Y u v hu hv=>?_⟩
   rw[inv_str hu,inv_str hv]
   refine⟨.string ⟨(a++b).toArray⟩,?_,.str _⟩
   have e:(⟨a.toArray⟩:ByteArray)++⟨b.toArray⟩=⟨(a++b).toArray⟩:=by
    apply ByteArray.ext;simp
   have hl:¬IntKind.i64.max < ((a.length+b.length:Nat):Int):=by
    have:IntKind.i64.max=9223372036854775807:=by decide
    rw[this];omega
   have hs:∀l:List UInt8,(⟨l.toArray⟩:ByteArray).size=l.length:=fun l=>by simp[ByteArray.size]
   simp only[Sem.run_bind,run_eqGuard_str,Result.andThen_ok,binOp,Op.stringOp,hs,gt_iff_lt]
   rw[if_neg hl,e]
   rfl
  ·refine⟨_,h,fun P B ρ w ok T X Y u v hu hv=>?_⟩
   rw[inv_str hu,inv_str hv]
   exact⟨.bool (a==b),by simp[run_eqGuard_str,binOp,Op.stringOp,bytes_toList],.bool _⟩
  ·refine⟨_,h,fun P B ρ w ok T X Y u v hu hv=>?_⟩
   rw[inv_str hu,inv_str hv]
   exact⟨.bool (!(a==b)),by simp[run_eqGuard_str,binOp,Op.stringOp,bytes_toList],.bool _⟩
  ·exact h.elim
 ·exact h.elim
end
end Go.Sim
namespace Go.Sim
open Go.RowKit
theorem cut_spec {α:Type}:∀{i n:Nat} {l xs:List α},cut i n l=some xs→i+n≤l.length∧xs=(l.drop i).take n
 | 0,0,l,xs,h=>by simp[cut]at h;subst h;simp
 | 0,n+1,[],xs,h=>by simp[cut]at h
 | 0,n+1,x::r,xs,h=>by
  simp only[cut,Option.map_eq_some_iff]at h
  obtain⟨ys,h1,rfl⟩:=h
  obtain⟨h2,rfl⟩:=cut_spec h1
  exact⟨by simp;omega,by simp⟩
 | i+1,n,[],xs,h=>by simp[cut]at h
 | i+1,n,x::r,xs,h=>by
  simp only[cut]at h
  obtain⟨h2,rfl⟩:=cut_spec h
  exact⟨by simp;omega,by simp⟩
theorem lay_spec {α:Type}:∀{i:Nat} {xs l l':List α},lay i xs l=some l'→i+xs.length≤l.length∧l'=l.take i++xs++l.drop (i+xs.length)
 | 0,[],l,l',h=>by simp[lay]at h;subst h;simp
 | 0,x::xs,[],l',h=>by simp[lay]at h
 | 0,x::xs,y::r,l',h=>by
  simp only[lay,Option.map_eq_some_iff]at h
  obtain⟨ys,h1,rfl⟩:=h
  obtain⟨h2,rfl⟩:=lay_spec h1
  exact⟨by simp;omega,by simp⟩
 | i+1,xs,[],l',h=>by simp[lay]at h
 | i+1,xs,y::r,l',h=>by
  simp only[lay,Option.map_eq_some_iff]at h
  obtain⟨ys,h1,rfl⟩:=h
  obtain⟨h2,rfl⟩:=lay_spec h1
  refine⟨by simp;omega,?_⟩
  rw[show i+1+xs.length=i+xs.length+1 by omega]
  simp
section
variable {P:Program} {Γ:Env} {N B:Nat} {M:Nat→Prop} {w0:Start} {ρ:Rho} {s:F_} {a:Act} {w:World} {o:Oper} {ev:Operand→AV} {H:Id→Option AO} {K:Eff→Prop}
theorem run_isAgg {t:TypeId}{d:TypeDesc}(h:P.underlying t=some d):(isAgg t).run P w= .ok (dAgg d) w:=by
 simp only[isAgg,Sem.run_bind,run_underlying h,Result.andThen_ok]
 cases d <;> rfl
theorem run_sizeOf {t:TypeId}{i:TypeInfo}(h:P.info? t=some i):(sizeOf t).run P w= .ok i.size w:=by simp[sizeOf,typeInfo,h]
theorem run_typeInfo {t:TypeId}{i:TypeInfo}(h:P.info? t=some i):(typeInfo t).run P w= .ok i w:=by simp[typeInfo,h]
theorem run_zeroValue {t:TypeId}{i:TypeInfo}{z:Value}(h:P.info? t=some i)(hz:i.zero=some z):(zeroValue t).run P w= .ok z w:=by simp[zeroValue,typeInfo,h,hz]
theorem run_loadAt_agg {T:TypeId}{ti:TI}{i:TypeInfo}{d:TypeDesc}(fit:ti.Fit P T i d)(ad:Addr)(us:List Value)(hcell:∀(p:Nat) (v:Value),us[p]?=some v→w.cell? (ad.add p)=some v)
  (ha:ti.agg=true) (hl:us.length=ti.size):(Instr.loadAt T (.pointer (some ad))).run P w= .ok (.agg us.toArray) w:=by
 have h1:=run_loadCells_list (P:=P) w ad us hcell
 rw[hl,←fit.size]at h1
 simp[Instr.loadAt,Instr.sureAddr,loadVar,run_isAgg fit.und,fit.agg,ha,run_sizeOf fit.info,h1]
theorem run_loadAt_one {T:TypeId}{ti:TI}{i:TypeInfo}{d:TypeDesc}(fit:ti.Fit P T i d)(ad:Addr)(u:Value)(hcell:w.cell? ad=some u)
  (ha:ti.agg=false):(Instr.loadAt T (.pointer (some ad))).run P w= .ok u w:=by
 simp[Instr.loadAt,Instr.sureAddr,loadVar,run_isAgg fit.und,fit.agg,ha,run_load,hcell]
theorem mkC_ok {fr:Bool}{ok:Nat→Prop}{v:Value}{t:Tr}(h:RT w (okF B ok fr) v t):RC B ρ w ok v (mkC fr t):=by
 cases t with
 | lst sz rows=>
  cases fr with
  | true=>exact h
  | false=>exact RT.keep h okF_drop
 | int=>exact RT.keep h okF_drop
 | bool=>exact RT.keep h okF_drop
 | str=>exact RT.keep h okF_drop
theorem RTs.toRCs {fr:Bool}:∀{w:World} {ok:Nat→Prop} {us:List Value} {ts:List Tr},RTs w (okF B ok fr) us ts→RCs B ρ w ok us (ts.map (mkC fr))
 | _,_,[],[],_=>trivial
 | _,_,_::_,_::_,h=>⟨mkC_ok h.1,RTs.toRCs h.2⟩
 | _,_,[],_::_,h=>h.elim
 | _,_,_::_,[],h=>h.elim
theorem sound_load_at {T:TypeId}{x:Operand}{ti:TI}{i:TypeInfo}{d:TypeDesc}(fit:ti.Fit P T i d)(ho:o.op= .load T x)(hc:Conc N B M w0 ρ s a w)
  (ad:Addr) (us:List Value) (cs:List AC) (off:Nat) (hx:a.eval x= .pointer (some (ad.add off))) (hcell:∀(p:Nat) (v:Value),us[p]?=some v→w.cell? (ad.add p)=some v)
  (hr:RCs B ρ w (okB ρ s.H w) us cs):
  (∀ys,ti.agg=true→cut off ti.size cs=some ys→∃v,(execOp a.eval o).run P w= .ok (.value v) w∧RV B ρ w (okB ρ s.H w) v (.r (.agg ys)))∧
  (∀c,ti.agg=false→cut off 1 cs=some [c]→∃v,(execOp a.eval o).run P w= .ok (.value v) w∧RV B ρ w (okB ρ s.H w) v (.r (.c c))):=by
 have hl:=hr.length
 refine⟨fun ys ha hcut=>?_,fun c ha hcut=>?_⟩
 ·obtain⟨h1,rfl⟩:=cut_spec hcut
  refine⟨.agg ((us.drop off).take ti.size).toArray,?_,_,rfl,?_⟩
  ·have:=run_loadAt_agg (w:=w) fit (ad.add off) ((us.drop off).take ti.size) (fun p v hv=>by
    rw[List.getElem?_take]at hv
    split at hv
    ·rw[List.getElem?_drop]at hv;rw[add_add];exact hcell _ v hv
    ·cases hv) ha (by rw[List.length_take,List.length_drop];omega)
   simp[execOp,ho,hx,this]
  ·exact(hr.drop off).take ti.size
 ·obtain⟨h1,h2⟩:=cut_spec hcut
  have hc0:cs[off]?=some c:=by
   have:((cs.drop off).take 1)[0]?=some c:=by rw[←h2];rfl
   simpa using this
  obtain⟨u,hu,hru⟩:=hr.get off c hc0
  refine⟨u,?_,hru⟩
  have:=run_loadAt_one (w:=w) fit (ad.add off) u (hcell off u hu) ha
  simp[execOp,ho,hx,this]
theorem cut_map {α β:Type}{f:α→β}:∀{i n:Nat} {l xs:List α},cut i n l=some xs→cut i n (l.map f)=some (xs.map f)
 | 0,0,l,xs,h=>by simp[cut]at h;subst h;simp[cut]
 | 0,n+1,[],xs,h=>by simp[cut]at h
 | 0,n+1,x::r,xs,h=>by
  simp only[cut,Option.map_eq_some_iff]at h
  obtain⟨ys,h1,rfl⟩:=h
  simp[cut,cut_map h1]
 | i+1,n,[],xs,h=>by simp[cut]at h
 | i+1,n,x::r,xs,h=>by
  simp only[cut]at h
  simp[cut,cut_map h]
theorem mkC_ids (fr:Bool)(t:Tr):(mkC fr t).ids=[]:=by
 cases t <;> first|rfl|(cases fr <;> rfl)
theorem ids_map_t (fr:Bool)(cs:List Tr):(cs.map (mkC fr)).flatMap AC.ids=[]:=by
 induction cs with
 | nil=>rfl
 | cons c cs ih=>simp[List.flatMap_cons,ih,mkC_ids]
theorem ids_take_drop {U:Nat→Prop}{cs:List AC}(h:∀id∈cs.flatMap AC.ids,U id.1)(i n:Nat):∀id∈((cs.drop i).take n).flatMap AC.ids,U id.1:=by
 intro id hid
 rw[List.mem_flatMap]at hid
 obtain⟨c,hc,hi⟩:=hid
 exact h id (List.mem_flatMap.2 ⟨c,List.mem_of_mem_drop (List.mem_of_mem_take hc),hi⟩)
theorem Conc.box (hc:Conc N B M w0 ρ s a w){q:Id}{cells:List AC}(h:s.H q=some (.box cells)):∃b us t fz,ρ q= .pointer (some ⟨b,0,none⟩)∧w.heap[b]?=some (.cells us t fz)∧unfrozen us.size fz∧
  RCs B ρ w (okB ρ s.H w) us.toList cells∧(∀(p:Nat) (v:Value),us.toList[p]?=some v→w.cell? ((⟨b,0,none⟩:Addr).add p)=some v):=by
 obtain⟨b,cur,t,fz,h1,h2,h3,h4⟩:=hc.obj q _ h
 refine⟨b,cur,t,fz,h1,h2,h3,h4,fun p v hv=>?_⟩
 rw[add_head,cell_of_row w b p cur t fz h2]
 simpa using hv
theorem Conc.arr (hc:Conc N B M w0 ρ s a w){q:Id}{fr:Bool}{sz:Nat}{rows:List (List Tr)}(h:s.H q=some (.arr fr sz rows)):(∀r∈rows,r.length=sz)∧
  ((
   ρ q= .slice none 0 0∧rows=[])∨∃b cap cur e fz,ρ q= .slice (some ⟨b,0,none⟩) rows.length cap∧w.heap[b]?=some (.cells cur e fz)∧unfrozen cur.size fz∧rows.length≤cap∧cap≤maxLen∧cur.size=cap * sz∧
   RTs w (okF B (okB ρ s.H w) fr) (cur.toList.take (rows.length * sz)) rows.flatten∧(∀(p:Nat) (v:Value),(cur.toList.take (rows.length * sz))[p]?=some v→w.cell? ((⟨b,0,none⟩:Addr).add p)=some v)∧(fr=true→B≤b)):=by
 obtain⟨hu,h⟩:=hc.obj q _ h
 refine⟨hu,?_⟩
 rcases h with h|⟨b,cap,cur,e,fz,h1,h2,h3,h4,h5,h6,h7,h8⟩
 ·exact .inl h
 ·refine .inr ⟨b,cap,cur,e,fz,h1,h2,h3,h4,h5,h6,h7,fun p v hv=>?_,h8⟩
  rw[add_head,cell_of_row w b p cur e fz h2]
  rw[List.getElem?_take]at hv
  split at hv
  ·simpa using hv
  ·cases hv
theorem idEq_iff {a b:Id}:idEq a b=true↔a=b:=by
 obtain⟨x,y,z⟩:=a
 obtain⟨x',y',z'⟩:=b
 simp[idEq]
theorem Conc.dar (hc:Conc N B M w0 ρ s a w){q:Id}{sz:Nat}{rows:List (List DC)}{hole:Option (Nat×Nat×Id)}(h:s.H q=some (.dar sz rows hole)):(∀r∈rows,r.length=sz)∧
  ((
   ρ q= .slice none 0 0∧rows=[]∧hole=none)∨∃b cap cur e fz Fp,ρ q= .slice (some ⟨b,0,none⟩) rows.length cap∧w.heap[b]?=some (.cells cur e fz)∧unfrozen cur.size fz∧rows.length≤cap∧cap≤maxLen∧cur.size=cap * sz∧
   (∀p c,Fp p c→ρ.fp q c∧c≠b)∧(∀p q c,p≠q→Fp p c→¬Fp q c)∧RDs ρ w (okB ρ s.H w) sz hole Fp (cur.toList.take (rows.length * sz)) rows.flatten∧
   (∀(p:Nat) (v:Value),(cur.toList.take (rows.length * sz))[p]?=some v→w.cell? ((⟨b,0,none⟩:Addr).add p)=some v)):=by
 obtain⟨hu,h⟩:=hc.obj q _ h
 refine⟨hu,?_⟩
 rcases h with h|⟨b,cap,cur,e,fz,Fp,h1,h2,h3,h4,h5,h6,h7,h8,h9⟩
 ·exact .inl h
 ·refine .inr ⟨b,cap,cur,e,fz,Fp,h1,h2,h3,h4,h5,h6,h7,h8,h9,fun p v hv=>?_⟩
  rw[add_head,cell_of_row w b p cur e fz h2]
  rw[List.getElem?_take]at hv
  split at hv
  ·simpa using hv
  ·cases hv
theorem DC.ld_ok {ok F:Nat→Prop}{v:Value}{c:DC}(h:RD w ok F v c):RC B ρ w ok v c.ld:=by
 cases c with
 | t x=>exact h
 | d x=>
  cases x with
  | lst sz rows=>exact⟨DT.one h,DT.cells1 h⟩
  | int k n=>cases h;exact .int _ _
  | bool b=>cases h;exact .bool _
  | str b=>cases h;exact .str _
theorem DC.ld_ids (c:DC):c.ld.ids=[]:=by
 cases c with
 | t x=>rfl
 | d x=>cases x <;> rfl
theorem ids_map_ld (cs:List DC):(cs.map DC.ld).flatMap AC.ids=[]:=by
 induction cs with
 | nil=>rfl
 | cons c cs ih=>simp[List.flatMap_cons,ih,DC.ld_ids]
theorem dar_row {sz:Nat}{rows:List (List DC)}{us:List Value}{ok:Nat→Prop}{Fp:Nat→Nat→Prop}(hu:∀r∈rows,r.length=sz)(h:RDs ρ w ok sz none Fp us rows.flatten)(i:Nat)(row:List DC)(hr:rows[i]?=some row):
  RCs B ρ w ok ((us.drop (i * sz)).take sz) (row.map DC.ld)∧∀off v c,((us.drop (i * sz)).take sz)[off]?=some v→row[off]?=some c→us[i * sz+off]?=some v∧rows.flatten[i * sz+off]?=some c∧RD w ok (Fp (i * sz+off)) v c:=by
 have hi:i < rows.length:=by
  rcases Nat.lt_or_ge i rows.length with h'|h'
  ·exact h'
  ·rw[List.getElem?_eq_none h']at hr;cases hr
 have hrl:row.length=sz:=hu row (List.mem_of_getElem? hr)
 have hfl:=flatten_length sz rows hu
 have hmul:i * sz+sz≤rows.length * sz:=by have:=Nat.mul_le_mul_right sz hi;rw[Nat.succ_mul]at this;omega
 have key:∀off v c,((us.drop (i * sz)).take sz)[off]?=some v→row[off]?=some c→us[i * sz+off]?=some v∧rows.flatten[i * sz+off]?=some c∧RD w ok (Fp (i * sz+off)) v c:=by
  intro off v c hv hc
  rw[List.getElem?_take]at hv
  split at hv
  ·rename_i ho
   rw[List.getElem?_drop]at hv
   have hf:=flatten_get sz rows i off row hu hr ho
   rw[hc]at hf
   have:=h.2 _ v c hv hf
   simp only[holeAt]at this
   exact⟨hv,hf,this⟩
  ·cases hv
 refine⟨?_,key⟩
 have hl:((us.drop (i * sz)).take sz).length=row.length:=by
  rw[List.length_take,List.length_drop,h.1,hfl];omega
 have gen:∀(vs:List Value) (cs:List DC),vs.length=cs.length→(∀(off:Nat) (v:Value) (c:DC),vs[off]?=some v→cs[off]?=some c→∃F,RD w ok F v c)→RCs B ρ w ok vs (cs.map DC.ld):=by
  intro vs
  induction vs with
  | nil=>intro cs hl _;cases cs with
   | nil=>trivial
   | cons=>simp at hl
  | cons v vs ih=>intro cs hl hh;cases cs with
   | nil=>simp at hl
   | cons c cs=>
    obtain⟨F,hF⟩:=hh 0 v c (by simp) (by simp)
    exact⟨DC.ld_ok hF,ih cs (by simpa using hl) fun off v c hv hc=>hh (off+1) v c (by simpa using hv) (by simpa using hc)⟩
 exact gen _ _ hl fun off v c hv hc=>⟨_,(key off v c hv hc).2.2⟩
theorem DT.toArr {ok:Nat→Prop}{F:Nat→Prop}{v:Value}{sz:Nat}{rs:List (List Tr)}(h:DT w F v (.lst sz rs))(hfl:flat rs){n:Id}(hn:ρ n=v):RO B ρ w ok n (.arr false sz rs):=by
 cases h with
 | nil=>exact⟨by simp,.inl ⟨hn,rfl⟩⟩
 | arr F b m cap sz cur e fz rows Fp hb hh hf hm h1 h2 h3 hu hl hp hd hrec=>
  subst hm
  refine⟨hu,.inr ⟨b,cap,cur,e,fz,hn,hh,hf,h1,h2,h3,?_,fun e=>by cases e⟩⟩
  refine RTs.of hl fun p v u hv hu'=>?_
  have h4:=hrec p v u hv hu'
  obtain⟨row,g1,g2⟩:=List.mem_flatten.1 (List.mem_of_getElem? hu')
  have h5:=hfl row g1 u g2
  cases h4 with
  | int=>exact .int _ _
  | bool=>exact .bool _
  | str=>exact .str _
  | nil=>exact absurd rfl (h5 _ _)
  | arr=>exact absurd rfl (h5 _ _)
theorem deep_flatten (rs:List (List Tr)):(deepRows rs).flatten=rs.flatten.map .d:=by
 simp[deepRows,List.map_flatten]
theorem deep_len {rs:List (List Tr)}{sz:Nat}(h:∀r∈rs,r.length=sz):∀r∈deepRows rs,r.length=sz:=by
 intro r hr
 obtain⟨x,h1,rfl⟩:=List.mem_map.1 hr
 simpa using h x h1
theorem DT.toDar {ok:Nat→Prop}{F:Nat→Prop}{v:Value}{sz:Nat}{rs:List (List Tr)}(h:DT w F v (.lst sz rs)){n:Id}(hn:ρ n=v)(hF:∀c,F c→blk v≠some c→ρ.fp n c):RO B ρ w ok n (.dar sz (deepRows rs) none):=by
 cases h with
 | nil=>exact⟨by simp[deepRows],.inl ⟨hn,rfl,rfl⟩⟩
 | arr F b m cap sz cur e fz rows Fp hb hh hf hm h1 h2 h3 hu hl hp hd hrec=>
  subst hm
  have hlen:(deepRows rs).length=rs.length:=by simp[deepRows]
  refine⟨deep_len hu,.inr ⟨b,cap,cur,e,fz,Fp,by rw[hlen];exact hn,hh,hf,by rw[hlen];exact h1,h2,h3,fun p c hc=>⟨hF c (hp p c hc).1 (fun e=>(hp p c hc).2 (by simpa [blk]using e.symm)),(hp p c hc).2⟩,hd,?_⟩⟩
  rw[hlen,deep_flatten]
  refine⟨by rw[hl,List.length_map],fun p v c hv hc=>?_⟩
  simp only[holeAt]
  rw[List.getElem?_map,Option.map_eq_some_iff]at hc
  obtain⟨u,hu',rfl⟩:=hc
  exact hrec p v u hv hu'
theorem DT.slice {F:Nat→Prop}{v:Value}{sz:Nat}{rs:List (List Tr)}(h:DT w F v (.lst sz rs)):(∃A n c,v= .slice A n c)∧∀b,blk v=some b→F b:=by
 cases h with
 | nil=>exact⟨⟨_,_,_,rfl⟩,fun b hb=>by cases hb⟩
 | arr F b m cap sz cur e fz rows Fp hb=>exact⟨⟨_,_,_,rfl⟩,fun c hc=>by
                                         have:b=c:=by simpa [blk]using hc
                                         subst this;exact hb⟩
theorem Conc.open (hc:Conc N B M w0 ρ s a w){q:Id}{sz:Nat}{rows:List (List DC)}(hq:s.H q=some (.dar sz rows none)){i off t:Nat}{rs:List (List Tr)}{row:List DC}(hr:rows[i]?=some row)(hd0:row[off]?=some (.d (.lst t rs)))
  {nm:Nat} (hU:¬s.U nm) {dst:Option Nat} (hd:∀d,dst=some d→d < N) {x:AO} (hx:x= .dar t (deepRows rs) none∨(flat rs∧x= .arr false t rs)) {v:Value}
  (hv:∀b cap cur e fz,ρ q= .slice (some ⟨b,0,none⟩) rows.length cap→w.heap[b]?=some (.cells cur e fz)→(cur.toList.take (rows.length * sz))[i * sz+off]?=some v) (R:List Id):
  ∃ρ',Conc N B M w0 ρ' (s.app dst ⟨.r (.c (.own (nm,0,0))),[(q,some (.dar sz rows (some (i,off,(nm,0,0))))),((nm,0,0),some x)],some nm,R⟩) (a.put dst v) w:=by
 obtain⟨hu,g⟩:=hc.dar hq
 have hi:i < rows.length:=by
  rcases Nat.lt_or_ge i rows.length with h'|h'
  ·exact h'
  ·rw[List.getElem?_eq_none h']at hr;cases hr
 rcases g with⟨_,g,_⟩|⟨b,cap,cur,e,fz,Fp,g1,g2,g3,g4,g5,g6,g7,g8,g9,g10⟩
 ·subst g;simp at hr
 have hv1:=hv b cap cur e fz g1 g2
 have ho:off < sz:=by
  have h1:=hu row (List.mem_of_getElem? hr)
  rcases Nat.lt_or_ge off row.length with h'|h'
  ·omega
  ·rw[List.getElem?_eq_none h']at hd0;cases hd0
 have hf:=flatten_get sz rows i off row hu hr ho
 rw[hd0]at hf
 have hDT:DT w (Fp (i * sz+off)) v (.lst t rs):=by
  have:=g9.2 _ v _ hv1 hf
  simp only[holeAt]at this
  exact this
 obtain⟨⟨A,n1,c1,hsl⟩,hblk⟩:=hDT.slice
 have hqU:s.U q.1:=(hc.usedH q _ hq).1
 let n:Id:=(nm,0,0)
 have hqn:q≠n:=fun e=>hU (by
                   have:q.1=nm:=by rw[e]
                   rw[←this];exact hqU)
 let ρ':Rho:=⟨fun o=>if o.1=nm then v else ρ o,fun o c=>if o=n then Fp (i * sz+off) c else if o=q then ρ.fp q c∧¬Fp (i * sz+off) c else ρ.fp o c,ρ.al⟩
 have hρ:∀o:Id,s.U o.1→ρ' o=ρ o:=fun o h=>by
  show(if o.1=nm then v else ρ o)=ρ o
  exact if_neg (fun e:o.1=nm=>hU (by rw[←e];exact h))
 have hn:ρ' n=v:=by show(if nm=nm then v else _)=v;simp
 have hfn:∀c,ρ'.fp n c↔Fp (i * sz+off) c:=fun c=>by show(if n=n then _ else _)↔_;simp
 have hfq:∀c,ρ'.fp q c↔(ρ.fp q c∧¬Fp (i * sz+off) c):=fun c=>by show(if q=n then _ else if q=q then _ else _)↔_;simp[hqn]
 have ownn:∀c,Own ρ' n c→Fp (i * sz+off) c:=fun c hc'=>hc'.elim (fun h=>hblk c (by rwa [hn]at h)) (hfn c).1
 have ownq:∀c,Own ρ' q c→Own ρ q c∧¬Fp (i * sz+off) c:=fun c hc'=>hc'.elim (fun h=>by
  rw[hρ q hqU]at h
  refine⟨.inl h,fun hF=>?_⟩
  rw[g1]at h
  have:b=c:=by simpa [blk]using h
  exact(g7 _ c hF).2 this.symm) fun h=>⟨.inr ((hfq c).1 h).1,((hfq c).1 h).2⟩
 have hUpd:∀o,updH s.H [(q,some (.dar sz rows (some (i,off,n)))),(n,some x)] o=if o=n then some x else if o=q then some (.dar sz rows (some (i,off,n)))else s.H o:=by
  intro o;simp only[updH]
 refine⟨ρ',?_⟩
 have:=hc.step (fun _=>False) [q,n] (w':=w) (ρ':=ρ') (H':=updH s.H [(q,some (.dar sz rows (some (i,off,n)))),(n,some x)]) (U':=fun m=>s.U m∨m=nm) (a':=a.put dst v) (L':=putL s.L dst (.r (.c (.own n)))) (Turn.refl _ _)
  (by rw[put_size];exact hc.size) (by rw[put_defers];exact hc.defers) hρ
  (fun o x' h1 h2=>by
   simp only[List.mem_cons,List.not_mem_nil,or_false,not_or]at h1
   funext c
   show(if o=n then _ else if o=q then _ else ρ.fp o c)=_
   rw[if_neg h1.2,if_neg h1.1]) rfl
  (fun o h1=>by
   simp only[List.mem_cons,List.not_mem_nil,or_false,not_or]at h1
   rw[hUpd,if_neg h1.2,if_neg h1.1])
  (fun m hm=> .inl hm) (fun _ _ h=>h) (fun _ _ _ _ _ _ h=>h) (fun _ _ _ h=>h)
  (fun o x' c h1 h2 h3=>by
   have hq3:Own ρ q c:=by
    simp only[List.mem_cons,List.not_mem_nil,or_false]at h1
    rcases h1 with rfl|rfl
    ·exact(ownq c h3).1
    ·exact .inr (g7 _ c (ownn c h3)).1
   have:=hc.rng q _ c hq hq3
   exact⟨this.1,this.2,.inr ⟨q,_,hq,by simp,hq3⟩⟩)
  (fun o o' x1 x2 c h1 h2 h3 h4 hne h5 h6=>by
   simp only[List.mem_cons,List.not_mem_nil,or_false]at h1 h2
   rcases h1 with rfl|rfl
   ·rcases h2 with rfl|rfl
    ·exact hne rfl
    ·exact(ownq c h5).2 (ownn c h6)
   ·rcases h2 with rfl|rfl
    ·exact(ownq c h6).2 (ownn c h5)
    ·exact hne rfl)
  (fun hk o x' h1 h2=>by
   rw[hUpd]at h2
   simp only[List.mem_cons,List.not_mem_nil,or_false]at h1
   rcases h1 with rfl|rfl
   ·rw[if_neg hqn,if_pos rfl]at h2
    injection h2 with h2;subst h2
    refine⟨⟨hu,.inr ⟨b,cap,cur,e,fz,fun p c=>p≠i * sz+off∧Fp p c,by rw[hρ _ hqU];exact g1,g2,g3,g4,g5,g6,fun p c hc'=>⟨(hfq c).2 ⟨(g7 p c hc'.2).1,g8 p _ c hc'.1 hc'.2⟩,(g7 p c hc'.2).2⟩,fun p p' c hne h1 h2=>g8 p p' c hne h1.2 h2.2,g9.1,fun p u c hu' hc'=>?_⟩⟩,.inl hqU,?_⟩
    ·simp only[holeAt]
     by_cases hp:p=i * sz+off
     ·rw[if_pos hp]
      subst hp
      have huv:u=v:=by rw[hv1]at hu';injection hu' with hu';exact hu'.symm
      subst huv
      exact⟨hn.symm,hDT.one,hDT.cells1⟩
     ·rw[if_neg hp]
      have:=g9.2 p u c hu' hc'
      simp only[holeAt]at this
      exact this.keep hk fun b' hb'=>⟨rfl,hp,hb'⟩
    ·intro o' ho'
     have:o'=n:=by simpa [AO.ids]using ho'
     subst this
     exact .inr rfl
   ·rw[if_pos rfl]at h2
    injection h2 with h2;subst h2
    refine⟨?_,.inr rfl,?_⟩
    ·rcases hx with rfl|⟨h3,rfl⟩
     ·exact hDT.toDar hn fun c hc' _=>(hfn c).2 hc'
     ·exact hDT.toArr h3 hn
    ·rcases hx with rfl|⟨h3,rfl⟩ <;> simp[AO.ids])
  (fun hk j=>hc.slots hd (U':=fun m=>s.U m∨m=nm) (av:= .r (.c (.own n))) (v:=v) ⟨⟨A,n1,c1,hn.trans hsl⟩,hn.symm⟩ (fun id hid=>by
   have:id=n:=by simpa [AV.ids,AR.ids,AC.ids]using hid
   subst this;exact .inr rfl) j)
 exact this.congr (fun _=>rfl) (fun _=>rfl) (fun m=>by simp[F_.app,eq_comm])
theorem arr_row {sz:Nat}{rows:List (List Tr)}{us:List Value}{ok:Nat→Prop}(hu:∀r∈rows,r.length=sz)(ht:RTs w ok us rows.flatten)(i:Nat)(row:List Tr)(hr:rows[i]?=some row):
  RTs w ok ((us.drop (i * sz)).take sz) row:=by
 have hi:i < rows.length:=by
  rcases Nat.lt_or_ge i rows.length with h'|h'
  ·exact h'
  ·rw[List.getElem?_eq_none h']at hr;cases hr
 have hrl:row.length=sz:=hu row (List.mem_of_getElem? hr)
 have hd:=flatten_drop sz rows i hu (by omega)
 rw[List.drop_eq_getElem_cons hi]at hd
 have hrow:rows[i]=row:=by rw[List.getElem?_eq_getElem hi]at hr;simpa using hr
 rw[hrow,List.flatten_cons]at hd
 have:=(ht.drop (i * sz)).take sz
 rw[hd,List.take_append_of_le_length (by omega),List.take_of_length_le (show row.length≤sz by omega)]at this
 exact this
theorem sound_load {T:TypeId}{x:Operand}{ti:TI}(hΓ:Γ.chk P=true)(hT:Γ.get T=some ti)(ho:o.op= .load T x){deep:Bool}{nm:Nat}(h:semLoad deep nm ti (ev x) H K):∃e,K e∧Good P o ev H e:=by
 obtain⟨i,d,fit⟩:=Env.fit hΓ hT
 have hopx:x∈o.op.operands.toList:=by simp[ho,Op.operands]
 unfold semLoad at h
 split at h
 ·rename_i q off hx
  split at h
  ·rename_i cells hq
   have base:∀(N B:Nat) (M:Nat→Prop) (w0:Start) (ρ:Rho) (s:F_) (a:Act) (w:World),Conc N B M w0 ρ s a w→(∀x∈o.op.operands.toList,evL s.L x=ev x)→(∀id∈[q],s.H id=H id)→
     s.H q=some (.box cells)∧∃ad us,a.eval x= .pointer (some (Addr.add ad off))∧(∀(p:Nat) (v:Value),us[p]?=some v→w.cell? (ad.add p)=some v)∧RCs B ρ w (okB ρ s.H w) us cells:=by
    intro N B M w0 ρ s a w hc hop hR
    have hq':s.H q=some (.box cells):=by rw[hR q (by simp)];exact hq
    obtain⟨b,us,t,fz,g1,g2,g3,g4,g5⟩:=hc.box hq'
    have hv:=(hc.eval x).1
    rw[hop x hopx,hx]at hv
    obtain⟨b',e1,e2⟩:=hv
    rw[g1]at e1
    injection e1 with e1;injection e1 with e1;injection e1 with e1
    subst e1
    exact⟨hq',⟨b,0,none⟩,us.toList,by rw[add_head];exact e2,g5,g4⟩
   split at h
   ·rename_i hagg
    split at h
    ·rename_i cs hcut
     refine⟨_,h,good_val fun N B M w0 ρ s a w hc hop hR=>?_⟩
     obtain⟨hq',ad,us,e1,e2,e3⟩:=base N B M w0 ρ s a w hc hop hR
     obtain⟨v,r1,r2⟩:=(sound_load_at fit ho hc ad us cells off e1 e2 e3).1 cs hagg hcut
     refine⟨v,r1,r2,?_⟩
     obtain⟨_,rfl⟩:=cut_spec hcut
     exact ids_take_drop (U:=s.U) (hc.usedH q _ hq').2 off ti.size
    ·exact h.elim
   ·rename_i hagg
    split at h
    ·rename_i c hcut
     refine⟨_,h,good_val fun N B M w0 ρ s a w hc hop hR=>?_⟩
     obtain⟨hq',ad,us,e1,e2,e3⟩:=base N B M w0 ρ s a w hc hop hR
     obtain⟨v,r1,r2⟩:=(sound_load_at fit ho hc ad us cells off e1 e2 e3).2 c hagg hcut
     refine⟨v,r1,r2,?_⟩
     obtain⟨_,hh⟩:=cut_spec hcut
     have:=ids_take_drop (U:=s.U) (hc.usedH q _ hq').2 off 1
     rw[←hh]at this
     intro id hid
     exact this id (List.mem_flatMap.2 ⟨c,by simp,hid⟩)
    ·exact h.elim
  ·exact h.elim
 ·rename_i q sz i' off hx
  split at h
  ·rename_i fr sz' rows hq
   obtain⟨hsz,row,hrow,h⟩:=h
   subst hsz
   have base:∀(N B:Nat) (M:Nat→Prop) (w0:Start) (ρ:Rho) (s:F_) (a:Act) (w:World),Conc N B M w0 ρ s a w→(∀x∈o.op.operands.toList,evL s.L x=ev x)→(∀id∈[q],s.H id=H id)→
     ∃ad us,a.eval x= .pointer (some (Addr.add ad off))∧(∀(p:Nat) (v:Value),us[p]?=some v→w.cell? (ad.add p)=some v)∧RCs B ρ w (okB ρ s.H w) us (row.map (mkC fr)):=by
    intro N B M w0 ρ s a w hc hop hR
    have hq':s.H q=some (.arr fr sz' rows):=by rw[hR q (by simp)];exact hq
    have hv:=(hc.eval x).1
    rw[hop x hopx,hx]at hv
    obtain⟨b',n,c,e1,e2,e3⟩:=hv
    obtain⟨hu,g⟩:=hc.arr hq'
    rcases g with⟨g1,_⟩|⟨b,cap,cur,e,fz,g1,g2,g3,g4,g5,g6,g7,g8,g9⟩
    ·rw[g1]at e1;injection e1 with e1;cases e1
    ·rw[g1]at e1
     injection e1 with e1;injection e1 with e1;injection e1 with e1
     subst e1
     refine⟨⟨b,i' * sz',none⟩,((cur.toList.take (rows.length * sz')).drop (i' * sz')).take sz',by rw[add_mid];exact e3,fun p v hv=>?_,(arr_row hu g7 i' row hrow).toRCs⟩
     rw[List.getElem?_take]at hv
     split at hv
     ·rw[List.getElem?_drop]at hv
      rw[add_mid,←add_head];exact g8 _ v hv
     ·cases hv
   split at h
   ·rename_i hagg
    split at h
    ·rename_i cs hcut
     refine⟨_,h,good_val fun N B M w0 ρ s a w hc hop hR=>?_⟩
     obtain⟨ad,us,e1,e2,e3⟩:=base N B M w0 ρ s a w hc hop hR
     obtain⟨v,r1,r2⟩:=(sound_load_at fit ho hc ad us _ off e1 e2 e3).1 (cs.map (mkC fr)) hagg (cut_map hcut)
     exact⟨v,r1,r2,by simp[AV.ids,AR.ids,ids_map_t]⟩
    ·exact h.elim
   ·rename_i hagg
    split at h
    ·rename_i c hcut
     refine⟨_,h,good_val fun N B M w0 ρ s a w hc hop hR=>?_⟩
     obtain⟨ad,us,e1,e2,e3⟩:=base N B M w0 ρ s a w hc hop hR
     obtain⟨v,r1,r2⟩:=(sound_load_at fit ho hc ad us _ off e1 e2 e3).2 (mkC fr c) hagg (cut_map hcut)
     exact⟨v,r1,r2,by simp[AV.ids,AR.ids,mkC_ids]⟩
    ·exact h.elim
  ·rename_i sz' rows hq
   obtain⟨hsz,row,hrow,h⟩:=h
   subst hsz
   have base:∀(N B:Nat) (M:Nat→Prop) (w0:Start) (ρ:Rho) (s:F_) (a:Act) (w:World),Conc N B M w0 ρ s a w→(∀x∈o.op.operands.toList,evL s.L x=ev x)→(∀id∈[q],s.H id=H id)→
     s.H q=some (.dar sz' rows none)∧∃b cap cur e fz,ρ q= .slice (some ⟨b,0,none⟩) rows.length cap∧w.heap[b]?=some (.cells cur e fz)∧a.eval x= .pointer (some (Addr.add ⟨b,i' * sz',none⟩ off))∧
      (∀(p:Nat) (v:Value),((cur.toList.take (rows.length * sz')).drop (i' * sz') |>.take sz')[p]?=some v→w.cell? ((⟨b,i' * sz',none⟩:Addr).add p)=some v)∧
      RCs B ρ w (okB ρ s.H w) ((cur.toList.take (rows.length * sz')).drop (i' * sz') |>.take sz') (row.map DC.ld):=by
    intro N B M w0 ρ s a w hc hop hR
    have hq':s.H q=some (.dar sz' rows none):=by rw[hR q (by simp)];exact hq
    have hv:=(hc.eval x).1
    rw[hop x hopx,hx]at hv
    obtain⟨b',n,c,e1,e2,e3⟩:=hv
    obtain⟨hu,g⟩:=hc.dar hq'
    rcases g with⟨g1,_⟩|⟨b,cap,cur,e,fz,Fp,g1,g2,g3,g4,g5,g6,g7,g8,g9,g10⟩
    ·rw[g1]at e1;injection e1 with e1;cases e1
    ·rw[g1]at e1
     injection e1 with e1;injection e1 with e1;injection e1 with e1
     subst e1
     refine⟨hq',b,cap,cur,e,fz,g1,g2,by rw[add_mid];exact e3,fun p v hv=>?_,(dar_row (B:=B) hu g9 i' row hrow).1⟩
     rw[List.getElem?_take]at hv
     split at hv
     ·rw[List.getElem?_drop]at hv
      rw[add_mid,←add_head];exact g10 _ v hv
     ·cases hv
   split at h
   ·rename_i hagg
    split at h
    ·rename_i cs hcut
     refine⟨_,h,good_val fun N B M w0 ρ s a w hc hop hR=>?_⟩
     obtain⟨_,b,cap,cur,e,fz,_,_,e1,e2,e3⟩:=base N B M w0 ρ s a w hc hop hR
     obtain⟨v,r1,r2⟩:=(sound_load_at fit ho hc _ _ _ off e1 e2 e3).1 (cs.map DC.ld) hagg (cut_map hcut)
     exact⟨v,r1,r2,by simp[AV.ids,AR.ids,ids_map_ld]⟩
    ·exact h.elim
   ·rename_i hagg
    have opens:∀(t:Nat) (rs:List (List Tr)) (x':AO),cut off 1 row=some [.d (.lst t rs)]→(x'= .dar t (deepRows rs) none∨(flat rs∧x'= .arr false t rs))→
      Good P o ev H ⟨.r (.c (.own (nm,0,0))),[(q,some (.dar sz' rows (some (i',off,(nm,0,0))))),((nm,0,0),some x')],some nm,[q]⟩:=by
     intro t rs x' hcut hx' N B M w0 ρ s a w Q K hc hop hR hn hd hK
     obtain⟨hq',b,cap,cur,e,fz,k1,k2,e1,e2,e3⟩:=base N B M w0 ρ s a w hc hop hR
     obtain⟨v,r1,r2⟩:=(sound_load_at fit ho hc _ _ _ off e1 e2 e3).2 (DC.ld (.d (.lst t rs))) hagg (cut_map hcut)
     obtain⟨h1,h2⟩:=cut_spec hcut
     have hro:row[off]?=some (.d (.lst t rs)):=by
      have:((row.drop off).take 1)[0]?=some (.d (.lst t rs)):=by rw[←h2];rfl
      simpa using this
     have hu:=(hc.dar hq').1
     have hrl:=hu row (List.mem_of_getElem? hrow)
     have hvat:((cur.toList.take (rows.length * sz')).drop (i' * sz') |>.take sz')[off]?=some v:=by
      have hl:=e3.length
      have hlt:off < ((cur.toList.take (rows.length * sz')).drop (i' * sz') |>.take sz').length:=by rw[hl,List.length_map];omega
      rw[List.getElem?_eq_getElem hlt]
      have hcell:=e2 off _ (List.getElem?_eq_getElem hlt)
      have hrun:=run_loadAt_one (w:=w) fit (Addr.add ⟨b,i' * sz',none⟩ off) _ hcell hagg
      simp only[execOp,ho,e1,Sem.run_bind,hrun,Result.andThen_ok,Sem.run_pure,Result.ok.injEq,and_true]at r1
      first|(injection r1 with r1;rw[r1])|simp_all
     obtain⟨ρ',h'⟩:=hc.open hq' hrow hro (hn nm rfl) hd hx' (v:=v) (fun b' cap' cur' e' fz' m1 m2=>by
      rw[k1]at m1
      injection m1 with m1 m3 m4
      injection m1 with m1;injection m1 with m1
      subst m1
      rw[k2]at m2
      injection m2 with m2;injection m2 with m2
      subst m2
      rw[List.getElem?_take]at hvat
      split at hvat
      ·rwa [List.getElem?_drop]at hvat
      ·cases hvat) [q]
     unfold Oper.wp
     rw[r1]
     exact hK v w ρ' h'
    split at h
    ·rename_i t rs hcut
     split at h
     ·exact⟨_,h,opens t rs _ hcut (.inl rfl)⟩
     ·exact⟨_,h.2,opens t rs _ hcut (.inr ⟨h.1,rfl⟩)⟩
    ·rename_i c _ hcut
     refine⟨_,h,good_val fun N B M w0 ρ s a w hc hop hR=>?_⟩
     obtain⟨_,b,cap,cur,e,fz,_,_,e1,e2,e3⟩:=base N B M w0 ρ s a w hc hop hR
     obtain⟨v,r1,r2⟩:=(sound_load_at fit ho hc _ _ _ off e1 e2 e3).2 c.ld hagg (cut_map hcut)
     exact⟨v,r1,r2,by simp[AV.ids,AR.ids,DC.ld_ids]⟩
    ·exact h.elim
  ·exact h.elim
 ·rename_i fr row off hx
  have base:∀(N B:Nat) (M:Nat→Prop) (w0:Start) (ρ:Rho) (s:F_) (a:Act) (w:World),Conc N B M w0 ρ s a w→(∀x∈o.op.operands.toList,evL s.L x=ev x)→
     ∃ad us,a.eval x= .pointer (some (Addr.add ad off))∧(∀(p:Nat) (v:Value),us[p]?=some v→w.cell? (ad.add p)=some v)∧RCs B ρ w (okB ρ s.H w) us (row.map (mkC fr)):=by
   intro N B M w0 ρ s a w hc hop
   have hv:=(hc.eval x).1
   rw[hop x hopx,hx]at hv
   obtain⟨ad,us,e1,e2,e3,e4,e5⟩:=hv
   exact⟨ad,us,e1,e4,e5.toRCs⟩
  split at h
  ·rename_i hagg
   split at h
   ·rename_i cs hcut
    refine⟨_,h,good_val fun N B M w0 ρ s a w hc hop hR=>?_⟩
    obtain⟨ad,us,e1,e2,e3⟩:=base N B M w0 ρ s a w hc hop
    obtain⟨v,r1,r2⟩:=(sound_load_at fit ho hc ad us _ off e1 e2 e3).1 (cs.map (mkC fr)) hagg (cut_map hcut)
    exact⟨v,r1,r2,by simp[AV.ids,AR.ids,ids_map_t]⟩
   ·exact h.elim
  ·rename_i hagg
   split at h
   ·rename_i c hcut
    refine⟨_,h,good_val fun N B M w0 ρ s a w hc hop hR=>?_⟩
    obtain⟨ad,us,e1,e2,e3⟩:=base N B M w0 ρ s a w hc hop
    obtain⟨v,r1,r2⟩:=(sound_load_at fit ho hc ad us _ off e1 e2 e3).2 (mkC fr c) hagg (cut_map hcut)
    exact⟨v,r1,r2,by simp[AV.ids,AR.ids,mkC_ids]⟩
   ·exact h.elim
 ·exact h.elim
theorem sound_fieldAddr {T:TypeId}{x:Operand}{f off sz:Nat}{ft:TypeId}{ti:TI}{KV:AV→Prop}(hΓ:Γ.chk P=true)(hT:Γ.get T=some ti)(hf:ti.fields[f]?=some (off,sz,ft))(ho:o.op= .fieldAddr T x f)(h:semFieldAddr off (ev x) KV):
  ∃v,KV v∧Good P o ev H (.val v []):=by
 obtain⟨i,d,fit⟩:=Env.fit hΓ hT
 have hopx:x∈o.op.operands.toList:=by simp[ho,Op.operands]
 obtain⟨fs,F,rfl,h1,h2,_,h3',h4',_⟩:=fit.field hf
 have h3:P.cellsOf F.type≠0:=by rw[h3'];exact h4'
 have hrun:∀(ad:Addr) (w:World),(Instr.fieldAt T (.pointer (some ad)) f).run P w= .ok (.pointer (some (ad.add off))) w:=by
  intro ad w
  unfold Program.cellsOf at h3
  cases hi:P.info? F.type with
  | none=>rw[hi]at h3;simp at h3
  | some j=>
   rw[hi]at h3
   simp at h3
   simp[Instr.fieldAt,run_underlying fit.und,h1,Instr.sureAddr,fieldPlace,run_sizeOf hi,h3,h2]
 unfold semFieldAddr at h
 split at h
 ·rename_i q k hx
  refine⟨_,h,good_val fun N B M w0 ρ s a w hc hop hR=>?_⟩
  have hv:=hc.eval x
  rw[hop x hopx,hx]at hv
  obtain⟨⟨b,e1,e2⟩,hi⟩:=hv
  exact⟨.pointer (some ⟨b,k+off,none⟩),by simp[execOp,ho,e2,hrun,add_mid],⟨b,e1,rfl⟩,hi⟩
 ·rename_i q sz j k hx
  refine⟨_,h,good_val fun N B M w0 ρ s a w hc hop hR=>?_⟩
  have hv:=hc.eval x
  rw[hop x hopx,hx]at hv
  obtain⟨⟨b,n,c,e1,e2,e3⟩,hi⟩:=hv
  exact⟨.pointer (some ⟨b,j * sz+(k+off),none⟩),by simp[execOp,ho,e3,hrun,add_mid,Nat.add_assoc],⟨b,n,c,e1,e2,rfl⟩,hi⟩
 ·rename_i fr row k hx
  refine⟨_,h,good_val fun N B M w0 ρ s a w hc hop hR=>?_⟩
  have hv:=hc.eval x
  rw[hop x hopx,hx]at hv
  obtain⟨⟨ad,us,e1,e2,e3⟩,hi⟩:=hv
  exact⟨.pointer (some (ad.add (k+off))),by simp[execOp,ho,e1,hrun,add_add],⟨ad,us,rfl,e2,e3⟩,by simp[AV.ids]⟩
 ·exact h.elim
theorem sound_index {T:TypeId}{x i:Operand}{ti:TI}{KV:AV→Prop}(hΓ:Γ.chk P=true)(hT:Γ.get T=some ti)(hs:ti.str=true)(ho:o.op= .index T x i)(h:semIndex (ev x) (ev i) KV):
  ∃v,KV v∧Good P o ev H (.val v []):=by
 obtain⟨ii,d,fit⟩:=Env.fit hΓ hT
 have hopx:x∈o.op.operands.toList:=by simp[ho,Op.operands]
 have hopi:i∈o.op.operands.toList:=by simp[ho,Op.operands]
 have hd:d= .string:=by have:=fit.str;rw[hs]at this;cases d <;> simp[dStr]at this ⊢
 subst hd
 unfold semIndex at h
 split at h
 ·rename_i s k n hx hi
  obtain⟨j,b,rfl,hb,h⟩:=h
  refine⟨_,h,good_val fun N B M w0 ρ st a w hc hop hR=>?_⟩
  have hv:=(hc.eval x).1
  have hv':=(hc.eval i).1
  rw[hop x hopx,hx]at hv
  rw[hop i hopi,hi]at hv'
  have e1:=inv_str hv
  have e2:=inv_int hv'
  have hlt:j < s.length:=by
   rcases Nat.lt_or_ge j s.length with h'|h'
   ·exact h'
   ·rw[List.getElem?_eq_none h']at hb;cases hb
  have hg:(⟨s.toArray⟩:ByteArray)[j]?=some b:=by
   rw[←hb]
   have hsz:(⟨s.toArray⟩:ByteArray).size=s.length:=by simp[ByteArray.size]
   rw[getElem?_pos (⟨s.toArray⟩:ByteArray) j (by omega),List.getElem?_eq_getElem hlt]
   rfl
  refine⟨.int .u8 b.toNat,?_,.int _ _,by simp[AV.ids,AR.ids,AC.ids]⟩
  simp[execOp,ho,e1,e2,Instr.index,asIntOf,run_underlying fit.und,hg]
 ·exact h.elim
theorem sound_indexAddr {T e:TypeId}{x i:Operand}{ti te:TI}(hΓ:Γ.chk P=true)(hT:Γ.get T=some ti)(he:ti.elem=some e)(hE:Γ.get e=some te)(ho:o.op= .indexAddr T x i)(h:semIndexAddr te.size (ev x) (ev i) H K):
  ∃ef,K ef∧Good P o ev H ef:=by
 obtain⟨ii,d,fit⟩:=Env.fit hΓ hT
 obtain⟨ie,de,fite⟩:=Env.fit hΓ hE
 have hopx:x∈o.op.operands.toList:=by simp[ho,Op.operands]
 have hopi:i∈o.op.operands.toList:=by simp[ho,Op.operands]
 have hd:d= .slice e:=by
  have:=fit.elem;rw[he]at this
  cases d <;> simp[dElem]at this
  rw[this]
 subst hd
 have hrun:∀(ad:Addr) (n c:Nat) (k:IntKind) (j:Nat) (w:World),j < n→(Instr.indexAt T (.slice (some ad) n c) (.int k (j:Int))).run P w= .ok (.pointer (some (ad.add (j * te.size)))) w:=by
  intro ad n c k j w hj
  simp[Instr.indexAt,asIntOf,run_underlying fit.und,run_sizeOf fite.info,fite.size,hj]
 unfold semIndexAddr at h
 split at h
 ·rename_i sz rows k n hx hi
  obtain⟨rfl,j,row,rfl,hr,h⟩:=h
  refine⟨_,h,good_val fun N B M w0 ρ st a w hc hop hR=>?_⟩
  have hv:=(hc.eval x).1
  have hv':=(hc.eval i).1
  rw[hop x hopx,hx]at hv
  rw[hop i hopi,hi]at hv'
  have e2:=inv_int hv'
  have hv:RT w (okB ρ st.H w) (a.eval x) (.lst te.size rows):=hv
  obtain⟨A,c,e1,hc1,hc2,hu,_⟩:=hv.slice_inv
  rw[e1]at hv
  obtain⟨ad,us,rfl,g1,g2,g3,g4,g5,g6⟩:=hv.row j row hr
  refine⟨.pointer (some (ad.add (j * te.size))),by simp[execOp,ho,e1,e2,hrun ad _ c k j w g3],⟨ad.add (j * te.size),us,by rw[add_zero'],⟨by rw[add_block];exact g1,fun h=>by cases h⟩,g4,g5,g6.keep fun b hb=>⟨rfl,hb,fun h=>by cases h⟩⟩,by simp[AV.ids]⟩
 ·rename_i sz rows k n hx hi
  obtain⟨rfl,j,row,rfl,hr,h⟩:=h
  refine⟨_,h,good_val fun N B M w0 ρ st a w hc hop hR=>?_⟩
  have hv:=(hc.eval x).1
  have hv':=(hc.eval i).1
  rw[hop x hopx,hx]at hv
  rw[hop i hopi,hi]at hv'
  have e2:=inv_int hv'
  have hv:RT w (okF B (okB ρ st.H w) true) (a.eval x) (.lst te.size rows):=hv
  obtain⟨A,c,e1,hc1,hc2,hu,_⟩:=hv.slice_inv
  rw[e1]at hv
  obtain⟨ad,us,rfl,g1,g2,g3,g4,g5,g6⟩:=hv.row j row hr
  refine⟨.pointer (some (ad.add (j * te.size))),by simp[execOp,ho,e1,e2,hrun ad _ c k j w g3],⟨ad.add (j * te.size),us,by rw[add_zero'],by rw[add_block];exact g1,g4,g5,g6⟩,by simp[AV.ids]⟩
 ·rename_i q k n hx hi
  split at h
  ·rename_i fr sz rows hq
   obtain⟨rfl,j,rfl,hj,h⟩:=h
   refine⟨_,h,good_val fun N B M w0 ρ st a w hc hop hR=>?_⟩
   have hv:=hc.eval x
   have hv':=(hc.eval i).1
   rw[hop x hopx,hx]at hv
   rw[hop i hopi,hi]at hv'
   have e2:=inv_int hv'
   obtain⟨⟨_,e1⟩,hid⟩:=hv
   have hq':st.H q=some (.arr fr te.size rows):=by rw[hR q (by simp)];exact hq
   obtain⟨hu,g⟩:=hc.arr hq'
   rcases g with⟨_,g1⟩|⟨b,cap,cur,e,fz,g1,g2,g3,g4,g5,g6,g7,g8,g9⟩
   ·rw[g1]at hj;simp at hj
   ·rw[g1]at e1
    exact⟨.pointer (some ⟨b,j * te.size+0,none⟩),by simp[execOp,ho,e1,e2,hrun _ _ cap k j w hj,add_head],⟨b,_,cap,g1,hj,rfl⟩,hid⟩
  ·rename_i sz rows hole hq
   obtain⟨rfl,j,rfl,hj,h⟩:=h
   refine⟨_,h,good_val fun N B M w0 ρ st a w hc hop hR=>?_⟩
   have hv:=hc.eval x
   have hv':=(hc.eval i).1
   rw[hop x hopx,hx]at hv
   rw[hop i hopi,hi]at hv'
   have e2:=inv_int hv'
   obtain⟨⟨_,e1⟩,hid⟩:=hv
   have hq':st.H q=some (.dar te.size rows hole):=by rw[hR q (by simp)];exact hq
   obtain⟨hu,g⟩:=hc.dar hq'
   rcases g with⟨_,g1,_⟩|⟨b,cap,cur,e,fz,Fp,g1,_⟩
   ·rw[g1]at hj;simp at hj
   ·rw[g1]at e1
    exact⟨.pointer (some ⟨b,j * te.size+0,none⟩),by simp[execOp,ho,e1,e2,hrun _ _ cap k j w hj,add_head],⟨b,_,cap,g1,hj,rfl⟩,hid⟩
  ·exact h.elim
 ·rename_i q kk k n hx hi
  split at h
  ·rename_i fr sz rows hq
   obtain⟨rfl,j,rfl,hj,hj',h⟩:=h
   refine⟨_,h,good_val fun N B M w0 ρ st a w hc hop hR=>?_⟩
   have hv:=hc.eval x
   have hv':=(hc.eval i).1
   rw[hop x hopx,hx]at hv
   rw[hop i hopi,hi]at hv'
   have e2:=inv_int hv'
   obtain⟨⟨A,n',c',e0,e1,e3⟩,hid⟩:=hv
   have hq':st.H q=some (.arr fr te.size rows):=by rw[hR q (by simp)];exact hq
   obtain⟨hu,g⟩:=hc.arr hq'
   rcases g with⟨_,g1⟩|⟨b,cap,cur,e,fz,g1,g2,g3,g4,g5,g6,g7,g8,g9⟩
   ·rw[g1]at hj';simp at hj'
   ·rw[g1]at e0
    injection e0 with e01 e02 e03
    subst e01;subst e02;subst e03
    exact⟨.pointer (some ⟨b,j * te.size+0,none⟩),by simp[execOp,ho,e1,e2,hrun _ _ cap k j w hj,add_head],⟨b,_,cap,g1,hj',rfl⟩,hid⟩
  ·rename_i sz rows hole hq
   obtain⟨rfl,j,rfl,hj,hj',h⟩:=h
   refine⟨_,h,good_val fun N B M w0 ρ st a w hc hop hR=>?_⟩
   have hv:=hc.eval x
   have hv':=(hc.eval i).1
   rw[hop x hopx,hx]at hv
   rw[hop i hopi,hi]at hv'
   have e2:=inv_int hv'
   obtain⟨⟨A,n',c',e0,e1,e3⟩,hid⟩:=hv
   have hq':st.H q=some (.dar te.size rows hole):=by rw[hR q (by simp)];exact hq
   obtain⟨hu,g⟩:=hc.dar hq'
   rcases g with⟨_,g1,_⟩|⟨b,cap,cur,e,fz,Fp,g1,_⟩
   ·rw[g1]at hj';simp at hj'
   ·rw[g1]at e0
    injection e0 with e01 e02 e03
    subst e01;subst e02;subst e03
    exact⟨.pointer (some ⟨b,j * te.size+0,none⟩),by simp[execOp,ho,e1,e2,hrun _ _ cap k j w hj,add_head],⟨b,_,cap,g1,hj',rfl⟩,hid⟩
  ·exact h.elim
 ·exact h.elim
end
end Go.Sim
namespace Go.Sim
open Go.RowKit
section
variable {P:Program} {Γ:Env} {N B:Nat} {M:Nat→Prop} {w0:Start} {ρ:Rho} {s:F_} {a:Act} {w:World} {o:Oper} {ev:Operand→AV} {H:Id→Option AO} {K:Eff→Prop} {KV:AV→Prop}
theorem sound_bin {op:BinOp}{T yt:TypeId}{x y:Operand}(ho:o.op= .binOp op T x y yt)(h:semBin op (ev x) (ev y) KV):∃v,KV v∧Good P o ev H (.val v []):=by
 obtain⟨t,hK,hr⟩:=semBin_ok h
 refine⟨_,hK,good_val fun N B M w0 ρ s a w hc hop hR=>?_⟩
 have h1:=(hc.eval x).1
 have h2:=(hc.eval y).1
 rw[hop x (by simp[ho,Op.operands])]at h1
 rw[hop y (by simp[ho,Op.operands])]at h2
 obtain⟨z,e1,e2⟩:=hr P B ρ w (okB ρ s.H w) T x y _ _ h1 h2
 have e:execOp a.eval o=(do eqGuard op T x y (a.eval x) (a.eval y);binOp op T (a.eval x) (a.eval y)) >>=fun v=>pure (.value v):=by unfold execOp;rw[ho]
 exact⟨z,by rw[e,Sem.run_bind,e1];rfl,e2,by simp[AV.ids,AR.ids,AC.ids]⟩
theorem run_equalIn_bool {T:TypeId}(hu:P.underlying T=some .bool)(p q:Bool)(n:Nat):(Op.equalIn (n+1) T (.bool p) (.bool q)).run P w= .ok (p==q) w:=by
 simp[Op.equalIn,run_underlying hu]
theorem run_equal_bool {T:TypeId}(hu:P.underlying T=some .bool)(p q:Bool):(Op.equal T (.bool p) (.bool q)).run P w= .ok (p==q) w:=run_equalIn_bool hu p q 9999
theorem sound_bool {op:BinOp}{T yt:TypeId}{x y:Operand}{ti:TI}(hΓ:Γ.chk P=true)(hT:Γ.get T=some ti)(hb:ti.bool=true)(ho:o.op= .binOp op T x y yt)(h:semBool op (ev x) (ev y) KV):∃v,KV v∧Good P o ev H (.val v []):=by
 obtain⟨ii,d,fit⟩:=Env.fit hΓ hT
 have hd:d= .bool:=by have:=fit.bool;rw[hb]at this;cases d <;> simp[dBool]at this ⊢
 subst hd
 unfold semBool at h
 split at h
 ·rename_i p q hx hy
  split at h
  ·refine⟨_,h,good_val fun N B M w0 ρ s a w hc hop hR=>?_⟩
   have h1:=(hc.eval x).1
   have h2:=(hc.eval y).1
   rw[hop x (by simp[ho,Op.operands]),hx]at h1
   rw[hop y (by simp[ho,Op.operands]),hy]at h2
   have e1:=inv_bool h1
   have e2:=inv_bool h2
   exact⟨.bool (p==q),by simp only[execOp,ho,e1,e2,Sem.run_bind,run_eqGuard_bool,Result.andThen_ok,binOp,run_equal_bool fit.und,Sem.run_pure],.bool _,by simp[AV.ids,AR.ids,AC.ids]⟩
  ·refine⟨_,h,good_val fun N B M w0 ρ s a w hc hop hR=>?_⟩
   have h1:=(hc.eval x).1
   have h2:=(hc.eval y).1
   rw[hop x (by simp[ho,Op.operands]),hx]at h1
   rw[hop y (by simp[ho,Op.operands]),hy]at h2
   have e1:=inv_bool h1
   have e2:=inv_bool h2
   exact⟨.bool (!(p==q)),by simp only[execOp,ho,e1,e2,Sem.run_bind,run_eqGuard_bool,Result.andThen_ok,binOp,run_equal_bool fit.und,Sem.run_pure],.bool _,by simp[AV.ids,AR.ids,AC.ids]⟩
  ·exact h.elim
 ·exact h.elim
theorem run_part_one {P:Program}{e:TypeId}{d:TypeDesc}(w:World)(hu:P.underlying e=some d)(ha:dAgg d=false){xs:Array Value}{off:Nat}{v:Value}(hx:xs[off]?=some v):(part e xs off).run P w= .ok v w:=by
 cases d <;> simp[dAgg]at ha <;> simp[part,isAgg,run_underlying hu,hx]
theorem plainS_inv {P:Program}{Γ:Env}(hΓ:Γ.chk P=true){t:TypeId}{k:Nat}(h:plainS Γ t=some k):∃d,P.underlying t=some d∧dAgg d=false∧((k=0∧∃q,d= .int q)∨(k=1∧d= .bool)∨(k=2∧d= .string)):=by
 unfold plainS at h
 cases hT:Γ.get t with
 | none=>rw[hT]at h;cases h
 | some ti=>
  rw[hT]at h
  dsimp only at h
  obtain⟨ii,d,fit⟩:=Env.fit hΓ hT
  have h1:=fit.agg
  have h2:=fit.kind
  have h3:=fit.bool
  have h4:=fit.str
  refine⟨d,fit.und,?_,?_⟩
  ·rw[h1];split at h <;> first|assumption|(cases h;done)|simp_all
  ·split at h
   ·rename_i e1 e2
    rw[e2]at h2
    cases d <;> simp[dKind]at h2
    injection h with h;exact .inl ⟨h.symm,_,rfl⟩
   ·rename_i e1 e2 e3
    rw[e3]at h3
    cases d <;> simp[dBool]at h3
    injection h with h;exact .inr (.inl ⟨h.symm,rfl⟩)
   ·rename_i e1 e2 e3 e4
    rw[e4]at h4
    cases d <;> simp[dStr]at h4
    injection h with h;exact .inr (.inr ⟨h.symm,rfl⟩)
   ·cases h
theorem drop_head {i:Nat}{U:Array Value}{u:Value}{us:List Value}(h:U.toList.drop i=u::us):U[i]?=some u∧U.toList.drop (i+1)=us:=by
 have h0:=congrArg (·[0]?) h
 simp only[List.getElem?_cons_zero,List.getElem?_drop,Nat.add_zero]at h0
 refine⟨by simpa using h0,?_⟩
 have:=congrArg (·.drop 1) h
 simpa [List.drop_drop,Nat.add_comm]using this
theorem eqCs_ok {P:Program}{Γ:Env}(hΓ:Γ.chk P=true):∀(l:List (Nat×Nat×TypeId)) (i:Nat) (xs ys:List AC) (K:Bool→Prop),eqCs Γ i l xs ys K→∃r,K r∧
  ∀(fs:List Field) (U V:Array Value) (B:Nat) (ρ:Rho) (w:World) (ok:Nat→Prop) (us vs:List Value),fs.map (fun f=>(f.offset,P.cellsOf f.type,f.type))=l→(∀f∈fs,f.name≠ "_")→U.toList.drop i=us→V.toList.drop i=vs→RCs B ρ w ok us xs→RCs B ρ w ok vs ys→
   ∀(d:Nat) (w':World),(Op.eqFields (d+1) U V fs).run P w'= .ok r w'
 | [],i,[],[],K,h=>⟨true,h,fun fs U V B ρ w ok us vs hf _ _ _ _ _ d w'=>by
   rw[List.map_eq_nil_iff]at hf;subst hf;simp[Op.eqFields]⟩
 | [],_,_::_,_,_,h=>by simp[eqCs]at h
 | [],_,[],_::_,_,h=>by simp[eqCs]at h
 | _::_,_,[],_,_,h=>by simp[eqCs]at h
 | _::_,_,_::_,[],_,h=>by simp[eqCs]at h
 |(off,sz,ft)::l,i,x::xs,y::ys,K,h=>by
  have key:∀(b:Bool),(∃r,K (b && r)∧∀(fs:List Field) (U V:Array Value) (B:Nat) (ρ:Rho) (w:World) (ok:Nat→Prop) (us vs:List Value),fs.map (fun f=>(f.offset,P.cellsOf f.type,f.type))=l→(∀f∈fs,f.name≠ "_")→U.toList.drop (i+1)=us→V.toList.drop (i+1)=vs→RCs B ρ w ok us xs→RCs B ρ w ok vs ys→
    ∀(d:Nat) (w':World),(Op.eqFields (d+1) U V fs).run P w'= .ok r w')→off=i→
    (∀(B:Nat) (ρ:Rho) (w:World) (ok:Nat→Prop) (u v:Value),RC B ρ w ok u x→RC B ρ w ok v y→∀(U V:Array Value),U[i]?=some u→V[i]?=some v→∀(d:Nat) (w':World),(part ft U i).run P w'= .ok u w'∧(part ft V i).run P w'= .ok v w'∧(Op.equalIn (d+1) ft u v).run P w'= .ok b w')→
    ∃r,K r∧∀(fs:List Field) (U V:Array Value) (B:Nat) (ρ:Rho) (w:World) (ok:Nat→Prop) (us vs:List Value),fs.map (fun f=>(f.offset,P.cellsOf f.type,f.type))=(off,sz,ft)::l→(∀f∈fs,f.name≠ "_")→U.toList.drop i=us→V.toList.drop i=vs→RCs B ρ w ok us (x::xs)→RCs B ρ w ok vs (y::ys)→
     ∀(d:Nat) (w':World),(Op.eqFields (d+1) U V fs).run P w'= .ok r w':=by
   rintro b ⟨r,hK,hr⟩ rfl hc
   refine⟨b && r,hK,?_⟩
   intro fs U V B ρ w ok us vs hf hn hU hV hu hv d w'
   match fs,hf,hn with
   | [],hf,_=>simp at hf
   | f::fs,hf,hn=>
    simp only[List.map_cons,List.cons.injEq,Prod.mk.injEq]at hf
    obtain⟨⟨f1,f2,f3⟩,hf⟩:=hf
    match us,vs,hu,hv with
    | u::us,v::vs,hu,hv=>
     obtain⟨a1,a2⟩:=drop_head hU
     obtain⟨b1,b2⟩:=drop_head hV
     obtain⟨c1,c2,c3⟩:=hc B ρ w ok u v hu.1 hv.1 U V a1 b1 d w'
     have hrest:=hr fs U V B ρ w ok us vs hf (fun g hg=>hn g (by simp[hg])) a2 b2 hu.2 hv.2 d w'
     have hname:f.name≠ "_" :=hn f (by simp)
     simp only[Op.eqFields,if_pos hname,Sem.run_bind,f1,f3,c1,c2,c3,Result.andThen_ok]
     cases b
     ·simp
     ·simp only[Bool.not_true,Bool.false_eq_true,if_false,Bool.true_and]
      exact hrest
  rw[eqCs.eq_def]at h
  dsimp only at h
  split at h
  ·rename_i k a k' b e1 e2
   obtain⟨rfl,h⟩:=h
   obtain⟨r,h1,h2⟩:=eqCs_ok hΓ l (i+1) xs ys _ h
   obtain⟨D,hu,hag,hD⟩:=plainS_inv hΓ e2
   refine key (a==b) ⟨r,h1,h2⟩ (Nat.eq_of_beq_eq_true e1) ?_
   intro B ρ w ok u v hu' hv' U V hU hV d w'
   have q1:u= .int k a:=by cases hu';rfl
   have q2:v= .int k b:=by cases hv';rfl
   subst q1;subst q2
   rcases hD with⟨_,q,rfl⟩|⟨h0,_⟩|⟨h0,_⟩
   ·exact⟨run_part_one w' hu hag hU,run_part_one w' hu hag hV,run_equalIn_int w' d ft k q a b hu⟩
   ·cases h0
   ·cases h0
  ·rename_i a b e1 e2
   obtain⟨r,h1,h2⟩:=eqCs_ok hΓ l (i+1) xs ys _ h
   obtain⟨D,hu,hag,hD⟩:=plainS_inv hΓ e2
   refine key (a==b) ⟨r,h1,h2⟩ (Nat.eq_of_beq_eq_true e1) ?_
   intro B ρ w ok u v hu' hv' U V hU hV d w'
   have q1:u= .bool a:=by cases hu';rfl
   have q2:v= .bool b:=by cases hv';rfl
   subst q1;subst q2
   rcases hD with⟨h0,_⟩|⟨_,rfl⟩|⟨h0,_⟩
   ·cases h0
   ·exact⟨run_part_one w' hu hag hU,run_part_one w' hu hag hV,run_equalIn_bool' w' d ft a b hu⟩
   ·cases h0
  ·rename_i a b e1 e2
   obtain⟨r,h1,h2⟩:=eqCs_ok hΓ l (i+1) xs ys _ h
   obtain⟨D,hu,hag,hD⟩:=plainS_inv hΓ e2
   refine key (a==b) ⟨r,h1,h2⟩ (Nat.eq_of_beq_eq_true e1) ?_
   intro B ρ w ok u v hu' hv' U V hU hV d w'
   have q1:u= .string ⟨a.toArray⟩:=by cases hu';rfl
   have q2:v= .string ⟨b.toArray⟩:=by cases hv';rfl
   subst q1;subst q2
   rcases hD with⟨h0,_⟩|⟨h0,_⟩|⟨_,rfl⟩
   ·cases h0
   ·cases h0
   ·refine⟨run_part_one w' hu hag hU,run_part_one w' hu hag hV,?_⟩
    rw[run_equalIn_string w' d ft _ _ hu]
    simp[ByteArray.toList_eq]
  ·exact h.elim
theorem sound_eqS {op:BinOp}{T yt:TypeId}{x y:Operand}{ti:TI}{xs:List AC}(hΓ:Γ.chk P=true)(hT:Γ.get T=some ti)(ho:o.op= .binOp op T x y yt)(hx:ev x= .r (.agg xs))(hok:eqTyOk P T=true)
  (h:semEqS Γ ti.fields op xs (ev y) KV):∃v,KV v∧Good P o ev H (.val v []):=by
 obtain⟨ii,d,fit⟩:=Env.fit hΓ hT
 unfold eqTyOk at hok
 rw[fit.und]at hok
 split at hok
 ·rename_i fs hd
  injection hd with hd
  subst hd
  simp only[Bool.and_eq_true,List.all_eq_true,bne_iff_ne,Bool.not_eq_true']at hok
  obtain⟨⟨hn,hs⟩,hg⟩:=hok
  have hfs:=fit.fields
  simp only[dFields,Bool.and_eq_true,decide_eq_true_eq]at hfs
  have hfo:P.fieldsOf T=fs:=by unfold Program.fieldsOf;rw[fit.und]
  have hund:P.underlying T=some (.struct (P.fieldsOf T)):=by rw[hfo];exact fit.und
  unfold semEqS at h
  split at h
  ·rename_i ys hy
   split at h
   ·obtain⟨r,hK,hr⟩:=eqCs_ok hΓ _ _ _ _ _ h
    refine⟨_,hK,good_val fun N B M w0 ρ s a w hc hop hR=>?_⟩
    have h1:=(hc.eval x).1
    have h2:=(hc.eval y).1
    rw[hop x (by simp[ho,Op.operands]),hx]at h1
    rw[hop y (by simp[ho,Op.operands]),hy]at h2
    obtain⟨us,e1,c1⟩:=h1
    obtain⟨vs,e2,c2⟩:=h2
    have hrun:=hr fs.toList us vs B ρ w _ us.toList vs.toList hfs.1 hn (by simp) (by simp) c1 c2 9998 w
    exact⟨.bool r,by simp only[execOp,ho,e1,e2,Sem.run_bind,run_eqGuard_agg w _ _ _ _ _ _ hg,Result.andThen_ok,run_eql_struct,run_equalIn_struct w 9999 T us vs hund hs,hfo,hrun,Sem.run_pure],.bool _,by simp[AV.ids,AR.ids,AC.ids]⟩
   ·obtain⟨r,hK,hr⟩:=eqCs_ok hΓ _ _ _ _ _ h
    refine⟨_,hK,good_val fun N B M w0 ρ s a w hc hop hR=>?_⟩
    have h1:=(hc.eval x).1
    have h2:=(hc.eval y).1
    rw[hop x (by simp[ho,Op.operands]),hx]at h1
    rw[hop y (by simp[ho,Op.operands]),hy]at h2
    obtain⟨us,e1,c1⟩:=h1
    obtain⟨vs,e2,c2⟩:=h2
    have hrun:=hr fs.toList us vs B ρ w _ us.toList vs.toList hfs.1 hn (by simp) (by simp) c1 c2 9998 w
    exact⟨.bool (!r),by simp only[execOp,ho,e1,e2,Sem.run_bind,run_eqGuard_agg w _ _ _ _ _ _ hg,Result.andThen_ok,run_neq_struct,run_equalIn_struct w 9999 T us vs hund hs,hfo,hrun,Sem.run_pure],.bool _,by simp[AV.ids,AR.ids,AC.ids]⟩
   ·exact h.elim
  ·exact h.elim
 ·cases hok
theorem sound_un {op:UnOp}{T:TypeId}{x:Operand}(ho:o.op= .unOp op T x)(h:semUn op (ev x) KV):∃v,KV v∧Good P o ev H (.val v []):=by
 unfold semUn at h
 split at h
 ·rename_i b hx
  refine⟨_,h,good_val fun N B M w0 ρ s a w hc hop hR=>?_⟩
  have h1:=(hc.eval x).1
  rw[hop x (by simp[ho,Op.operands]),hx]at h1
  have e1:=inv_bool h1
  exact⟨.bool (!b),by simp[execOp,ho,e1,Op.unary],.bool _,by simp[AV.ids,AR.ids,AC.ids]⟩
 ·rename_i k n hx
  refine⟨_,h,good_val fun N B M w0 ρ s a w hc hop hR=>?_⟩
  have h1:=(hc.eval x).1
  rw[hop x (by simp[ho,Op.operands]),hx]at h1
  have e1:=inv_int h1
  exact⟨.int k (k.wrap (0 - n)),by simp[execOp,ho,e1,Op.unary,Op.intArith],.int _ _,by simp[AV.ids,AR.ids,AC.ids]⟩
 ·exact h.elim
theorem sound_extract {i:Nat}{x:Operand}(ho:o.op= .extract x i)(h:semExtract i (ev x) KV):∃v,KV v∧Good P o ev H (.val v []):=by
 unfold semExtract at h
 split at h
 ·rename_i xs hx
  split at h
  ·rename_i r hr
   refine⟨_,h,good_val fun N B M w0 ρ s a w hc hop hR=>?_⟩
   have h1:=hc.eval x
   rw[hop x (by simp[ho,Op.operands]),hx]at h1
   obtain⟨⟨us,e1,e2⟩,e3⟩:=h1
   have key:∀(us:List Value) (xs:List AR) (i:Nat),RRs B ρ w (okB ρ s.H w) us xs→xs[i]?=some r→∃u,us[i]?=some u∧RR B ρ w (okB ρ s.H w) u r:=by
    intro us
    induction us with
    | nil=>intro xs i g hi;cases xs with
     | nil=>simp at hi
     | cons=>exact g.elim
    | cons u us ih=>intro xs i g hi;cases xs with
     | nil=>exact g.elim
     | cons y ys=>cases i with
      | zero=>simp at hi;subst hi;exact⟨u,by simp,g.1⟩
      | succ i=>obtain⟨u',g1,g2⟩:=ih ys i g.2 (by simpa using hi);exact⟨u',by simpa using g1,g2⟩
   obtain⟨u,g1,g2⟩:=key us.toList xs i e2 hr
   refine⟨u,?_,g2,fun id hid=>e3 id (List.mem_flatMap.2 ⟨r,List.mem_of_getElem? hr,hid⟩)⟩
   have:us[i]?=some u:=by simpa using g1
   simp[execOp,ho,e1,Instr.extract,this]
  ·exact h.elim
 ·exact h.elim
theorem sound_nil {x:Operand}(ho:o.op= .nilCheck x){v:AV}(hx:ev x=v)(hv:(∃q off,v= .r (.c (.ptr q off)))∨(∃q sz i off,v= .el q sz i off)∨(∃fr row off,v= .ro fr row off)):Good P o ev H (.val v []):=by
 refine good_val fun N B M w0 ρ s a w hc hop hR=>?_
 have h1:=hc.eval x
 rw[hop x (by simp[ho,Op.operands]),hx]at h1
 refine⟨a.eval x,?_,h1.1,h1.2⟩
 have:∃ad,a.eval x= .pointer (some ad):=by
  rcases hv with⟨q,off,rfl⟩|⟨q,sz,i,off,rfl⟩|⟨fr,row,off,rfl⟩
  ·obtain⟨⟨b,_,e⟩,_⟩:=h1;exact⟨_,e⟩
  ·obtain⟨⟨b,n,c,_,_,e⟩,_⟩:=h1;exact⟨_,e⟩
  ·obtain⟨⟨b,us,e,_⟩,_⟩:=h1;exact⟨_,e⟩
 obtain⟨ad,e⟩:=this
 simp[execOp,ho,e]
theorem dslice {T e:TypeId}{ti:TI}{i:TypeInfo}{d:TypeDesc}(fit:ti.Fit P T i d)(he:ti.elem=some e):d= .slice e:=by
 have:=fit.elem;rw[he]at this
 cases d <;> simp[dElem]at this
 rw[this]
theorem bnd_ok {ok:Nat→Prop}{dflt y n:Nat}{isSl:Bool}{code:BoundsCode}{v:Option AV}{X:Option Value}(hb:bnd dflt v n)(hv:∀u,v=some u→∃x,X=some x∧RV B ρ w ok x u)(hn:v=none→X=none)(hle:n≤y):
  (match X with|some x=>Instr.sliceBound x y code|none=>pure dflt).run P w= .ok n w:=by
 cases v with
 | none=>
  rw[hn rfl]
  simp only[bnd]at hb
  subst hb
  rfl
 | some u=>
  obtain⟨x,rfl,hx⟩:=hv u rfl
  unfold bnd at hb
  split at hb
  ·rename_i he;cases he
  ·rename_i k i he
   injection he with he
   subst he
   subst hb
   rw[inv_int hx]
   simp[Instr.sliceBound,asIntOf,hle]
  ·exact hb.elim
theorem run_sliceBounds {ok:Nat→Prop}{isSl:Bool}{len cap l h:Nat}{lo hi:Option Operand}(hop:∀x,(lo=some x∨hi=some x)→RV B ρ w ok (a.eval x) (ev x))
  (hl:bnd 0 (lo.map ev) l) (hh:bnd len (hi.map ev) h) (h1:l≤h) (h2:h≤cap):(Instr.sliceBounds isSl len cap (lo.map a.eval) (hi.map a.eval) none).run P w= .ok (l,h,cap) w:=by
 have e1:(match hi.map a.eval with|some x=>Instr.sliceBound x cap (if isSl then .sliceAcap else .sliceAlen)|none=>pure len).run P w= .ok h w:=
  bnd_ok (ok:=ok) (isSl:=isSl) hh (fun u hu=>by
   cases hi with
   | none=>cases hu
   | some x=>injection hu with hu;subst hu;exact⟨_,rfl,hop x (.inr rfl)⟩) (fun hn=>by cases hi with|none=>rfl|some x=>cases hn) h2
 have e2:(match lo.map a.eval with|some x=>Instr.sliceBound x h .sliceB|none=>pure 0).run P w= .ok l w:=
  bnd_ok (ok:=ok) (isSl:=isSl) hl (fun u hu=>by
   cases lo with
   | none=>cases hu
   | some x=>injection hu with hu;subst hu;exact⟨_,rfl,hop x (.inl rfl)⟩) (fun hn=>by cases lo with|none=>rfl|some x=>cases hn) h1
 unfold Instr.sliceBounds
 cases hi with
 | none=>
  simp only[Option.map_none]at e1 e2 ⊢
  cases lo with
  | none=>
   simp only[Option.map_none]at e2 ⊢
   simp only[Sem.run_pure,Result.ok.injEq,and_true]at e1 e2
   simp[e1,←e2]
  | some x=>
   simp only[Option.map_some]at e2 ⊢
   simp only[Sem.run_pure,Result.ok.injEq,and_true]at e1
   subst e1
   simp[e2]
 | some y=>
  simp only[Option.map_some]at e1 ⊢
  cases lo with
  | none=>
   simp only[Option.map_none]at e2 ⊢
   simp only[Sem.run_pure,Result.ok.injEq,and_true]at e2
   subst e2
   cases isSl <;> simp at e1 ⊢ <;> simp[e1]
  | some x=>
   simp only[Option.map_some]at e2 ⊢
   cases isSl <;> simp at e1 e2 ⊢ <;> simp[e1,e2]
theorem operands_slice {T:TypeId}{x:Operand}{lo hi:Option Operand}:x∈(Op.slice T x lo hi none).operands.toList∧∀y,(lo=some y∨hi=some y)→y∈(Op.slice T x lo hi none).operands.toList:=by
 refine⟨by simp[Op.operands],fun y hy=>?_⟩
 rcases hy with rfl|rfl <;> simp[Op.operands]
theorem run_sliceAt {T:TypeId}{d:TypeDesc}(hd:P.underlying T=some d)(hna:dAgg d=false)(v:Value)(lo hi:Option Value):(Instr.sliceAt T v lo hi none).run P w=(Instr.slice T v lo hi none).run P w:=by
 simp only[Instr.sliceAt,Sem.run_bind,run_underlying hd,Result.andThen_ok]
 cases d <;> first|rfl|simp[dAgg]at hna
theorem sound_slice_str {T:TypeId}{x:Operand}{lo hi:Option Operand}{ti:TI}{esz:Nat}(hΓ:Γ.chk P=true)(hT:Γ.get T=some ti)(hs:ti.str=true)(ho:o.op= .slice T x lo hi none){t:List UInt8}(hx:ev x=tS t)
  (h:semSlice esz (ev x) (lo.map ev) (hi.map ev) H K):∃e,K e∧Good P o ev H e:=by
 obtain⟨ii,d,fit⟩:=Env.fit hΓ hT
 have hd:d= .string:=by have:=fit.str;rw[hs]at this;cases d <;> simp[dStr]at this ⊢
 subst hd
 rw[hx]at h
 obtain⟨l,hh,b1,b2,h1,h2,hK⟩:=h
 refine⟨_,hK,good_val fun N B M w0 ρ s a w hc hop hR=>?_⟩
 rw[ho]at hop
 have hv:=(hc.eval x).1
 rw[hop x operands_slice.1,hx]at hv
 have e1:=inv_str hv
 have hsz:(⟨t.toArray⟩:ByteArray).size=t.length:=by simp[ByteArray.size]
 refine⟨.string ⟨((t.take hh).drop l).toArray⟩,?_,.str _,by simp[AV.ids,AR.ids,AC.ids]⟩
 have hb:=run_sliceBounds (P:=P) (w:=w) (ρ:=ρ) (a:=a) (ev:=ev) (ok:=okB ρ s.H w) (isSl:=false) (len:=t.length) (cap:=t.length) (lo:=lo) (hi:=hi) (fun y hy=>by have:=(hc.eval y).1;rwa [hop y (operands_slice.2 y hy)]at this) b1 b2 h1 h2
 have he:(⟨t.toArray⟩:ByteArray).extract l hh=⟨((t.take hh).drop l).toArray⟩:=by
  apply ByteArray.ext
  simp[ByteArray.data_extract,List.drop_take]
 simp only[execOp,ho,e1,Sem.run_bind,run_sliceAt fit.und rfl,Instr.slice,run_underlying fit.und,Result.andThen_ok,hsz,hb,Option.map_none,Option.isSome_none,Bool.false_eq_true,if_false,Sem.run_pure,he]
theorem sound_slice_lst {T e:TypeId}{x:Operand}{lo hi:Option Operand}{ti te:TI}(hΓ:Γ.chk P=true)(hT:Γ.get T=some ti)(he:ti.elem=some e)(hE:Γ.get e=some te)(ho:o.op= .slice T x lo hi none)
  (h:semSlice te.size (ev x) (lo.map ev) (hi.map ev) H K) (hns:∀t,ev x≠tS t):∃e,K e∧Good P o ev H e:=by
 obtain⟨ii,d,fit⟩:=Env.fit hΓ hT
 obtain⟨ie,de,fite⟩:=Env.fit hΓ hE
 have hd:=dslice fit he
 subst hd
 have run:∀(B:Nat) (ρ:Rho) (a:Act) (w:World) (ok:Nat→Prop) (A:Option Addr) (n c l hh:Nat),a.eval x= .slice A n c→(∀y,(lo=some y∨hi=some y)→RV B ρ w ok (a.eval y) (ev y))→bnd 0 (lo.map ev) l→bnd n (hi.map ev) hh→l≤hh→hh≤c→
   (execOp a.eval o).run P w= .ok (.value (.slice (if c=l then A else A.map (·.add (l * te.size))) (hh - l) (c - l))) w:=by
  intro B ρ a w ok A n c l hh e1 hb b1 b2 h1 h2
  have hb:=run_sliceBounds (P:=P) (w:=w) (ρ:=ρ) (a:=a) (ev:=ev) (ok:=ok) (isSl:=true) (len:=n) (cap:=c) (lo:=lo) (hi:=hi) hb b1 b2 h1 h2
  simp only[execOp,ho,e1,Sem.run_bind,run_sliceAt fit.und rfl,Instr.slice,run_underlying fit.und,Result.andThen_ok,hb,Option.map_none,run_sizeOf fite.info,fite.size,Sem.run_pure]
 unfold semSlice at h
 split at h
 ·rename_i t hx;exact absurd hx (hns t)
 ·rename_i sz rows hx
  obtain⟨rfl,l,hh,b1,b2,h1,h2,hK⟩:=h
  refine⟨_,hK,good_val fun N B M w0 ρ s a w hc hop hR=>?_⟩
  rw[ho]at hop
  have hv:=(hc.eval x).1
  rw[hop x operands_slice.1,hx]at hv
  have hv:RT w (okB ρ s.H w) (a.eval x) (.lst te.size rows):=hv
  obtain⟨A,c,e1,hc1,hc2,hu,_⟩:=hv.slice_inv
  rw[e1]at hv
  exact⟨_,run B ρ a w (okB ρ s.H w) A _ c l hh e1 (fun y hy=>by have:=(hc.eval y).1;rwa [hop y (operands_slice.2 y hy)]at this) b1 b2 h1 (by omega),hv.cut l hh h1 h2,by simp[AV.ids,AR.ids,AC.ids]⟩
 ·rename_i sz rows hx
  obtain⟨rfl,l,hh,b1,b2,h1,h2,hK⟩:=h
  refine⟨_,hK,good_val fun N B M w0 ρ s a w hc hop hR=>?_⟩
  rw[ho]at hop
  have hv:=(hc.eval x).1
  rw[hop x operands_slice.1,hx]at hv
  have hv:RT w (okF B (okB ρ s.H w) true) (a.eval x) (.lst te.size rows):=hv
  obtain⟨A,c,e1,hc1,hc2,hu,_⟩:=hv.slice_inv
  rw[e1]at hv
  exact⟨_,run B ρ a w (okB ρ s.H w) A _ c l hh e1 (fun y hy=>by have:=(hc.eval y).1;rwa [hop y (operands_slice.2 y hy)]at this) b1 b2 h1 (by omega),hv.cut l hh h1 h2,by simp[AV.ids,AR.ids,AC.ids]⟩
 ·rename_i q hx
  split at h
  ·rename_i fr sz rows hq
   split at h
   ·rename_i hlo
    obtain⟨hh,b2,h2,hK⟩:=h
    refine⟨_,hK,good_val fun N B M w0 ρ s a w hc hop hR=>?_⟩
    rw[ho]at hop
    have hv:=hc.eval x
    rw[hop x operands_slice.1,hx]at hv
    obtain⟨⟨_,e1⟩,hid⟩:=hv
    have hq':s.H q=some (.arr fr sz rows):=by rw[hR q (by simp)];exact hq
    obtain⟨hu,g⟩:=hc.arr hq'
    have hlo':bnd 0 (lo.map ev) 0:=by rw[hlo];rfl
    rcases g with⟨g1,g2⟩|⟨b,cap,cur,e,fz,g1,g2,g3,g4,g5,g6,g7,g8,g9⟩
    ·rw[g1]at e1
     subst g2
     have hh0:hh=0:=by simpa using h2
     subst hh0
     exact⟨_,run B ρ a w (okB ρ s.H w) none 0 0 0 0 e1 (fun y hy=>by have:=(hc.eval y).1;rwa [hop y (operands_slice.2 y hy)]at this) hlo' b2 (Nat.le_refl _) (Nat.le_refl _),⟨none,0,0,g1,by simp,Nat.le_refl _⟩,hid⟩
    ·rw[g1]at e1
     refine⟨_,run B ρ a w (okB ρ s.H w) _ _ cap 0 hh e1 (fun y hy=>by have:=(hc.eval y).1;rwa [hop y (operands_slice.2 y hy)]at this) hlo' b2 (Nat.zero_le _) (by omega),⟨some ⟨b,0,none⟩,_,cap,g1,?_,h2⟩,hid⟩
     simp[add_zero']
   ·exact h.elim
  ·rename_i sz rows hole hq
   split at h
   ·rename_i hlo
    obtain⟨hh,b2,h2,hK⟩:=h
    refine⟨_,hK,good_val fun N B M w0 ρ s a w hc hop hR=>?_⟩
    rw[ho]at hop
    have hv:=hc.eval x
    rw[hop x operands_slice.1,hx]at hv
    obtain⟨⟨_,e1⟩,hid⟩:=hv
    have hq':s.H q=some (.dar sz rows hole):=by rw[hR q (by simp)];exact hq
    obtain⟨hu,g⟩:=hc.dar hq'
    have hlo':bnd 0 (lo.map ev) 0:=by rw[hlo];rfl
    rcases g with⟨g1,g2,_⟩|⟨b,cap,cur,e,fz,Fp,g1,g2,g3,g4,g5,g6,_⟩
    ·rw[g1]at e1
     subst g2
     have hh0:hh=0:=by simpa using h2
     subst hh0
     exact⟨_,run B ρ a w (okB ρ s.H w) none 0 0 0 0 e1 (fun y hy=>by have:=(hc.eval y).1;rwa [hop y (operands_slice.2 y hy)]at this) hlo' b2 (Nat.le_refl _) (Nat.le_refl _),⟨none,0,0,g1,by simp,Nat.le_refl _⟩,hid⟩
    ·rw[g1]at e1
     refine⟨_,run B ρ a w (okB ρ s.H w) _ _ cap 0 hh e1 (fun y hy=>by have:=(hc.eval y).1;rwa [hop y (operands_slice.2 y hy)]at this) hlo' b2 (Nat.zero_le _) (by omega),⟨some ⟨b,0,none⟩,_,cap,g1,?_,h2⟩,hid⟩
     simp[add_zero']
   ·exact h.elim
  ·exact h.elim
 ·rename_i q k hx
  split at h
  ·rename_i fr sz rows hq
   split at h
   ·rename_i hlo
    obtain⟨hh,b2,h2,h3,hK⟩:=h
    refine⟨_,hK,good_val fun N B M w0 ρ s a w hc hop hR=>?_⟩
    rw[ho]at hop
    have hv:=hc.eval x
    rw[hop x operands_slice.1,hx]at hv
    obtain⟨⟨A,n,c,e0,e1,e2⟩,hid⟩:=hv
    have hq':s.H q=some (.arr fr sz rows):=by rw[hR q (by simp)];exact hq
    obtain⟨hu,g⟩:=hc.arr hq'
    have hlo':bnd 0 (lo.map ev) 0:=by rw[hlo];rfl
    have hnc:n≤c:=by
     rcases g with⟨g1,g2⟩|⟨b,cap,cur,e,fz,g1,g2,g3,g4,g5,g6,g7,g8,g9⟩
     ·rw[g1]at e0;injection e0 with _ x1 x2;omega
     ·rw[g1]at e0;injection e0 with _ x1 x2;omega
    refine⟨_,run B ρ a w (okB ρ s.H w) A k c 0 hh e1 (fun y hy=>by have:=(hc.eval y).1;rwa [hop y (operands_slice.2 y hy)]at this) hlo' b2 (Nat.zero_le _) (by omega),⟨A,n,c,e0,?_,by omega⟩,hid⟩
    cases A <;> simp[add_zero']
   ·exact h.elim
  ·rename_i sz rows hole hq
   split at h
   ·rename_i hlo
    obtain⟨hh,b2,h2,h3,hK⟩:=h
    refine⟨_,hK,good_val fun N B M w0 ρ s a w hc hop hR=>?_⟩
    rw[ho]at hop
    have hv:=hc.eval x
    rw[hop x operands_slice.1,hx]at hv
    obtain⟨⟨A,n,c,e0,e1,e2⟩,hid⟩:=hv
    have hq':s.H q=some (.dar sz rows hole):=by rw[hR q (by simp)];exact hq
    obtain⟨hu,g⟩:=hc.dar hq'
    have hlo':bnd 0 (lo.map ev) 0:=by rw[hlo];rfl
    have hnc:n≤c:=by
     rcases g with⟨g1,g2,_⟩|⟨b,cap,cur,e,fz,Fp,g1,g2,g3,g4,g5,g6,_⟩
     ·rw[g1]at e0;injection e0 with _ x1 x2;omega
     ·rw[g1]at e0;injection e0 with _ x1 x2;omega
    refine⟨_,run B ρ a w (okB ρ s.H w) A k c 0 hh e1 (fun y hy=>by have:=(hc.eval y).1;rwa [hop y (operands_slice.2 y hy)]at this) hlo' b2 (Nat.zero_le _) (by omega),⟨A,n,c,e0,?_,by omega⟩,hid⟩
    cases A <;> simp[add_zero']
   ·exact h.elim
  ·exact h.elim
 ·exact h.elim
theorem sound_len {T:TypeId}{x:Operand}{ti:TI}(hΓ:Γ.chk P=true)(hT:Γ.get T=some ti)(ho:o.op= .call {callee:= .builtin .len,args:=#[x],argTypes:=#[T]})
  (h:(match ti.str,ti.elem with|true,none=>∃b,ev x=tS b∧K (.val (tI .i64 b.length) [])|false,some _=>semLen (ev x) H K|_,_=>False)):∃e,K e∧Good P o ev H e:=by
 obtain⟨ii,d,fit⟩:=Env.fit hΓ hT
 have hopx:x∈o.op.operands.toList:=by simp[ho,Op.operands,Call.operands]
 have rexec:∀(a:Act) (w:World) (v u:Value),a.eval x=v→(Builtin.len_ #[T] o.type #[v]).run P w= .ok u w→(execOp a.eval o).run P w= .ok (.value u) w:=by
  rintro a w v u rfl h;simp[execOp,ho,resolve,invoke,builtin,h]
 split at h
 ·rename_i hs _
  have hd:d= .string:=by have:=fit.str;rw[hs]at this;cases d <;> simp[dStr]at this ⊢
  subst hd
  have rstr:∀(w:World) (b:ByteArray) (ty:TypeId),(Builtin.len_ #[T] ty #[.string b]).run P w= .ok (goInt b.size) w:=by
   intro w b ty;simp[Builtin.len_,run_underlying fit.und]
  obtain⟨b,hx,h⟩:=h
  refine⟨_,h,good_val fun N B M w0 ρ s a w hc hop hR=>?_⟩
  have hv:=(hc.eval x).1
  rw[hop x hopx,hx]at hv
  exact⟨.int .i64 b.length,rexec a w _ _ (inv_str hv) (by rw[rstr];rfl),.int _ _,by simp[AV.ids,AR.ids,AC.ids]⟩
 ·rename_i e hs he
  have hd:=dslice fit he
  subst hd
  have rs:∀(w:World) (A:Option Addr) (n c:Nat) (ty:TypeId),(Builtin.len_ #[T] ty #[.slice A n c]).run P w= .ok (.int .i64 n) w:=by
   intro w A n c ty;simp[Builtin.len_,run_underlying fit.und,goInt]
  unfold semLen at h
  split at h
  ·rename_i sz rows hx
   refine⟨_,h,good_val fun N B M w0 ρ s a w hc hop hR=>?_⟩
   have hv:=(hc.eval x).1
   rw[hop x hopx,hx]at hv
   have hv:RT w (okB ρ s.H w) (a.eval x) (.lst sz rows):=hv
   obtain⟨A,c,e1,_⟩:=hv.slice_inv
   exact⟨_,rexec a w _ _ e1 (rs w A _ c _),.int _ _,by simp[AV.ids,AR.ids,AC.ids]⟩
  ·rename_i sz rows hx
   refine⟨_,h,good_val fun N B M w0 ρ s a w hc hop hR=>?_⟩
   have hv:=(hc.eval x).1
   rw[hop x hopx,hx]at hv
   have hv:RT w (okF B (okB ρ s.H w) true) (a.eval x) (.lst sz rows):=hv
   obtain⟨A,c,e1,_⟩:=hv.slice_inv
   exact⟨_,rexec a w _ _ e1 (rs w A _ c _),.int _ _,by simp[AV.ids,AR.ids,AC.ids]⟩
  ·rename_i n hx
   refine⟨_,h,good_val fun N B M w0 ρ s a w hc hop hR=>?_⟩
   have hv:=(hc.eval x).1
   rw[hop x hopx,hx]at hv
   exact⟨_,rexec a w _ _ hv (rs w _ _ _ _),.int _ _,by simp[AV.ids,AR.ids,AC.ids]⟩
  ·rename_i q hx
   split at h
   ·rename_i fr sz rows hq
    refine⟨_,h,good_val fun N B M w0 ρ s a w hc hop hR=>?_⟩
    have hv:=(hc.eval x).1
    rw[hop x hopx,hx]at hv
    obtain⟨_,e1⟩:=hv
    have hq':s.H q=some (.arr fr sz rows):=by rw[hR q (by simp)];exact hq
    obtain⟨hu,g⟩:=hc.arr hq'
    rcases g with⟨g1,g2⟩|⟨b,cap,cur,e,fz,g1,_⟩
    ·subst g2
     exact⟨_,rexec a w _ _ (e1.trans g1) (rs w _ _ _ _),.int _ _,by simp[AV.ids,AR.ids,AC.ids]⟩
    ·exact⟨_,rexec a w _ _ (e1.trans g1) (rs w _ _ _ _),.int _ _,by simp[AV.ids,AR.ids,AC.ids]⟩
   ·rename_i sz rows hole hq
    refine⟨_,h,good_val fun N B M w0 ρ s a w hc hop hR=>?_⟩
    have hv:=(hc.eval x).1
    rw[hop x hopx,hx]at hv
    obtain⟨_,e1⟩:=hv
    have hq':s.H q=some (.dar sz rows hole):=by rw[hR q (by simp)];exact hq
    obtain⟨hu,g⟩:=hc.dar hq'
    rcases g with⟨g1,g2,_⟩|⟨b,cap,cur,e,fz,Fp,g1,_⟩
    ·subst g2
     exact⟨_,rexec a w _ _ (e1.trans g1) (rs w _ _ _ _),.int _ _,by simp[AV.ids,AR.ids,AC.ids]⟩
    ·exact⟨_,rexec a w _ _ (e1.trans g1) (rs w _ _ _ _),.int _ _,by simp[AV.ids,AR.ids,AC.ids]⟩
   ·exact h.elim
  ·rename_i q k hx
   refine⟨_,h,good_val fun N B M w0 ρ s a w hc hop hR=>?_⟩
   have hv:=(hc.eval x).1
   rw[hop x hopx,hx]at hv
   obtain⟨A,n,c,_,e1,_⟩:=hv
   exact⟨_,rexec a w _ _ e1 (rs w _ _ _ _),.int _ _,by simp[AV.ids,AR.ids,AC.ids]⟩
  ·exact h.elim
 ·exact h.elim
theorem sound_min {x y:Operand}{ts:Array TypeId}{k k':IntKind}{n m:Int}(ho:o.op= .call {callee:= .builtin .min,args:=#[x,y],argTypes:=ts})(hx:ev x=tI k n)(hy:ev y=tI k' m):
  Good P o ev H (.val (tI k (if m < n then m else n)) []):=by
 refine good_val fun N B M w0 ρ s a w hc hop hR=>?_
 have h1:=(hc.eval x).1
 have h2:=(hc.eval y).1
 rw[hop x (by simp[ho,Op.operands,Call.operands]),hx]at h1
 rw[hop y (by simp[ho,Op.operands,Call.operands]),hy]at h2
 exact⟨_,by simp[execOp,ho,resolve,invoke,builtin,inv_int h1,inv_int h2,Builtin.min_,Builtin.min2],.int _ _,by simp[AV.ids,AR.ids,AC.ids]⟩
theorem sound_max {x y:Operand}{ts:Array TypeId}{k k':IntKind}{n m:Int}(ho:o.op= .call {callee:= .builtin .max,args:=#[x,y],argTypes:=ts})(hx:ev x=tI k n)(hy:ev y=tI k' m):
  Good P o ev H (.val (tI k (if m > n then m else n)) []):=by
 refine good_val fun N B M w0 ρ s a w hc hop hR=>?_
 have h1:=(hc.eval x).1
 have h2:=(hc.eval y).1
 rw[hop x (by simp[ho,Op.operands,Call.operands]),hx]at h1
 rw[hop y (by simp[ho,Op.operands,Call.operands]),hy]at h2
 exact⟨_,by simp[execOp,ho,resolve,invoke,builtin,inv_int h1,inv_int h2,Builtin.max_,Builtin.max2],.int _ _,by simp[AV.ids,AR.ids,AC.ids]⟩
end
end Go.Sim
