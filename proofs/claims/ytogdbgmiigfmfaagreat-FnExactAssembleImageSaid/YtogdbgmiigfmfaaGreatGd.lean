import Derived.Test.YtogdbgmiigfmfaaGreatGc
namespace Go.Sim
open Go.RowKit
abbrev Ren:=List (Id×Option (Id×Option Nat))
def rget:Ren→Id→Option (Option (Id×Option Nat))
 | [],_=>none
 |(i,x)::r,o=>bif idEq o i then some x else rget r o
def oneEq:Option (Id×Option Nat)→Option (Id×Option Nat)→Prop
 | none,none=>True
 | some (a,none),some (b,none)=>idEq a b=true
 | some (a,some k),some (b,some k')=>idEq a b=true∧k=k'
 | _,_=>False
def tie (r:Ren)(o:Id)(x:Option (Id×Option Nat))(K:Ren→Prop):Prop:=
 match rget r o with
 | some y=>oneEq y x∧K r
 | none=>K ((o,x)::r)
def leC (r:Ren):AC→AC→(Ren→Prop)→Prop
 | .t x,.t y,K=>x=y∧K r
 | .f x,.t y,K=>x=y∧K r
 | .f x,.f y,K=>x=y∧K r
 | .nils _,.t y,K=>(∃sz,y= .lst sz [])∧K r
 | .nils _,.f y,K=>(∃sz,y= .lst sz [])∧K r
 | .nils _,.nils _,K=>K r
 | .nils _,.own o',K=>tie r o' none K
 | .nilp,.nilp,K=>K r
 | .own o,.own o',K=>tie r o' (some (o,none)) K
 | .sub o k,.sub o' k',K=>k=k'∧tie r o' (some (o,none)) K
 | .sub o k,.own o',K=>tie r o' (some (o,some k)) K
 | .ptr o n,.ptr o' n',K=>n=n'∧tie r o' (some (o,none)) K
 | .mpv o,.mpv o',K=>tie r o' (some (o,none)) K
 | _,.opq,K=>K r
 | _,_,_=>False
abbrev leCs (r:Ren):List AC→List AC→(Ren→Prop)→Prop
 | [],[],K=>K r
 | x::xs,y::ys,K=>leC r x y fun r=>leCs r xs ys K
 | _,_,_=>False
def leR (r:Ren):AR→AR→(Ren→Prop)→Prop
 | .c x,.c y,K=>leC r x y K
 | .agg xs,.agg ys,K=>leCs r xs ys K
 | _,_,_=>False
abbrev leRs (r:Ren):List AR→List AR→(Ren→Prop)→Prop
 | [],[],K=>K r
 | x::xs,y::ys,K=>leR r x y fun r=>leRs r xs ys K
 | _,_,_=>False
def leV (r:Ren)(x:AV):AV→(Ren→Prop)→Prop
 | .unk,K=>K r
 | .r y,K=>(match x with
   | .r x=>leR r x y K
   | _=>False)
 | .tup ys,K=>(match x with
   | .tup xs=>leRs r xs ys K
   | _=>False)
 | .el o' sz' i' off',K=>(match x with
   | .el o sz i off=>sz=sz'∧i=i'∧off=off'∧tie r o' (some (o,none)) K
   | _=>False)
 | .ro fr' row' off',K=>(match x with
   | .ro fr row off=>fr=fr'∧row=row'∧off=off'∧K r
   | _=>False)
abbrev leFr (fr:List (Nat×AV)):List (Nat×AV)→Ren→(Ren→Prop)→Prop
 | [],r,K=>K r
 |(t,y)::rest,r,K=>leV r (look fr t) y fun r=>leFr fr rest r K
def leB (m fr fr':Bool)(rows:List (List Tr)):Prop:=
 match fr' with
 | false=>True
 | true=>(match fr with
   | true=>True
   | false=>m=true∧flat rows)
def leO (m:Bool)(r:Ren)(cutAt:Option Nat):AO→AO→(Ren→Prop)→Prop
 | .arr fr sz rows,.arr fr' sz' rows',K=>(match cutAt with
   | none=>sz=sz'∧rows=rows'∧leB m fr fr' rows'∧K r
   | some k=>k≤rows.length∧sz=sz'∧rows.take k=rows'∧leB m fr fr' rows'∧K r)
 | .box xs,.box ys,K=>(match cutAt with
   | none=>leCs r xs ys K
   | some _=>False)
 | .dar sz rows none,.dar sz' rows' none,K=>(match cutAt with
   | none=>sz=sz'∧rows=rows'∧K r
   | some k=>k≤rows.length∧sz=sz'∧rows.take k=rows'∧K r)
 | .arr _ sz rows,.dar sz' rows' none,K=>(match cutAt with
   | none=>sz=sz'∧flat rows∧deepRows rows=rows'∧K r
   | some _=>False)
 | .dar sz rows none,.arr fr' sz' rows',K=>(match cutAt with
   | none=>sz=sz'∧rows=deepRows rows'∧(!fr' || m)=true∧K r
   | some _=>False)
 | .mp kk es,.mp kk' es',K=>(match cutAt with
   | none=>kk=kk'∧es=es'∧K r
   | some _=>False)
 | _,_,_=>False
abbrev leH (m:Bool)(h:List (Id×Option AO)):List (Id×Option AO)→Ren→(Ren→Prop)→Prop
 | [],r,K=>K r
 |(_,none)::rest,r,K=>leH m h rest r K
 |(o',some x)::rest,r,K=>(match rget r o' with
   | some none=>(match x with
    | .arr _ _ rows=>rows=[]∧leH m h rest r K
    | .dar _ rows none=>rows=[]∧leH m h rest r K
    | _=>False)
   | some (some (o,c))=>(match hget h o with
    | some y=>leO m r c y x fun r=>leH m h rest r K
    | none=>False)
   | none=>False)
def renIn (o:Id):Ren→Bool
 | []=>false
 |(_,some (o',_))::r=>idEq o o' || renIn o r
 |(_,none)::r=>renIn o r
def renOk:Ren→Bool
 | []=>true
 |(_,some (o,_))::r=>!renIn o r && renOk r
 |(_,none)::r=>renOk r
def usedIn (u:List Nat):List Id→Bool
 | []=>true
 | o::l=>used u o.1 && usedIn u l
def usedFr (u:List Nat):List (Nat×AV)→Bool
 | []=>true
 |(_,v)::l=>usedIn u v.ids && usedFr u l
def usedH (u:List Nat):List (Id×Option AO)→Bool
 | []=>true
 |(o,some x)::l=>used u o.1 && (usedIn u x.ids && usedH u l)
 |(_,none)::l=>usedH u l
def pOk (r:Ren):Bool:=r.all fun p=>!(Nat.beq p.1.1 0) || (match p.2 with
 | some (o,none)=>idEq o p.1
 | _=>false)
def initR (m:Bool):List (Id×Option AO)→Ren
 | []=>[]
 |(o,some _)::l=>(match !m && Nat.beq o.1 0 with
   | true=>(o,some (o,none))::initR m l
   | false=>initR m l)
 |(_,none)::l=>initR m l
def Leq (m:Bool)(st st':St):Prop:=
 ((usedFr st'.u st'.fr && usedH st'.u st'.h) && (m || used st'.u 0))=true∧leFr st.fr st'.fr (initR m st'.h) fun r=>leH m st.h st'.h r fun r=>(renOk r && (m || pOk r))=true
def holesOf:List (Id×Option AO)→List Id→List Id
 | [],_=>[]
 |(o,x)::l,seen=>(match memI o seen with
   | true=>holesOf l seen
   | false=>(match x with
    | some (.dar _ _ (some _))=>o::holesOf l (o::seen)
    | _=>holesOf l (o::seen)))
abbrev closeAll:List Id→St→(St→Prop)→Prop
 | [],st,K=>K st
 | o::l,st,K=>closeAt (hget st.h) (.el o 0 0 0) fun _ us _=>hpushK us st.h fun h=>closeAll l ⟨st.fr,h,st.u⟩ K
def LeqG (m:Bool)(st st':St):Prop:=closeAll (holesOf st.h []) st fun st=>Leq m st st'
inductive Out where
 | normal
 | exit (id:Nat)
 | ret
def Out.at:Out→Exit
 | .normal=> .normal
 | .exit id=> .exit id
 | .ret=> .ret
def litc (st:St)(c:Operand)(b:Bool):St:=
 match c with
 | .tmp t=>lit st t b
 | _=>st
def wReg (P:Program)(Γ:Env)(N:Nat)(ops:List Oper)(draw:Bool)(st:St)(K:St→Prop):Prop:=
 match draw with
 | false=>wOps P Γ N ops ops st [] fun st' _=>K st'
 | true=>(wOps P Γ N ops ops st [] fun st' log=>regOk ops log.reverse=true∧K st')∨∃xi xj:Nat,wRegX P Γ N ops xi xj st K
def W (m:Bool)(P:Program)(Γ:Env)(N:Nat):Code→(Out→St→Prop)→St→Prop
 | .skip,K,st=>K .normal st
 | .label _,K,st=>K .normal st
 | .region _ ops draw,K,st=>wReg P Γ N ops.toList draw st (K .normal)
 | .seq x y,K,st=>W m P Γ N x (fun e st'=>(match e with
   | .normal=>W m P Γ N y K st'
   | e=>K e st')) st∨
   ∃(ι:Type) (S:ι→St),W m P Γ N x (fun e st'=>(match e with
    | .normal=>∃i,LeqG m st' (S i)
    | e=>K e st')) st∧∀i,W m P Γ N y K (S i)
 | .cond c x y,K,st=>(match evL (look st.fr) c with
   | .r (.c (.t (.bool b)))=>ifB b (W m P Γ N x K (litc st c true)) (W m P Γ N y K (litc st c false))
   | _=>False)
 | .block id c,K,st=>W m P Γ N c (fun e st'=>(match e with
   | .exit id'=>(match Nat.beq id' id with
     | true=>K .normal st'
     | false=>K (.exit id') st')
   | e=>K e st')) st
 | .loop c,K,st=>∃(ι:Type) (S:ι→St) (μ:ι→Nat) (i0:ι),LeqG m st (S i0)∧∀i,W m P Γ N c (fun e st'=>(match e with
   | .normal=>∃j,LeqG m st' (S j)∧μ j < μ i
   | e=>K e st')) (S i)
 | .exit id,K,st=>K (.exit id) st
 | .ret,K,st=>K .ret st
 | _,_,_=>False
theorem reg_inl {A:Prop}{Q:Nat→Nat→Prop}(h:A):A∨∃xi xj:Nat,Q xi xj:=Or.inl h
theorem reg_inr {A:Prop}{Q:Nat→Nat→Prop}(xi xj:Nat)(h:Q xi xj):A∨∃xi xj:Nat,Q xi xj:=Or.inr ⟨xi,xj,h⟩
section
variable {P:Program} {Γ:Env} {N B:Nat} {M:Nat→Prop} {w0:Start} {w:World} {ρ:Rho} {st st':St} {a:Act} {m:Bool}
def Ext (r r':Ren):Prop:=∀o x,rget r o=some x→rget r' o=some x
theorem Ext.refl (r:Ren):Ext r r:=fun _ _ h=>h
theorem Ext.trans {r r' r'':Ren}(h:Ext r r')(h':Ext r' r''):Ext r r'':=fun o x hx=>h' o x (h o x hx)
theorem ext_cons {r:Ren}{o:Id}{x:Option (Id×Option Nat)}(h:rget r o=none):Ext r ((o,x)::r):=by
 intro o' x' h'
 rw[rget]
 cases hb:idEq o' o with
 | true=>rw[idEq_iff.1 hb,h]at h';cases h'
 | false=>exact h'
def vrv (ρ:Id→Value):Option (Id×Option Nat)→Value
 | some (o,none)=>ρ o
 | some (o,some k)=>(match ρ o with
   | .slice A _ c=> .slice A k c
   | v=>v)
 | none=> .slice none 0 0
def vr (ρ:Id→Value)(r:Ren)(o:Id):Value:=
 match rget r o with
 | some x=>vrv ρ x
 | none=>ρ o
theorem vr_of {ρ:Id→Value}{r:Ren}{o:Id}{x:Option (Id×Option Nat)}(h:rget r o=some x):vr ρ r o=vrv ρ x:=by unfold vr;rw[h]
theorem oneEq_iff {x y:Option (Id×Option Nat)}(h:oneEq x y):x=y:=by
 unfold oneEq at h
 split at h
 ·rfl
 ·rw[idEq_iff.1 h]
 ·rw[idEq_iff.1 h.1,h.2]
 ·exact h.elim
theorem tie_ok {r:Ren}{o:Id}{x:Option (Id×Option Nat)}{K:Ren→Prop}(h:tie r o x K):∃r',Ext r r'∧rget r' o=some x∧K r':=by
 unfold tie at h
 split at h
 ·rename_i y hy
  exact⟨r,.refl r,by rw[hy,oneEq_iff h.1],h.2⟩
 ·rename_i hy
  exact⟨_,ext_cons hy,by rw[rget,idEq_iff.2 rfl];rfl,h⟩
def relrC (r:Ren)(x y:AC):Prop:=∀{B:Nat} {ρ ρ':Rho} {w:World} {ok ok':Nat→Prop} {v:Value},(∀o,ρ' o=vr ρ r o)→(∀b,ok b→ok' b)→RC B ρ w ok v x→RC B ρ' w ok' v y
def relrCs (r:Ren)(x y:List AC):Prop:=∀{B:Nat} {ρ ρ':Rho} {w:World} {ok ok':Nat→Prop} {v:List Value},(∀o,ρ' o=vr ρ r o)→(∀b,ok b→ok' b)→RCs B ρ w ok v x→RCs B ρ' w ok' v y
def relrR (r:Ren)(x y:AR):Prop:=∀{B:Nat} {ρ ρ':Rho} {w:World} {ok ok':Nat→Prop} {v:Value},(∀o,ρ' o=vr ρ r o)→(∀b,ok b→ok' b)→RR B ρ w ok v x→RR B ρ' w ok' v y
def relrRs (r:Ren)(x y:List AR):Prop:=∀{B:Nat} {ρ ρ':Rho} {w:World} {ok ok':Nat→Prop} {v:List Value},(∀o,ρ' o=vr ρ r o)→(∀b,ok b→ok' b)→RRs B ρ w ok v x→RRs B ρ' w ok' v y
def relrV (r:Ren)(x y:AV):Prop:=∀{B:Nat} {ρ ρ':Rho} {w:World} {ok ok':Nat→Prop} {v:Value},(∀o,ρ' o=vr ρ r o)→(∀b,ok b→ok' b)→RV B ρ w ok v x→RV B ρ' w ok' v y
theorem RT.up {w:World}{ok ok':Nat→Prop}{v:Value}{t:Tr}(h:RT w ok v t)(hk:∀b,ok b→ok' b):RT w ok' v t:=h.keep fun b hb=>⟨rfl,hk b hb⟩
theorem leC_ok {r:Ren}{x y:AC}{K:Ren→Prop}(h:leC r x y K):∃r',Ext r r'∧(∀f,Ext r' f→relrC f x y)∧K r':=by
 cases x <;> cases y <;> simp only[leC]at h
 case t.t=>exact⟨r,.refl r,fun f _ B ρ ρ' w ok ok' v hρ hk hv=>by rw[←h.1];exact RT.up hv hk,h.2⟩
 case f.t=>exact⟨r,.refl r,fun f _ B ρ ρ' w ok ok' v hρ hk hv=>by rw[←h.1];exact RT.up hv fun b hb=>hk b hb.1,h.2⟩
 case f.f=>exact⟨r,.refl r,fun f _ B ρ ρ' w ok ok' v hρ hk hv=>by rw[←h.1];exact RT.up hv fun b hb=>⟨hk b hb.1,hb.2⟩,h.2⟩
 case nils.t=>obtain⟨⟨sz,rfl⟩,h⟩:=h;exact⟨r,.refl r,fun f _ B ρ ρ' w ok ok' v hρ hk hv=>by rw[show v=_ from hv];exact .emp _ _ _ (by simp[maxLen]),h⟩
 case nils.f=>obtain⟨⟨sz,rfl⟩,h⟩:=h;exact⟨r,.refl r,fun f _ B ρ ρ' w ok ok' v hρ hk hv=>by rw[show v=_ from hv];exact .emp _ _ _ (by simp[maxLen]),h⟩
 case nils.nils=>exact⟨r,.refl r,fun f _ B ρ ρ' w ok ok' v hρ hk hv=>hv,h⟩
 case nilp.nilp=>exact⟨r,.refl r,fun f _ B ρ ρ' w ok ok' v hρ hk hv=>hv,h⟩
 case t.opq|f.opq|nils.opq|nilp.opq|own.opq|sub.opq|ptr.opq|opq.opq|mpv.opq=>exact⟨r,.refl r,fun f _ B ρ ρ' w ok ok' v hρ hk hv=>⟨RC.one hv,RC.cells1 hv⟩,h⟩
 case nils.own=>
  obtain⟨r',h1,h2,h3⟩:=tie_ok h
  refine⟨r',h1,fun f hf B ρ ρ' w ok ok' v hρ hk hv=>?_,h3⟩
  have e:=hf _ _ h2
  have e':=(hρ _).trans (vr_of (ρ:=ρ) e)
  simp only[vrv]at e'
  simp only[RC,e']at hv ⊢
  exact⟨⟨_,_,_,rfl⟩,hv⟩
 case own.own=>
  obtain⟨r',h1,h2,h3⟩:=tie_ok h
  refine⟨r',h1,fun f hf B ρ ρ' w ok ok' v hρ hk hv=>?_,h3⟩
  have e:=hf _ _ h2
  have e':=(hρ _).trans (vr_of (ρ:=ρ) e)
  simp only[vrv]at e'
  simp only[RC,e']at hv ⊢
  exact hv
 case sub.own=>
  obtain⟨r',h1,h2,h3⟩:=tie_ok h
  refine⟨r',h1,fun f hf B ρ ρ' w ok ok' v hρ hk hv=>?_,h3⟩
  have e:=hf _ _ h2
  have e':=(hρ _).trans (vr_of (ρ:=ρ) e)
  simp only[vrv]at e'
  simp only[RC,e']at hv ⊢
  obtain⟨A,n,c,g1,g2,g3⟩:=hv
  rw[g1]
  exact⟨⟨_,_,_,rfl⟩,g2⟩
 case sub.sub=>
  obtain⟨hk',h⟩:=h
  subst hk'
  obtain⟨r',h1,h2,h3⟩:=tie_ok h
  refine⟨r',h1,fun f hf B ρ ρ' w ok ok' v hρ hk hv=>?_,h3⟩
  have e:=hf _ _ h2
  have e':=(hρ _).trans (vr_of (ρ:=ρ) e)
  simp only[vrv]at e'
  simp only[RC,e']at hv ⊢
  exact hv
 case mpv.mpv=>
  obtain⟨r',h1,h2,h3⟩:=tie_ok h
  refine⟨r',h1,fun f hf B ρ ρ' w ok ok' v hρ hk hv=>?_,h3⟩
  have e:=hf _ _ h2
  have e':=(hρ _).trans (vr_of (ρ:=ρ) e)
  simp only[vrv]at e'
  simp only[RC,e']at hv ⊢
  exact hv
 case ptr.ptr=>
  obtain⟨hk',h⟩:=h
  subst hk'
  obtain⟨r',h1,h2,h3⟩:=tie_ok h
  refine⟨r',h1,fun f hf B ρ ρ' w ok ok' v hρ hk hv=>?_,h3⟩
  have e:=hf _ _ h2
  have e':=(hρ _).trans (vr_of (ρ:=ρ) e)
  simp only[vrv]at e'
  simp only[RC,e']at hv ⊢
  exact hv
theorem leCs_ok:∀{xs ys:List AC} {r:Ren} {K:Ren→Prop},leCs r xs ys K→∃r',Ext r r'∧(∀f,Ext r' f→relrCs f xs ys)∧K r'
 | [],[],r,K,h=>⟨r,.refl r,fun f _ B ρ ρ' w ok ok' v hρ hk hv=>by cases v <;> simp[RCs]at hv ⊢,h⟩
 | x::xs,y::ys,r,K,h=>by
  obtain⟨r1,h1,h2,h3⟩:=leC_ok h
  obtain⟨r2,h4,h5,h6⟩:=leCs_ok h3
  refine⟨r2,h1.trans h4,fun f hf B ρ ρ' w ok ok' v hρ hk hv=>?_,h6⟩
  cases v with
  | nil=>exact hv.elim
  | cons v vs=>exact⟨h2 f (h4.trans hf) hρ hk hv.1,h5 f hf hρ hk hv.2⟩
 | [],_::_,_,_,h=>h.elim
 | _::_,[],_,_,h=>h.elim
theorem leR_ok {r:Ren}{x y:AR}{K:Ren→Prop}(h:leR r x y K):∃r',Ext r r'∧(∀f,Ext r' f→relrR f x y)∧K r':=by
 cases x <;> cases y <;> simp only[leR]at h
 case c.c=>exact leC_ok h
 case agg.agg=>
  obtain⟨r1,h1,h2,h3⟩:=leCs_ok h
  exact⟨r1,h1,fun f hf B ρ ρ' w ok ok' v hρ hk hv=>let ⟨us,e,hu⟩:=hv;⟨us,e,h2 f hf hρ hk hu⟩,h3⟩
theorem leRs_ok:∀{xs ys:List AR} {r:Ren} {K:Ren→Prop},leRs r xs ys K→∃r',Ext r r'∧(∀f,Ext r' f→relrRs f xs ys)∧K r'
 | [],[],r,K,h=>⟨r,.refl r,fun f _ B ρ ρ' w ok ok' v hρ hk hv=>by cases v <;> simp[RRs]at hv ⊢,h⟩
 | x::xs,y::ys,r,K,h=>by
  obtain⟨r1,h1,h2,h3⟩:=leR_ok h
  obtain⟨r2,h4,h5,h6⟩:=leRs_ok h3
  refine⟨r2,h1.trans h4,fun f hf B ρ ρ' w ok ok' v hρ hk hv=>?_,h6⟩
  cases v with
  | nil=>exact hv.elim
  | cons v vs=>exact⟨h2 f (h4.trans hf) hρ hk hv.1,h5 f hf hρ hk hv.2⟩
 | [],_::_,_,_,h=>h.elim
 | _::_,[],_,_,h=>h.elim
theorem leV_ok {r:Ren}{x y:AV}{K:Ren→Prop}(h:leV r x y K):∃r',Ext r r'∧(∀f,Ext r' f→relrV f x y)∧K r':=by
 cases y with
 | unk=>exact⟨r,.refl r,fun f _ B ρ ρ' w ok ok' v hρ hk hv=>trivial,h⟩
 | r y=>
  cases x <;> simp only[leV]at h
  exact leR_ok h
 | tup ys=>
  cases x <;> simp only[leV]at h
  obtain⟨r1,h1,h2,h3⟩:=leRs_ok h
  exact⟨r1,h1,fun f hf B ρ ρ' w ok ok' v hρ hk hv=>let ⟨us,e,hu⟩:=hv;⟨us,e,h2 f hf hρ hk hu⟩,h3⟩
 | el o' sz i off=>
  cases x <;> simp only[leV]at h
  obtain⟨rfl,rfl,rfl,h⟩:=h
  obtain⟨r',h1,h2,h3⟩:=tie_ok h
  refine⟨r',h1,fun f hf B ρ ρ' w ok ok' v hρ hk hv=>?_,h3⟩
  have e:=hf _ _ h2
  have e':=(hρ _).trans (vr_of (ρ:=ρ) e)
  simp only[vrv]at e'
  simp only[RV,e']at hv ⊢
  exact hv
 | ro fr row off=>
  cases x <;> simp only[leV]at h
  obtain⟨rfl,rfl,rfl,h⟩:=h
  refine⟨r,.refl r,fun f hf B ρ ρ' w ok ok' v hρ hk hv=>?_,h⟩
  exact RV.keep (ρ:=ρ) (ρ':=ρ') (w:=w) (w':=w) (x:= .ro _ _ _) hv (fun b hb=>⟨rfl,hk b hb⟩) (by simp[AV.ids])
theorem leFr_ok {fr:List (Nat×AV)}:∀{l:List (Nat×AV)} {r:Ren} {K:Ren→Prop},leFr fr l r K→∃r',Ext r r'∧(∀f,Ext r' f→∀t y,(t,y)∈l→relrV f (look fr t) y)∧K r'
 | [],r,K,h=>⟨r,.refl r,fun _ _ t y hm=>(by cases hm),h⟩
 |(t,y)::l,r,K,h=>by
  obtain⟨r1,h1,h2,h3⟩:=leV_ok h
  obtain⟨r2,h4,h5,h6⟩:=leFr_ok h3
  refine⟨r2,h1.trans h4,fun f hf t' y' hm=>?_,h6⟩
  rcases List.mem_cons.1 hm with he|hm
  ·injection he with e1 e2;subst e1;subst e2;exact fun hρ hk hv=>h2 f (h4.trans hf) hρ hk hv
  ·exact fun hρ hk hv=>h5 f hf t' y' hm hρ hk hv
def relH (m:Bool)(f:Ren)(h:List (Id×Option AO))(o':Id)(x:AO):Prop:=
 (rget f o'=some none∧((∃fr sz,x= .arr fr sz [])∨∃sz,x= .dar sz [] none))∨
 ∃o c y,rget f o'=some (some (o,c))∧hget h o=some y∧
  (
   (c=none∧∃xs ys,y= .box xs∧x= .box ys∧relrCs f xs ys)∨
   (∃fr sz rows fr' rows',y= .arr fr sz rows∧x= .arr fr' sz rows'∧leB m fr fr' rows'∧((c=none∧rows'=rows)∨∃k,c=some k∧k≤rows.length∧rows'=rows.take k))∨
   (∃sz rows rows',y= .dar sz rows none∧x= .dar sz rows' none∧((c=none∧rows'=rows)∨∃k,c=some k∧k≤rows.length∧rows'=rows.take k))∨
   (c=none∧∃fr sz rows,y= .arr fr sz rows∧flat rows∧x= .dar sz (deepRows rows) none)∨
   (c=none∧∃sz rows fr,y= .dar sz (deepRows rows) none∧x= .arr fr sz rows∧(fr=true→m=true))∨
   (c=none∧∃kk es,y= .mp kk es∧x= .mp kk es))
theorem leH_ok {h:List (Id×Option AO)}:∀{l:List (Id×Option AO)} {r:Ren} {K:Ren→Prop},leH m h l r K→∃r',Ext r r'∧(∀f,Ext r' f→∀o x,(o,some x)∈l→relH m f h o x)∧K r'
 | [],r,K,hh=>⟨r,.refl r,fun _ _ o x hm=>(by cases hm),hh⟩
 |(o',none)::l,r,K,hh=>by
  obtain⟨r1,h1,h2,h3⟩:=leH_ok (l:=l) hh
  refine⟨r1,h1,fun f hf o x hm=>?_,h3⟩
  rcases List.mem_cons.1 hm with he|hm
  ·injection he with e1 e2;cases e2
  ·exact h2 f hf o x hm
 |(o',some z)::l,r,K,hh=>by
  have one:∀{r0:Ren},Ext r r0→leH m h l r0 K→(∀f,Ext r0 f→relH m f h o' z)→∃r',Ext r r'∧(∀f,Ext r' f→∀o x,(o,some x)∈(o',some z)::l→relH m f h o x)∧K r':=by
   intro r0 h0 hh hz
   obtain⟨r1,h1,h2,h3⟩:=leH_ok (l:=l) hh
   refine⟨r1,h0.trans h1,fun f hf o x hm=>?_,h3⟩
   rcases List.mem_cons.1 hm with he|hm
   ·injection he with e1 e2
    injection e2 with e2
    subst e1;subst e2
    exact hz f (h1.trans hf)
   ·exact h2 f hf o x hm
  unfold leH at hh
  split at hh
  ·rename_i hr
   split at hh
   ·rename_i fr sz rows
    obtain⟨rfl,hh⟩:=hh
    exact one (.refl r) hh fun f hf=> .inl ⟨hf _ _ hr,.inl ⟨_,_,rfl⟩⟩
   ·rename_i sz rows
    obtain⟨rfl,hh⟩:=hh
    exact one (.refl r) hh fun f hf=> .inl ⟨hf _ _ hr,.inr ⟨_,rfl⟩⟩
   ·exact hh.elim
  ·rename_i o0 c hr
   split at hh
   ·rename_i y hy
    unfold leO at hh
    split at hh
    ·rename_i fr sz rows fr' sz' rows'
     have key:sz=sz'∧leB m fr fr' rows'∧((c=none∧rows'=rows)∨∃k,c=some k∧k≤rows.length∧rows'=rows.take k)∧leH m h l r K:=by
      cases c with
      | none=>obtain⟨a1,a2,a3,a4⟩:=(show _∧_∧_∧_ from hh);exact⟨a1,a3,.inl ⟨rfl,a2.symm⟩,a4⟩
      | some k=>obtain⟨a0,a1,a2,a3,a4⟩:=(show _∧_∧_∧_∧_ from hh);exact⟨a1,a3,.inr ⟨k,rfl,a0,a2.symm⟩,a4⟩
     obtain⟨rfl,k1,k2,hh⟩:=key
     exact one (.refl r) hh fun f hf=> .inr ⟨o0,c,_,hf _ _ hr,hy,.inr (.inl ⟨fr,sz,rows,fr',rows',rfl,rfl,k1,k2⟩)⟩
    ·rename_i xs ys
     cases c with
     | some _=>exact hh.elim
     | none=>
      obtain⟨r1,h1,h2,h3⟩:=leCs_ok (show leCs r xs ys _ from hh)
      exact one h1 h3 fun f hf=> .inr ⟨o0,none,_,(h1.trans hf) _ _ hr,hy,.inl ⟨rfl,xs,ys,rfl,rfl,fun hρ hk hv=>h2 f hf hρ hk hv⟩⟩
    ·rename_i sz rows sz' rows'
     have key:sz=sz'∧((c=none∧rows'=rows)∨∃k,c=some k∧k≤rows.length∧rows'=rows.take k)∧leH m h l r K:=by
      cases c with
      | none=>obtain⟨a1,a2,a4⟩:=(show _∧_∧_ from hh);exact⟨a1,.inl ⟨rfl,a2.symm⟩,a4⟩
      | some k=>obtain⟨a0,a1,a2,a4⟩:=(show _∧_∧_∧_ from hh);exact⟨a1,.inr ⟨k,rfl,a0,a2.symm⟩,a4⟩
     obtain⟨rfl,k2,hh⟩:=key
     exact one (.refl r) hh fun f hf=> .inr ⟨o0,c,_,hf _ _ hr,hy,.inr (.inr (.inl ⟨sz,rows,rows',rfl,rfl,k2⟩))⟩
    ·rename_i fr sz rows sz' rows'
     cases c with
     | some _=>exact hh.elim
     | none=>
      obtain⟨rfl,a2,rfl,a4⟩:=(show _∧_∧_∧_ from hh)
      exact one (.refl r) a4 fun f hf=> .inr ⟨o0,none,_,hf _ _ hr,hy,.inr (.inr (.inr (.inl ⟨rfl,fr,sz,rows,rfl,a2,rfl⟩)))⟩
    ·rename_i sz rows fr' sz' rows'
     cases c with
     | some _=>exact hh.elim
     | none=>
      obtain⟨rfl,rfl,a3,a4⟩:=(show _∧_∧_∧_ from hh)
      exact one (.refl r) a4 fun f hf=> .inr ⟨o0,none,_,hf _ _ hr,hy,.inr (.inr (.inr (.inr (.inl ⟨rfl,sz,rows',fr',rfl,rfl,fun e=>by subst e;simpa using a3⟩))))⟩
    ·rename_i kk es kk' es'
     cases c with
     | some _=>exact hh.elim
     | none=>
      obtain⟨rfl,rfl,a4⟩:=(show _∧_∧_ from hh)
      exact one (.refl r) a4 fun f hf=> .inr ⟨o0,none,_,hf _ _ hr,hy,.inr (.inr (.inr (.inr (.inr ⟨rfl,kk,es,rfl,rfl⟩))))⟩
    ·exact hh.elim
   ·exact hh.elim
  ·exact hh.elim
theorem hget_mem:∀{h:List (Id×Option AO)} {o:Id} {x:AO},hget h o=some x→(o,some x)∈h
 | [],_,_,h=>by simp[hget]at h
 |(i,y)::r,o,x,h=>by
  rw[hget]at h
  cases hb:idEq o i with
  | true=>rw[hb]at h;have:=idEq_iff.1 hb;subst this;simp only[cond_true]at h;rw[h];simp
  | false=>rw[hb]at h;exact List.mem_cons_of_mem _ (hget_mem h)
theorem look_mem:∀(fr:List (Nat×AV)) (t:Nat),look fr t= .unk∨(t,look fr t)∈fr
 | [],_=> .inl rfl
 |(i,y)::r,t=>by
  rw[look]
  cases hb:Nat.beq t i with
  | true=>have:=Nat.eq_of_beq_eq_true hb;subst this;right;simp
  | false=>exact(look_mem r t).imp id (List.mem_cons_of_mem _)
theorem renIn_of:∀{r:Ren} {o' o:Id} {c:Option Nat},rget r o'=some (some (o,c))→renIn o r=true
 | [],_,_,_,h=>by simp[rget]at h
 |(i,x)::r,o',o,c,h=>by
  rw[rget]at h
  cases hb:idEq o' i with
  | true=>
   rw[hb]at h
   simp only[cond_true,Option.some.injEq]at h
   subst h
   simp[renIn,idEq_iff.2 rfl]
  | false=>
   rw[hb]at h
   have:=renIn_of (r:=r) h
   cases x <;> simp[renIn,this]
theorem renOk_inj:∀{r:Ren} {o1 o2 o:Id} {c1 c2:Option Nat},renOk r=true→rget r o1=some (some (o,c1))→rget r o2=some (some (o,c2))→o1=o2
 | [],_,_,_,_,_,_,h,_=>by simp[rget]at h
 |(i,x)::r,o1,o2,o,c1,c2,hr,h1,h2=>by
  rw[rget]at h1 h2
  have hr':renOk r=true:=by
   cases x with
   | none=>exact hr
   | some p=>simp only[renOk,Bool.and_eq_true]at hr;exact hr.2
  have hno:∀c,x=some (o,c)→renIn o r=false:=fun c hx=>by
   subst hx
   simp only[renOk,Bool.and_eq_true,Bool.not_eq_true']at hr
   exact hr.1
  cases hb1:idEq o1 i with
  | true=>
   rw[hb1]at h1
   simp only[cond_true,Option.some.injEq]at h1
   cases hb2:idEq o2 i with
   | true=>exact(idEq_iff.1 hb1).trans (idEq_iff.1 hb2).symm
   | false=>
    rw[hb2]at h2
    have:=renIn_of (r:=r) h2
    rw[hno c1 h1]at this
    cases this
  | false=>
   rw[hb1]at h1
   cases hb2:idEq o2 i with
   | true=>
    rw[hb2]at h2
    simp only[cond_true,Option.some.injEq]at h2
    have:=renIn_of (r:=r) h1
    rw[hno c2 h2]at this
    cases this
   | false=>
    rw[hb2]at h2
    exact renOk_inj hr' h1 h2
theorem usedIn_ok {u:List Nat}:∀{l:List Id},usedIn u l=true→∀o∈l,used u o.1=true
 | [],_,o,ho=>by cases ho
 | i::l,h,o,ho=>by
  simp only[usedIn,Bool.and_eq_true]at h
  rcases List.mem_cons.1 ho with rfl|ho
  ·exact h.1
  ·exact usedIn_ok h.2 o ho
theorem usedFr_ok {u:List Nat}:∀{l:List (Nat×AV)},usedFr u l=true→∀t v,(t,v)∈l→∀o∈v.ids,used u o.1=true
 | [],_,t,v,hm=>by cases hm
 |(i,x)::l,h,t,v,hm=>by
  simp only[usedFr,Bool.and_eq_true]at h
  rcases List.mem_cons.1 hm with he|hm
  ·injection he with e1 e2;subst e2;exact usedIn_ok h.1
  ·exact usedFr_ok h.2 t v hm
theorem usedH_ok {u:List Nat}:∀{l:List (Id×Option AO)},usedH u l=true→∀o x,(o,some x)∈l→used u o.1=true∧∀o'∈x.ids,used u o'.1=true
 | [],_,t,v,hm=>by cases hm
 |(i,none)::l,h,o,x,hm=>by
  rcases List.mem_cons.1 hm with he|hm
  ·injection he with e1 e2;cases e2
  ·exact usedH_ok (l:=l) h o x hm
 |(i,some y)::l,h,o,x,hm=>by
  simp only[usedH,Bool.and_eq_true]at h
  rcases List.mem_cons.1 hm with he|hm
  ·injection he with e1 e2;injection e2 with e2;subst e1;subst e2;exact⟨h.1,usedIn_ok h.2.1⟩
  ·exact usedH_ok h.2.2 o x hm
theorem RT.flat {w:World}{ok ok':Nat→Prop}{v:Value}{t:Tr}(h:RT w ok v t)(hf:∀sz rs,t≠.lst sz rs):RT w ok' v t:=by
 cases h with
 | int k n=>exact .int k n
 | bool b=>exact .bool b
 | str s=>exact .str s
 | emp _ _ sz=>exact absurd rfl (hf _ _)
 | lst=>exact absurd rfl (hf _ _)
theorem RTs.flat {w:World}{ok ok':Nat→Prop}:∀{vs:List Value} {ts:List Tr},RTs w ok vs ts→(∀t∈ts,∀sz rs,t≠.lst sz rs)→RTs w ok' vs ts
 | [],[],_,_=>trivial
 | _::_,_::_,h,hf=>⟨h.1.flat (hf _ (by simp)),RTs.flat h.2 fun t ht=>hf t (by simp[ht])⟩
 | [],_::_,h,_=>h.elim
 | _::_,[],h,_=>h.elim
theorem take_flatten {α:Type}{sz:Nat}:∀{rows:List (List α)} (k:Nat),(∀r∈rows,r.length=sz)→k≤rows.length→(rows.take k).flatten=rows.flatten.take (k * sz)
 | _,0,_,_=>by simp
 | [],_+1,_,h=>by simp at h
 | r::rows,k+1,hu,h=>by
  have hr:=hu r (by simp)
  rw[List.take_succ_cons,List.flatten_cons,List.flatten_cons,take_flatten k (fun r hr=>hu r (by simp[hr])) (by simpa using h),List.take_append,hr]
  rw[List.take_of_length_le (l:=r) (by rw[hr,Nat.add_mul];omega)]
  congr 2
  rw[Nat.add_mul]
  omega
theorem rget_mem:∀{r:Ren} {o:Id} {x:Option (Id×Option Nat)},rget r o=some x→(o,x)∈r
 | [],_,_,h=>by simp[rget]at h
 |(i,y)::r,o,x,h=>by
  rw[rget]at h
  cases hb:idEq o i with
  | true=>rw[hb]at h;have:=idEq_iff.1 hb;subst this;simp only[cond_true,Option.some.injEq]at h;subst h;simp
  | false=>rw[hb]at h;exact List.mem_cons_of_mem _ (rget_mem h)
theorem RDs.take {ρ ρ':Rho}{w:World}{ok ok':Nat→Prop}{sz n:Nat}{Fp:Nat→Nat→Prop}{us:List Value}{cs:List DC}(h:RDs ρ w ok sz none Fp us cs)(hk:∀b,ok b→ok' b):RDs ρ' w ok' sz none Fp (us.take n) (cs.take n):=by
 refine⟨by rw[List.length_take,List.length_take,h.1],fun p v c hv hc=>?_⟩
 rw[List.getElem?_take]at hv hc
 split at hv
 ·rename_i hp
  rw[if_pos hp]at hc
  have:=h.2 p v c hv hc
  simp only[holeAt]at this ⊢
  exact this.keep (fun b hb=>⟨rfl,hk b hb⟩) fun b hb=>⟨rfl,hb⟩
 ·cases hv
theorem Leq.ok' (hM:m=true→(∀b,¬M b)∧∀o,w0.fx o=none)(hF:∀o v,w0.fx o=some v→o.1=0)(h:Leq m st st')(hc:Conc N B M w0 ρ st.fs a w):∃ρ',Conc N B M w0 ρ' st'.fs a w∧
  (∀b,okB ρ st.fs.H w b→okB ρ' st'.fs.H w b)∧
  ∀(t:Nat) (v:Value) (ok ok':Nat→Prop),(∀b,ok b→ok' b)→RV B ρ w ok v (look st.fr t)→RV B ρ' w ok' v (look st'.fr t):=by
 obtain⟨hu,h⟩:=h
 rw[Bool.and_eq_true,Bool.and_eq_true]at hu
 obtain⟨hu,hu0⟩:=hu
 obtain⟨r1,_,hL,h⟩:=leFr_ok h
 obtain⟨f,h1,hH,hr0⟩:=leH_ok h
 rw[Bool.and_eq_true]at hr0
 obtain⟨hr,hP⟩:=hr0
 have hL:=hL f h1
 have hH:=hH f (.refl f)
 let ρ':Rho:=⟨vr ρ f,fun o c=>(∃sz rows hole,st'.fs.H o=some (.dar sz rows hole))∧∃q k,rget f o=some (some (q,k))∧ρ.fp q c,ρ.al⟩
 have hρ:∀o,ρ' o=vr ρ f o:=fun _=>rfl
 have hat:∀{o:Id} {x:Option (Id×Option Nat)},rget f o=some x→ρ' o=vrv ρ x:=fun e=>vr_of e
 refine⟨ρ',?_⟩
 have old:∀o x b,st'.fs.H o=some x→Own ρ' o b→∃q y c,rget f o=some (some (q,c))∧st.fs.H q=some y∧Own ρ q b:=by
  intro o x b ho hb
  rcases hH o x (hget_mem ho)with⟨g1,_⟩|⟨q,c,y,g1,g2,_⟩
  ·rcases hb with hb|⟨_,q,k,e,_⟩
   ·rw[hat g1]at hb;simp[vrv,blk]at hb
   ·rw[g1]at e;cases e
  ·refine⟨q,y,c,g1,g2,?_⟩
   rcases hb with hb|⟨_,q',k,e,hf⟩
   ·left
    rw[hat g1]at hb
    cases c with
    | none=>exact hb
    | some k=>
     simp only[vrv]at hb
     split at hb
     ·rename_i A n cc e
      rw[e]
      cases A <;> exact hb
     ·exact hb
   ·rw[g1]at e
    injection e with e;injection e with e;injection e with e1 e2
    subst e1
    exact .inr hf
 have hk:∀b,okB ρ st.fs.H w b→okB ρ' st'.fs.H w b:=by
  intro b hb
  refine⟨hb.1,fun o x ho he=>?_⟩
  obtain⟨q,y,_,_,g2,g3⟩:=old o x b ho he
  exact hb.2 q y g2 g3
 refine⟨?_,hk,fun t v ok ok' hok hv=>?_⟩
 rotate_left
 ·rcases look_mem st'.fr t with e|hm
  ·rw[e];trivial
  ·exact hL t _ hm hρ hok hv
 refine⟨hc.size,hc.defers,fun t=>?_,fun o x ho=>?_,fun o o' x x' b ho ho' hne he he'=>?_,fun o x b ho he=>?_,hc.keep,hc.base,hc.alw,hc.cst,fun o v hv=>?_,fun t o ho=>?_,fun o x ho=>?_⟩
 ·rcases look_mem st'.fr t with e|hm
  ·show RV _ _ _ _ _ (look st'.fr t)
   rw[e];trivial
  ·exact hL t _ hm hρ hk (hc.slot t)
 ·rcases hH o x (hget_mem ho)with⟨g1,⟨fr,sz,rfl⟩|⟨sz,rfl⟩⟩|⟨q,c,y,g1,g2,g3⟩
  ·exact⟨fun r hr=>(by cases hr),.inl ⟨hat g1,rfl⟩⟩
  ·exact⟨fun r hr=>(by cases hr),.inl ⟨hat g1,rfl,rfl⟩⟩
  ·have hobj:=hc.obj q y g2
   have hown:=hat g1
   rcases g3 with⟨rfl,xs,ys,rfl,rfl,g4⟩|⟨fr,sz,rows,fr',rows',rfl,rfl,g4,g5⟩|⟨sz,rows,rows',rfl,rfl,g5⟩|⟨rfl,fr,sz,rows,rfl,hfl,rfl⟩|⟨rfl,sz,rows,fr,rfl,rfl,hfr⟩|⟨rfl,kk,es,rfl,rfl⟩
   ·obtain⟨b,cur,t,fz,k1,k2,k3,k4⟩:=hobj
    exact⟨b,cur,t,fz,by rw[hown];exact k1,k2,k3,g4 hρ hk k4⟩
   ·obtain⟨hu1,hobj⟩:=hobj
    have hsub:∀r∈rows',r∈rows:=by
     rcases g5 with⟨_,rfl⟩|⟨k,_,_,rfl⟩
     ·exact fun r h=>h
     ·exact fun r h=>List.mem_of_mem_take h
    refine⟨fun r hr=>hu1 r (hsub r hr),?_⟩
    rcases hobj with⟨k1,k2⟩|⟨b,cap,cur,e,fz,k1,k2,k3,k4,k5,k6,k7,k8⟩
    ·subst k2
     left
     rcases g5 with⟨rfl,rfl⟩|⟨k,rfl,hle,rfl⟩
     ·exact⟨by rw[hown];exact k1,rfl⟩
     ·simp only[List.length_nil,Nat.le_zero]at hle
      subst hle
      exact⟨by rw[hown];simp only[vrv,k1],by simp⟩
    ·right
     have hB:m=true→B≤b:=fun hm=>((hc.rng q _ b g2 (.inl (by rw[k1];rfl))).2).resolve_right ((hM hm).1 b)
     have tup:∀{l:List Value},RTs w (okF B (okB ρ st.fs.H w) fr) l rows'.flatten→RTs w (okF B (okB ρ' st'.fs.H w) fr') l rows'.flatten:=by
      intro l hl
      cases fr' with
      | false=>exact hl.keep fun b hb=>⟨rfl,hk b hb.1,fun e=>by cases e⟩
      | true=>
       cases fr with
       | true=>exact hl.keep fun b hb=>⟨rfl,hk b hb.1,hb.2⟩
       | false=>
        refine hl.flat fun t ht=>?_
        obtain⟨row,h1,h2⟩:=List.mem_flatten.1 ht
        exact g4.2 row h1 t h2
     have hfr:fr'=true→B≤b:=by
      intro e
      subst e
      cases fr with
      | true=>exact k8 rfl
      | false=>exact hB g4.1
     rcases g5 with⟨rfl,rfl⟩|⟨k,rfl,hle,rfl⟩
     ·exact⟨b,cap,cur,e,fz,by rw[hown];exact k1,k2,k3,k4,k5,k6,tup k7,hfr⟩
     ·refine⟨b,cap,cur,e,fz,?_,k2,k3,?_,k5,k6,tup ?_,hfr⟩
      ·rw[hown]
       simp only[vrv,k1,List.length_take,Nat.min_eq_left hle]
      ·simp only[List.length_take];omega
      ·rw[take_flatten k hu1 hle]
       have:cur.toList.take ((rows.take k).length * sz)=(cur.toList.take (rows.length * sz)).take (k * sz):=by
        rw[List.take_take,List.length_take,Nat.min_eq_left hle]
        congr 1
        exact(Nat.min_eq_left (Nat.mul_le_mul_right _ hle)).symm
       rw[this]
       exact k7.take _
   ·obtain⟨hu1,hobj⟩:=hobj
    have hsub:∀r∈rows',r∈rows:=by
     rcases g5 with⟨_,rfl⟩|⟨k,_,_,rfl⟩
     ·exact fun r h=>h
     ·exact fun r h=>List.mem_of_mem_take h
    refine⟨fun r hr=>hu1 r (hsub r hr),?_⟩
    rcases hobj with⟨k1,k2,_⟩|⟨b,cap,cur,e,fz,Fp,k1,k2,k3,k4,k5,k6,k7,k8,k9⟩
    ·subst k2
     left
     rcases g5 with⟨rfl,rfl⟩|⟨k,rfl,hle,rfl⟩
     ·exact⟨by rw[hown];exact k1,rfl,rfl⟩
     ·simp only[List.length_nil,Nat.le_zero]at hle
      subst hle
      exact⟨by rw[hown];simp only[vrv,k1],by simp,rfl⟩
    ·right
     have hfp:∀p d,Fp p d→ρ'.fp o d∧d≠b:=fun p d hd=>⟨⟨⟨_,_,_,ho⟩,q,c,g1,(k7 p d hd).1⟩,(k7 p d hd).2⟩
     rcases g5 with⟨rfl,rfl⟩|⟨k,rfl,hle,rfl⟩
     ·exact⟨b,cap,cur,e,fz,Fp,by rw[hown];exact k1,k2,k3,k4,k5,k6,hfp,k8,k9.keep (fun c hc'=>⟨rfl,hk c hc'⟩) (fun p c hc'=>⟨rfl,hc'⟩) fun _ _ _ e=>by cases e⟩
     ·refine⟨b,cap,cur,e,fz,Fp,?_,k2,k3,?_,k5,k6,hfp,k8,?_⟩
      ·rw[hown]
       simp only[vrv,k1,List.length_take,Nat.min_eq_left hle]
      ·simp only[List.length_take];omega
      ·rw[take_flatten k hu1 hle]
       have:cur.toList.take ((rows.take k).length * sz)=(cur.toList.take (rows.length * sz)).take (k * sz):=by
        rw[List.take_take,List.length_take,Nat.min_eq_left hle]
        congr 1
        exact(Nat.min_eq_left (Nat.mul_le_mul_right _ hle)).symm
       rw[this]
       exact k9.take hk
   ·exact(arr_DT hc g2 hfl).toDar hown fun d hd hne=>hd.elim (fun e=>absurd e hne) fun hd=>⟨⟨_,_,_,ho⟩,q,none,g1,hd⟩
   ·obtain⟨hu1,hobj⟩:=hobj
    refine⟨fun r hr=>?_,?_⟩
    ·have:=hu1 (r.map .d) (List.mem_map.2 ⟨r,hr,rfl⟩)
     simpa using this
    have hlen:(deepRows rows).length=rows.length:=by simp[deepRows]
    rcases hobj with⟨k1,k2,_⟩|⟨b,cap,cur,e,fz,Fp,k1,k2,k3,k4,k5,k6,k7,k8,k9⟩
    ·left
     exact⟨by rw[hown];exact k1,by simpa [deepRows]using k2⟩
    ·right
     rw[hlen]at k1 k4 k9
     rw[deep_flatten]at k9
     have hrng:∀d,Own ρ q d→fr=true→B≤d:=fun d hd e=>((hc.rng q _ d g2 hd).2).resolve_right ((hM (hfr e)).1 d)
     have hb:Own ρ q b:= .inl (by rw[k1];rfl)
     have hin:∀p d,Fp p d→okF B (okB ρ' st'.fs.H w) fr d:=fun p d hd=>by
      obtain⟨hd1,hd2⟩:=k7 p d hd
      have hr2:=hc.rng q _ d g2 (.inr hd1)
      refine⟨⟨⟨hr2.1,hc.alw d hr2.2⟩,fun o2 x2 ho2 he2=>?_⟩,hrng d (.inr hd1)⟩
      obtain⟨q2,y2,c2,e1,e2,e3⟩:=old o2 x2 d ho2 he2
      by_cases e:q2=q
      ·subst e
       have:=renOk_inj hr e1 g1
       subst this
       rcases he2 with he2|⟨⟨_,_,_,he2⟩,_⟩
       ·rw[hown]at he2
        simp only[vrv,k1,blk]at he2
        injection he2 with he2
        exact hd2 he2.symm
       ·rw[ho]at he2;injection he2 with he2;cases he2
      ·exact hc.sep q2 q y2 _ d e2 g2 e e3 (.inr hd1)
     refine⟨b,cap,cur,e,fz,by rw[hown];exact k1,k2,k3,k4,k5,k6,RTs.of (by rw[k9.1,List.length_map]) fun p v t hv ht=>?_,hrng b hb⟩
     have:=k9.2 p v (.d t) hv (by rw[List.getElem?_map,ht];rfl)
     simp only[holeAt]at this
     exact DT.toRT this (hin p)
   ·obtain⟨b,ents,clock,k1,k2,k3⟩:=hobj
    exact⟨b,ents,clock,by rw[hown];exact k1,k2,k3⟩
 ·obtain⟨q,y,c,g1,g2,g3⟩:=old o x b ho he
  obtain⟨q',y',c',g4,g5,g6⟩:=old o' x' b ho' he'
  by_cases e:q=q'
  ·subst e
   exact hne (renOk_inj hr g1 g4)
  ·exact hc.sep q q' y y' b g2 g5 e g3 g6
 ·obtain⟨q,y,c,g1,g2,g3⟩:=old o x b ho he
  exact hc.rng q y b g2 g3
 ·cases m with
  | true=>rw[(hM rfl).2 o]at hv;cases hv
  | false=>
   have h0:=hF o v hv
   simp only[Bool.false_or]at hP hu0
   refine⟨?_,by show used st'.u o.1=true;rw[h0];exact hu0⟩
   have e:=(hc.fix o v hv).1
   rw[hρ]
   unfold vr
   cases hg:rget f o with
   | none=>exact e
   | some x=>
    have:=List.all_eq_true.1 hP _ (rget_mem hg)
    simp only[h0,Nat.beq_refl,Bool.not_true,Bool.false_or]at this
    split at this
    ·rename_i o1
     rw[idEq_iff]at this
     subst this
     exact e
    ·cases this
 ·rcases look_mem st'.fr t with e|hm
  ·simp only[St.fs]at ho
   rw[e]at ho
   simp[AV.ids]at ho
  ·exact usedFr_ok hu.1 t _ hm o ho
 ·exact usedH_ok hu.2 o x (hget_mem ho)
theorem Leq.ok (hM:m=true→(∀b,¬M b)∧∀o,w0.fx o=none)(hF:∀o v,w0.fx o=some v→o.1=0)(h:Leq m st st')(hc:Conc N B M w0 ρ st.fs a w):∃ρ',Conc N B M w0 ρ' st'.fs a w:=
 let ⟨ρ',h,_⟩:=h.ok' hM hF hc
 ⟨ρ',h⟩
theorem closeAll_ok:∀(l:List Id) (st:St) (K:St→Prop) (ρ:Rho),closeAll l st K→Conc N B M w0 ρ st.fs a w→(∀o∈l,True)→∃st1 ρ1,K st1∧Conc N B M w0 ρ1 st1.fs a w∧st1.fr=st.fr
 | [],st,K,ρ,h,hc,_=>⟨st,ρ,h,hc,rfl⟩
 | o::l,st,K,ρ,h,hc,_=>by
  obtain⟨H',us,R,h1,h2⟩:=close_spec h
  rw[hpushK_eq]at h1
  obtain⟨⟨ρ1,hc1⟩,_⟩:=h2 hc fun _ _=>rfl
  have hfs:(⟨st.fs.L,updH st.fs.H us,st.fs.U⟩:F_)=(⟨st.fr,hpush us st.h,st.u⟩:St).fs:=F_.ext' (fun _=>rfl) (fun o=>(hget_push us st.h o).symm) fun _=>Iff.rfl
  rw[hfs]at hc1
  obtain⟨st1,ρ2,g1,g2,g3⟩:=closeAll_ok l _ K ρ1 h1 hc1 fun _ _=>trivial
  exact⟨st1,ρ2,g1,g2,g3⟩
theorem LeqG.ok (hM:m=true→(∀b,¬M b)∧∀o,w0.fx o=none)(hF:∀o v,w0.fx o=some v→o.1=0)(h:LeqG m st st')(hc:Conc N B M w0 ρ st.fs a w):∃ρ',Conc N B M w0 ρ' st'.fs a w:=by
 obtain⟨st1,ρ1,g1,g2,_⟩:=closeAll_ok _ st _ ρ h hc fun _ _=>trivial
 exact g1.ok hM hF g2
theorem litc_fs {st:St}{c:Operand}{b:Bool}(h:evL (look st.fr) c=tB b):(litc st c b).fs=st.fs:=by
 unfold litc
 split
 ·exact lit_fs h
 ·rfl
theorem W_ok (hΓ:Γ.chk P=true)(hmix:P.follows .mixedOrders=true)(hM:m=true→(∀b,¬M b)∧∀o,w0.fx o=none)(hF:∀o v,w0.fx o=some v→o.1=0):
  ∀(c:Code) (K:Out→St→Prop) (st:St) (ρ:Rho) (a:Act) (w:World) (Q:Exit→Act→World→Prop),W m P Γ N c K st→Conc N B M w0 ρ st.fs a w→
   (∀e st' ρ' a' w',K e st'→Conc N B M w0 ρ' st'.fs a' w'→Q e.at a' w')→c.wp P Q a w:=by
 intro c
 induction c with
 | skip=>intro K st ρ a w Q h hc hQ;exact wp_skip (hQ .normal _ _ _ _ h hc)
 | label l=>intro K st ρ a w Q h hc hQ;exact wp_label (hQ .normal _ _ _ _ h hc)
 | exit id=>intro K st ρ a w Q h hc hQ;exact wp_exit (hQ (.exit id) _ _ _ _ h hc)
 | ret=>intro K st ρ a w Q h hc hQ;exact wp_ret (hQ .ret _ _ _ _ h hc)
 | goto l=>intro K st ρ a w Q h;exact h.elim
 | refuse y=>intro K st ρ a w Q h;exact h.elim
 | scope b _=>intro K st ρ a w Q h;exact h.elim
 | rangeFunc f ps x y _ _=>intro K st ρ a w Q h;exact h.elim
 | region id ops draw=>
  intro K st ρ a w Q h hc hQ
  cases draw with
  | false=>
   obtain⟨es,st',h1,h2,h3,h4⟩:=wOps_ok hΓ ops.toList st [] _ h
   refine wp_region_list ?_
   have:=chain_seq (P:=P) (N:=N) (ops:=ops.toList) (B:=B) (M:=M) (w0:=w0) (Q:=Q) ops.toList es st.fs ρ a w h2 hc fun ρ' a' w' hc'=>hQ .normal st' ρ' a' w' h4 (by rw[h3];exact hc')
   simpa using this
  | true=>
   have hdown:∀i o,ops.toList[i]?=some o→(Array.replicate ops.size false).getD i true=true→∀j∈afters o,(Array.replicate ops.size false).getD j true=true:=fun i o ho hl=>by
    have hi:i < ops.size:=by
     rcases Nat.lt_or_ge i ops.size with h'|h'
     ·exact h'
     ·rw[List.getElem?_eq_none (by simpa using h')]at ho;cases ho
    simp[Array.getD_eq_getD_getElem?,hi]at hl
   have hc':∀es:List (Bool×Eff),Conc N B M w0 ρ (sel st.fs ops.toList es (fun i=>(Array.replicate ops.size false).getD i true) 0) a {w with drawn:=w.drawn+1}:=by
    intro es
    rw[sel_none _ _ _ _ _ fun i _ hi=>by
     have:i < ops.size:=by simpa using hi
     simp[Array.getD_eq_getD_getElem?,this]]
    exact hc.step (fun _=>False) [] (Turn.drew _ w) hc.size hc.defers (fun _ _=>rfl) (fun _ _ _ _=>rfl) rfl (fun _ _=>rfl) (fun _ h=>h) (fun _ _ h=>h) (fun _ _ _ _ _ _ h=>h) (fun _ _ _ h=>h)
     (fun o x b h=>by cases h) (fun o o' x x' b h=>by cases h) (fun _ o x h=>by cases h) (fun _ t=> .inl ⟨rfl,rfl⟩)
   refine wp_region_any hmix ?_
   rcases h with h|⟨xi,xj,h⟩
   ·obtain⟨es,st',h1,h2,h3,h4,h5⟩:=wOps_ok hΓ ops.toList st [] _ h
    simp only[List.append_nil,List.reverse_reverse]at h4
    have:=chain_any (P:=P) (N:=N) (ops:=ops.toList) (B:=B) (M:=M) (w0:=w0) (Q:=Q) st.fs es h1 h2 h4 (fun ρ' a' w' hc'=>hQ .normal st' ρ' a' w' h5 (by rw[h3];exact hc'))
     ops.size (Array.replicate ops.size false) ρ a _ (by simp) (by simp) hdown (hc' es)
    simpa using this
   ·obtain⟨es,st',h1,h2,hlt,h4,⟨oi,oj,bj,ei,ej,g1,g2,g3,g4,g5⟩,h3,h5⟩:=wRegX_ok hΓ h
    have:=chain_anyX (P:=P) (N:=N) (ops:=ops.toList) (B:=B) (M:=M) (w0:=w0) (Q:=Q) st.fs es h1 h2 hlt h4 g1 g2 g3 g4 g5 (fun ρ' a' w' hc'=>hQ .normal st' ρ' a' w' h5 (by rw[h3];exact hc'))
     ops.size (Array.replicate ops.size false) ρ a _ (by simp) (by simp) hdown (hc' es)
    simpa using this
 | seq x y ihx ihy=>
  intro K st ρ a w Q h hc hQ
  rcases h with h|⟨ι,S,h,h2⟩
  ·refine wp_seq (ihx _ st ρ a w _ h hc fun e st' ρ' a' w' hK hc'=>?_)
   cases e with
   | normal=>exact ihy K st' ρ' a' w' Q hK hc' hQ
   | exit id=>exact hQ (.exit id) _ _ _ _ hK hc'
   | ret=>exact hQ .ret _ _ _ _ hK hc'
  ·refine wp_seq (ihx _ st ρ a w _ h hc fun e st' ρ' a' w' hK hc'=>?_)
   cases e with
   | normal=>obtain⟨i,hi⟩:=hK;obtain⟨ρ'',hc''⟩:=hi.ok hM hF hc';exact ihy K (S i) ρ'' a' w' Q (h2 i) hc'' hQ
   | exit id=>exact hQ (.exit id) _ _ _ _ hK hc'
   | ret=>exact hQ .ret _ _ _ _ hK hc'
 | cond c x y ihx ihy=>
  intro K st ρ a w Q h hc hQ
  rw[W]at h
  split at h
  ·rename_i b hb
   have hv:=(hc.eval c).1
   rw[show evL st.fs.L c=tB b from hb]at hv
   refine wp_cond (inv_bool hv) ?_
   cases b with
   | true=>exact ihx K _ ρ a w Q h (by rw[litc_fs hb];exact hc) hQ
   | false=>exact ihy K _ ρ a w Q h (by rw[litc_fs hb];exact hc) hQ
  ·exact h.elim
 | block id c ih=>
  intro K st ρ a w Q h hc hQ
  refine wp_block (ih _ st ρ a w _ h hc fun e st' ρ' a' w' hK hc'=>?_)
  cases e with
  | normal=>exact hQ .normal _ _ _ _ hK hc'
  | ret=>exact hQ .ret _ _ _ _ hK hc'
  | exit id'=>
   show if id'=id then _ else _
   by_cases he:id'=id
   ·rw[if_pos he]
    subst he
    simp only[Nat.beq_refl]at hK
    exact hQ .normal _ _ _ _ hK hc'
   ·rw[if_neg he]
    have:Nat.beq id' id=false:=by cases hb:Nat.beq id' id with|false=>rfl|true=>exact absurd (Nat.eq_of_beq_eq_true hb) he
    simp only[this]at hK
    exact hQ (.exit id') _ _ _ _ hK hc'
 | loop c ih=>
  intro K st ρ a w Q h hc hQ
  obtain⟨ι,S,μ,i0,h0,hS⟩:=h
  obtain⟨ρ0,hc0⟩:=h0.ok hM hF hc
  have key:∀n i (ρ:Rho) (a:Act) (w:World),μ i≤n→Conc N B M w0 ρ (S i).fs a w→∀(b:Frame) (k:List Item) (cs:List Frame),
    ∃e a' w',Q e a' w'∧Arrives P (lone (b.at a (.code c:: .inLoop c::k)) cs w) b k cs e a' w':=by
   intro n
   induction n with
   | zero=>
    intro i ρ a w hi hc b k cs
    obtain⟨e,a1,w1,hq,harr⟩:=ih _ (S i) ρ a w (fun e a' w'=>match e with|.normal=>False|e=>Q e a' w') (hS i) hc (fun e st' ρ' a' w' hK hc'=>by
     cases e with
     | normal=>obtain⟨j,_,hj⟩:=hK;exact absurd hj (by omega)
     | exit id=>exact hQ (.exit id) _ _ _ _ hK hc'
     | ret=>exact hQ .ret _ _ _ _ hK hc') b (.inLoop c::k) cs
    cases e with
    | normal=>exact hq.elim
    | exit id=>exact⟨_,a1,w1,hq,.pass (x:= .inLoop c) rfl (fun _ _=> .inl (by simp)) harr⟩
    | goto l=>exact⟨_,a1,w1,hq,.pass (x:= .inLoop c) rfl (fun _ _=> .inl (by simp)) harr⟩
    | ret=>exact⟨_,a1,w1,hq,.pass (x:= .inLoop c) rfl (fun _ _=> .inl (by simp)) harr⟩
    | panic ch=>exact⟨_,a1,w1,hq,.pass (x:= .inLoop c) rfl (fun _ _=> .inl (by simp)) harr⟩
    | outgrown=>exact⟨_,a1,w1,hq,.pass (x:= .inLoop c) rfl (fun _ _=> .inl (by simp)) harr⟩
   | succ n ihn=>
    intro i ρ a w hi hc b k cs
    obtain⟨e,a1,w1,hq,harr⟩:=ih _ (S i) ρ a w (fun e a' w'=>match e with|.normal=>∃j ρ',μ j≤n∧Conc N B M w0 ρ' (S j).fs a' w'|e=>Q e a' w') (hS i) hc (fun e st' ρ' a' w' hK hc'=>by
     cases e with
     | normal=>obtain⟨j,hj1,hj2⟩:=hK;obtain⟨ρ'',hc''⟩:=hj1.ok hM hF hc';exact⟨j,ρ'',by omega,hc''⟩
     | exit id=>exact hQ (.exit id) _ _ _ _ hK hc'
     | ret=>exact hQ .ret _ _ _ _ hK hc') b (.inLoop c::k) cs
    cases e with
    | normal=>
     obtain⟨j,ρ',hj,hc'⟩:=hq
     obtain⟨e2,a2,w2,hq2,harr2⟩:=ihn j ρ' a1 w1 hj hc' b k cs
     exact⟨e2,a2,w2,hq2,.of_steps (Steps.trans harr (.one step_inLoop)) harr2⟩
    | exit id=>exact⟨_,a1,w1,hq,.pass (x:= .inLoop c) rfl (fun _ _=> .inl (by simp)) harr⟩
    | goto l=>exact⟨_,a1,w1,hq,.pass (x:= .inLoop c) rfl (fun _ _=> .inl (by simp)) harr⟩
    | ret=>exact⟨_,a1,w1,hq,.pass (x:= .inLoop c) rfl (fun _ _=> .inl (by simp)) harr⟩
    | panic ch=>exact⟨_,a1,w1,hq,.pass (x:= .inLoop c) rfl (fun _ _=> .inl (by simp)) harr⟩
    | outgrown=>exact⟨_,a1,w1,hq,.pass (x:= .inLoop c) rfl (fun _ _=> .inl (by simp)) harr⟩
  intro b k cs
  obtain⟨e,a',w',hq,harr⟩:=key (μ i0) i0 ρ0 a w (Nat.le_refl _) hc0 b k cs
  exact⟨e,a',w',hq,.of_steps (.one step_loop) harr⟩
end
end Go.Sim
namespace Go.Sim
open Go.RowKit
def TV.av:TV→AV
 | .c x=> .r (.c (.t x))
 | .agg xs=> .r (.agg (xs.map .t))
def enumF:Nat→List TV→List (Nat×AV)
 | _,[]=>[]
 | i,t::ts=>(i,t.av)::enumF (i+1) ts
def st0 (ts:List TV):St:=⟨enumF 0 ts,[],[]⟩
def freshC:AC→Prop
 | .t x=>(match x with
   | .lst _ _=>False
   | _=>True)
 | _=>True
def freshCs:List AC→Prop
 | []=>True
 | c::cs=>freshC c∧freshCs cs
def freshR:AR→Prop
 | .c x=>freshC x
 | .agg cs=>freshCs cs
def freshRs:List AR→Prop
 | []=>True
 | c::cs=>freshR c∧freshRs cs
def idsApart:List (Id×AO)→Bool
 | []=>true
 |(o,_)::l=>!(l.any fun p=>idEq o p.1) && idsApart l
def resV (Γ:Env)(st:St):ResultVar→Option AR
 | .tmp t=>(match look st.fr t with
   | .r x=>some x
   | _=>none)
 | .cell a T=>(match look st.fr a,Γ.get T with
   | .r (.c (.ptr o 0)),some ti=>(match hget st.h o with
    | some (.box cells)=>(match ti.agg,Nat.beq cells.length ti.size,cells with
      | true,true,cs=>some (.agg cs)
      | false,true,[c]=>some (.c c)
      | _,_,_=>none)
    | _=>none)
   | _,_=>none)
def resVs (Γ:Env)(st:St):List ResultVar→Option (List AR)
 | []=>some []
 | rv::rvs=>(match resV Γ st rv,resVs Γ st rvs with
   | some x,some xs=>some (x::xs)
   | _,_=>none)
def finV (v:AV)(st:St)(r:Res):Prop:=idsApart (r.os 0)=true∧Leq true ⟨[(0,v)],st.h,st.u⟩ ⟨[(0,r.av 0)],r.us 0,[0]⟩
def fin0 (Γ:Env)(rvs:List ResultVar)(r:Res)(st:St):Prop:=
 match resVs Γ st rvs with
 | some [x]=>freshR x∧finV (.r x) st r
 | some xs=>freshRs xs∧finV (.tup xs) st r
 | none=>False
def fin (Γ:Env)(rvs:List ResultVar)(st:St)(r:Res):Prop:=closeAll (holesOf st.h []) st (fin0 Γ rvs r)
def doneK (Γ:Env)(rvs:List ResultVar)(r:Res):Out→St→Prop
 | .exit _,_=>False
 | _,st=>fin Γ rvs st r
def finG0 (Γ:Env)(rvs:List ResultVar)(r:AV)(h1:List (Id×AO))(st:St):Prop:=
 match resVs Γ st rvs with
 | some [x]=>Leq false ⟨[(0,.r x)],st.h,st.u⟩ ⟨[(0,r)],h1.map (fun p=>(p.1,some p.2)),[1,0]⟩
 | some xs=>Leq false ⟨[(0,.tup xs)],st.h,st.u⟩ ⟨[(0,r)],h1.map (fun p=>(p.1,some p.2)),[1,0]⟩
 | none=>False
def doneG (Γ:Env)(rvs:List ResultVar)(r:AV)(h1:List (Id×AO)):Out→St→Prop
 | .exit _,_=>False
 | _,st=>closeAll (holesOf st.h []) st (finG0 Γ rvs r h1)
structure Obl (p:Prop):Prop where
 out:p
theorem call_intro {P:Program}{f:FuncId}{H:Id→Option AO}{xs:List AV}{ts:List TV}{r:Res}{K:List TV→Res→Prop}(h:Sim.Spec P f ts r)(h1:argTrees H xs ts)(h2:K ts r):∃ts r,argTrees H xs ts∧Sim.Spec P f ts r∧K ts r:=
 ⟨ts,r,h1,h,h2⟩
theorem callG_intro {P:Program}{f:FuncId}{nm:Nat}{args:List AV}{H:Id→Option AO}{K:Eff→Prop}{X:Prop}{xs:List AV}{h0:List (Id×AO)}{r:AV}{h1:List (Id×AO)}(h:SpecG P f xs h0 r h1)
  (h2:maVs H [] [] args xs fun θ bw=>maO H θ bw h0 fun θ bw=>(okI θ bw h0 && okJ h0 r h1 && (bw.isEmpty || (newV r && newO h1)))=true∧K ⟨r.re θ nm,usG θ nm h1,some nm,(θ.map (·.2))++(bw++args.flatMap AV.ids)⟩):X∨semG P f nm args H K:=
 .inr ⟨xs,h0,r,h1,h,h2⟩
theorem ai {p q:Prop}(h:p)(k:q):p∧q:=And.intro h k
theorem oi {p q:Prop}(h:Obl p)(k:q):p∧q:=And.intro h.out k
theorem fi {b:Bool}{X Y:Prop}(h1:b=true→X)(h2:b=false→Y):ifB b X Y:=ifB_intro h1 h2
theorem ci {P:Program}{f:FuncId}{H:Id→Option AO}{xs:List AV}{ts:List TV}{r:Res}{K:List TV→Res→Prop}(h:Sim.Spec P f ts r)(h1:argTrees H xs ts)(h2:K ts r):∃ts r,argTrees H xs ts∧Sim.Spec P f ts r∧K ts r:=call_intro h h1 h2
theorem cl {P:Program}{f:FuncId}{H:Id→Option AO}{xs:List AV}{ts:List TV}{r:Res}{K:List TV→Res→Prop}{X:Prop}(h:Sim.Spec P f ts r)(h2:K ts r)(h1:argTrees H xs ts:=by first|((repeat' (first|exact trivial|refine And.intro ?_ ?_|exact rfl));done)|fail):(∃ts r,argTrees H xs ts∧Sim.Spec P f ts r∧K ts r)∨X:= .inl ⟨ts,r,h1,h,h2⟩
theorem cg {P:Program}{f:FuncId}{nm:Nat}{args:List AV}{H:Id→Option AO}{K:Eff→Prop}{X:Prop}{xs:List AV}{h0:List (Id×AO)}{r:AV}{h1:List (Id×AO)}(h:SpecG P f xs h0 r h1)
  (h2:maVs H [] [] args xs fun θ bw=>maO H θ bw h0 fun θ bw=>(okI θ bw h0 && okJ h0 r h1 && (bw.isEmpty || (newV r && newO h1)))=true∧K ⟨r.re θ nm,usG θ nm h1,some nm,(θ.map (·.2))++(bw++args.flatMap AV.ids)⟩):X∨semG P f nm args H K:=callG_intro h h2
theorem Wm {α:Type}{p:α→Prop}{a:α}{l:List α}(h:p a)(t:∀x∈l,p x):∀x∈a::l,p x:=List.forall_mem_cons.2 ⟨h,t⟩
theorem KO {p:Prop}(h:p:=by first|((with_reducible show regOk _ _=true);kernel_rfl)|((with_reducible show eqTyOk _ _=true);kernel_rfl)|rfl|exact trivial|((repeat' (first|exact trivial|refine And.intro ?_ ?_));done)|decide|((repeat' (first|exact List.forall_mem_nil _|refine Wm rfl ?_));done)|(refine And.intro ?_ ?_ <;> simp only[List.length_map,List.length_append,List.length_cons,List.length_nil] <;> omega)|fail):p:=h
theorem KP {p:Prop}(h:p:=by first|((with_reducible show regOk _ _=true);kernel_rfl)|((with_reducible show eqTyOk _ _=true);kernel_rfl)|rfl|exact trivial|((repeat' (first|exact trivial|refine And.intro ?_ ?_));done)|decide|((repeat' (first|exact List.forall_mem_nil _|refine Wm rfl ?_));done)|fail):p:=h
theorem KR {p:Prop}(h:p:=by first|((with_reducible show regOk _ _=true);kernel_rfl)|((with_reducible show regOkX _ _ _ _=true);kernel_rfl)|((with_reducible show condX _ _ _ _ _ _);(conv=>whnf);rfl)|rfl|exact trivial|((repeat' (first|exact trivial|refine And.intro ?_ ?_));done)|decide|((repeat' (first|exact List.forall_mem_nil _|refine Wm rfl ?_));done)|fail):p:=h
theorem KW {k:IntKind}{a b:Int}(h:a=b:=by first|rfl|(simp(disch:=omega)only[IntWalk.i64_in];done)|((try simp(disch:=omega)only[IntWalk.i64_in]);omega)):Tr.int k a=Tr.int k b:=congrArg (Tr.int k) h
theorem KX {p:Prop}(h:False:=by simp only[decide_eq_false_iff_not,decide_eq_true_eq]at *;omega):p:=h.elim
theorem KK {p:Prop}(h:False:=by simp only[beq_iff_eq,beq_eq_false_iff_ne,ne_eq,decide_eq_true_eq,decide_eq_false_iff_not]at *;omega):p:=h.elim
theorem KN {p:Prop}(h:False:=by simp only[List.length_map,List.length_cons,List.length_nil,beq_iff_eq,beq_eq_false_iff_ne,ne_eq,decide_eq_true_eq,decide_eq_false_iff_not]at *;omega):p:=h.elim
section
variable {P:Program} {Γ:Env} {N B:Nat} {M:Nat→Prop} {w0:Start} {w:World} {ρ:Rho} {st st':St} {a:Act}
theorem freshC_ok {ok:Nat→Prop}{v:Value}{x:AC}(h:freshC x)(hv:RC B ρ w ok v x):RC B ρ w (okF B ok true) v x:=by
 cases x with
 | t x=>
  cases x with
  | lst=>exact h.elim
  | int k n=>exact RT.flat hv (by simp)
  | bool b=>exact RT.flat hv (by simp)
  | str b=>exact RT.flat hv (by simp)
 | f x=>exact RT.up (show RT w (okF B ok true) v x from hv) fun b hb=>⟨hb,hb.2⟩
 | nils sz=>exact hv
 | nilp=>exact hv
 | own o=>exact hv
 | sub o k=>exact hv
 | ptr o k=>exact hv
 | opq=>exact hv
 | mpv o=>exact hv
theorem freshCs_ok {ok:Nat→Prop}:∀{vs:List Value} {xs:List AC},freshCs xs→RCs B ρ w ok vs xs→RCs B ρ w (okF B ok true) vs xs
 | [],[],_,_=>trivial
 | _::_,_::_,h,hv=>⟨freshC_ok h.1 hv.1,freshCs_ok h.2 hv.2⟩
 | [],_::_,_,h=>h.elim
 | _::_,[],_,h=>h.elim
theorem freshR_ok {ok:Nat→Prop}{v:Value}{x:AR}(h:freshR x)(hv:RR B ρ w ok v x):RR B ρ w (okF B ok true) v x:=by
 cases x with
 | c x=>exact freshC_ok h hv
 | agg cs=>obtain⟨us,e,hu⟩:=hv;exact⟨us,e,freshCs_ok h hu⟩
theorem freshRs_ok {ok:Nat→Prop}:∀{vs:List Value} {xs:List AR},freshRs xs→RRs B ρ w ok vs xs→RRs B ρ w (okF B ok true) vs xs
 | [],[],_,_=>trivial
 | _::_,_::_,h,hv=>⟨freshR_ok h.1 hv.1,freshRs_ok h.2 hv.2⟩
 | [],_::_,_,h=>h.elim
 | _::_,[],_,h=>h.elim
theorem idsApart_get:∀{l:List (Id×AO)} {o:Id} {x:AO},idsApart l=true→(o,x)∈l→hget (l.map fun p=>(p.1,some p.2)) o=some x
 | [],_,_,_,h=>by cases h
 |(i,y)::l,o,x,h,hm=>by
  simp only[idsApart,Bool.and_eq_true,Bool.not_eq_true',List.any_eq_false]at h
  rw[List.map_cons,hget]
  rcases List.mem_cons.1 hm with he|hm2
  ·injection he with e1 e2;subst e1;subst e2;rw[idEq_iff.2 rfl];rfl
  ·cases hb:idEq o i with
   | true=>have:=idEq_iff.1 hb;subst this;exact absurd (idEq_iff.2 rfl) (h.1 (o,x) hm2)
   | false=>exact idsApart_get h.2 hm2
theorem Conc.alone (hc:Conc N B M w0 ρ st.fs a w){v:Value}{x:AV}(hv:RV B ρ w (okB ρ st.fs.H w) v x)(hi:∀o∈x.ids,st.fs.U o.1):Conc 1 B M w0 ρ (St.fs ⟨[(0,x)],st.h,st.u⟩) ⟨#[v],[]⟩ w:=by
 refine⟨rfl,rfl,fun t=>?_,hc.obj,hc.sep,hc.rng,hc.keep,hc.base,hc.alw,hc.cst,hc.fix,fun t o ho=>?_,hc.usedH⟩
 ·show RV _ _ _ _ _ (bif Nat.beq t 0 then x else .unk)
  cases t with
  | zero=>exact hv
  | succ t=>trivial
 ·have ho:o∈(bif Nat.beq t 0 then x else .unk).ids:=ho
  cases t with
  | zero=>exact hi o ho
  | succ t=>have:o∈AV.ids .unk:=ho;simp[AV.ids]at this
theorem finV_ok {r:Res}{v:Value}{x:AV}(hM:∀b,¬M b)(hX:∀o,w0.fx o=none)(hc:Conc N B M w0 ρ st.fs a w)(h:finV x st r)(hv:RV B ρ w (okB ρ st.fs.H w) v x)(hv':RV B ρ w (okF B (okB ρ st.fs.H w) true) v x)(hi:∀o∈x.ids,st.fs.U o.1):ResOK B w v r:=by
 obtain⟨h1,h2⟩:=h
 obtain⟨ρ',hc',hk,hS⟩:=h2.ok' (M:=M) (fun _=>⟨hM,hX⟩) (fun o v hv=>by rw[hX]at hv;cases hv) (hc.alone hv hi)
 have hget:∀o y,(o,y)∈r.os 0→(St.fs ⟨[(0,r.av 0)],r.us 0,[0]⟩).H o=some y:=fun o y hm=>idsApart_get h1 hm
 refine⟨ρ',okF B (okB ρ' (St.fs ⟨[(0,r.av 0)],r.us 0,[0]⟩).H w) true,fun b hb=>⟨hb.1.1.1,hb.2 rfl⟩,?_,fun o y hm=>?_,fun o o' y y' hm hm' hne b hb hb'=>hc'.sep o o' y y' b (hget o y hm) (hget o' y' hm') hne (.inl hb) (.inl hb')⟩
 ·exact hS 0 v _ _ (fun b hb=>⟨hk b hb.1,hb.2⟩) hv'
 ·have ho:=hget o y hm
  obtain⟨sz,rows,rfl⟩:=res_arr hm
  refine⟨?_,fun b hb=>?_⟩
  ·obtain⟨hu,hro⟩:=hc'.obj o _ ho
   refine⟨hu,?_⟩
   rcases hro with h|⟨b,cap,cur,e,fz,k1,k2,k3,k4,k5,k6,k7,k8⟩
   ·exact .inl h
   ·exact .inr ⟨b,cap,cur,e,fz,k1,k2,k3,k4,k5,k6,k7.keep fun b hb=>⟨rfl,hb,hb.2⟩,k8⟩
  ·have:=hc'.rng o _ b ho (.inl hb)
   refine⟨this.2.resolve_right (hM b),this.1,fun hok=>hok.1.2 o _ ho (.inl hb)⟩
abbrev resRun (tmps:Array Value)(rv:ResultVar):Sem Value:=match rv with
 | .tmp t=>pure (tmps.getD t undef)
 | .cell a t=>do loadVar t (←asAddr (tmps.getD a undef))
theorem resV_ok (hΓ:Γ.chk P=true)(hc:Conc N B M w0 ρ st.fs a w){rv:ResultVar}{x:AR}(h:resV Γ st rv=some x):
  ∃v,(resRun a.tmps rv).run P w= .ok v w∧RR B ρ w (okB ρ st.fs.H w) v x∧∀o∈x.ids,st.fs.U o.1:=by
 cases rv with
 | tmp t=>
  simp only[resV]at h
  split at h
  ·rename_i y hy
   injection h with h;subst h
   have hs:=hc.slot t
   rw[show st.fs.L t= .r y from hy]at hs
   exact⟨_,rfl,hs,fun o ho=>hc.usedL t o (by rw[show st.fs.L t= .r y from hy];exact ho)⟩
  ·cases h
 | cell t T=>
  simp only[resV]at h
  split at h
  ·rename_i o ti hl hT
   split at h
   ·rename_i cells hh
    obtain⟨i,d,fit⟩:=Env.fit hΓ hT
    obtain⟨b,us,t',fz,g1,g2,g3,g4,g5⟩:=hc.box (q:=o) hh
    have hs:=hc.slot t
    rw[show st.fs.L t= .r (.c (.ptr o 0)) from hl]at hs
    obtain⟨b',e1,e2⟩:=hs
    rw[g1]at e1
    injection e1 with e1;injection e1 with e1;injection e1 with e1
    subst e1
    have hids:∀o'∈cells.flatMap AC.ids,st.fs.U o'.1:=(hc.usedH o _ hh).2
    have hadr:(asAddr (a.tmps.getD t undef)).run P w= .ok (⟨b,0,none⟩:Addr) w:=by rw[e2];rfl
    split at h
    ·rename_i cs ha hb
     injection h with h;subst h
     have hlen:us.toList.length=ti.size:=by rw[g4.length];simpa using hb
     have h1:=run_loadCells_list (P:=P) w ⟨b,0,none⟩ us.toList g5
     rw[hlen,←fit.size]at h1
     refine⟨.agg us.toList.toArray,?_,⟨_,rfl,by simpa using g4⟩,hids⟩
     simp only[resRun,Sem.run_bind,hadr,Result.andThen_ok]
     simp[loadVar,run_isAgg fit.und,fit.agg,ha,run_sizeOf fit.info,h1]
    ·rename_i c ha hb
     injection h with h;subst h
     obtain⟨u,hu,hru⟩:=g4.get 0 c rfl
     have hcell:=g5 0 u hu
     rw[add_zero']at hcell
     refine⟨u,?_,hru,fun o ho=>hids o (by simpa using(show o∈c.ids from ho))⟩
     simp only[resRun,Sem.run_bind,hadr,Result.andThen_ok]
     simp[loadVar,run_isAgg fit.und,fit.agg,ha,run_load,hcell]
    ·cases h
   ·cases h
  ·cases h
theorem resVs_ok (hΓ:Γ.chk P=true)(hc:Conc N B M w0 ρ st.fs a w):∀{rvs:List ResultVar} {xs:List AR},resVs Γ st rvs=some xs→
  ∃vs,(rvs.mapM (resRun a.tmps)).run P w= .ok vs w∧RRs B ρ w (okB ρ st.fs.H w) vs xs∧∀o∈xs.flatMap AR.ids,st.fs.U o.1
 | [],xs,h=>by
  simp only[resVs,Option.some.injEq]at h
  subst h
  exact⟨[],by simp,trivial,by simp⟩
 | rv::rvs,xs,h=>by
  simp only[resVs]at h
  split at h
  ·rename_i x xs' h1 h2
   injection h with h;subst h
   obtain⟨v,g1,g2,g3⟩:=resV_ok hΓ hc h1
   obtain⟨vs,g4,g5,g6⟩:=resVs_ok hΓ hc h2
   refine⟨v::vs,?_,⟨g2,g5⟩,fun o ho=>?_⟩
   ·rw[List.mapM_cons,Sem.run_bind,g1,Result.andThen_ok,Sem.run_bind,g4,Result.andThen_ok,Sem.run_pure]
   ·simp only[List.flatMap_cons,List.mem_append]at ho
    exact ho.elim (g3 o) (g6 o)
  ·cases h
theorem results_run {fn:Func}{a:Act}{vs:List Value}(hvs:(fn.results.toList.mapM (resRun a.tmps)).run P w= .ok vs w):(results fn a.tmps).run P w= .ok (if h:vs.length=1 then vs[0]else .tuple vs.toArray) w:=by
 unfold results
 rw[show fn.results=fn.results.toList.toArray by simp]
 simp only[List.mapM_toArray,bind_map_left,Sem.run_bind]
 refine(congrArg (fun x=>Result.andThen x _) hvs).trans ?_
 simp only[Result.andThen_ok,Sem.run_pure,List.size_toArray,List.getElem_toArray]
theorem fin0_ok {r:Res}{fn:Func}(hΓ:Γ.chk P=true)(hM:∀b,¬M b)(hX:∀o,w0.fx o=none)(hc:Conc N B M w0 ρ st.fs a w)(h:fin0 Γ fn.results.toList r st):
  ∃v,(results fn a.tmps).run P w= .ok v w∧ResOK B w v r:=by
 unfold fin0 at h
 split at h
 ·rename_i x hx
  obtain⟨vs,g1,g2,g3⟩:=resVs_ok hΓ hc hx
  match vs,g2 with
  | [v],g2=>
   refine⟨_,results_run g1,?_⟩
   simp only[List.length_cons,List.length_nil,Nat.zero_add,dite_true,List.getElem_cons_zero]
   exact finV_ok hM hX hc h.2 g2.1 (freshR_ok h.1 g2.1) fun o ho=>g3 o (by simpa using(show o∈x.ids from ho))
  | [],g2=>exact g2.elim
  | _::_::_,g2=>exact g2.2.elim
 ·rename_i xs hne hx
  obtain⟨vs,g1,g2,g3⟩:=resVs_ok hΓ hc hx
  refine⟨_,results_run g1,?_⟩
  have hl:¬vs.length=1:=by
   intro hl
   obtain⟨v,rfl⟩:=List.length_eq_one_iff.1 hl
   match xs,g2,hne with
   | [x],_,hne=>exact hne x rfl
   | [],g2,_=>exact g2.elim
   | _::_::_,g2,_=>exact g2.2.elim
  rw[dif_neg hl]
  exact finV_ok hM hX hc h.2 ⟨_,rfl,by simpa using g2⟩ ⟨_,rfl,by simpa using freshRs_ok h.1 g2⟩ g3
 ·exact h.elim
theorem fin_ok {r:Res}{fn:Func}(hΓ:Γ.chk P=true)(hM:∀b,¬M b)(hX:∀o,w0.fx o=none)(hc:Conc N B M w0 ρ st.fs a w)(h:fin Γ fn.results.toList st r):
  ∃v,(results fn a.tmps).run P w= .ok v w∧ResOK B w v r:=by
 obtain⟨st1,ρ1,g1,g2,_⟩:=closeAll_ok _ st _ ρ h hc fun _ _=>trivial
 exact fin0_ok hΓ hM hX g2 g1
theorem finG_ok {r:AV}{h1:List (Id×AO)}{fn:Func}(hΓ:Γ.chk P=true)(hF:∀o v,w0.fx o=some v→o.1=0)(hc:Conc N B M w0 ρ st.fs a w)(h:closeAll (holesOf st.h []) st (finG0 Γ fn.results.toList r h1)):
  ∃v ρ',(results fn a.tmps).run P w= .ok v w∧Conc 1 B M w0 ρ' (St.fs ⟨[(0,r)],h1.map (fun p=>(p.1,some p.2)),[1,0]⟩) ⟨#[v],[]⟩ w:=by
 obtain⟨st1,ρ1,h,hc,_⟩:=closeAll_ok _ st _ ρ h hc fun _ _=>trivial
 unfold finG0 at h
 split at h
 ·rename_i x hx
  obtain⟨vs,g1,g2,g3⟩:=resVs_ok hΓ hc hx
  match vs,g2 with
  | [v],g2=>
   obtain⟨ρ2,h2⟩:=h.ok (by simp) hF (hc.alone (x:= .r x) g2.1 fun o ho=>g3 o (by simpa using(show o∈x.ids from ho)))
   refine⟨_,ρ2,results_run g1,?_⟩
   simpa using h2
  | [],g2=>exact g2.elim
  | _::_::_,g2=>exact g2.2.elim
 ·rename_i xs hne hx
  obtain⟨vs,g1,g2,g3⟩:=resVs_ok hΓ hc hx
  have hl:¬vs.length=1:=by
   intro hl
   obtain⟨v,rfl⟩:=List.length_eq_one_iff.1 hl
   match xs,g2,hne with
   | [x],_,hne=>exact hne x rfl
   | [],g2,_=>exact g2.elim
   | _::_::_,g2,_=>exact g2.2.elim
  obtain⟨ρ2,h2⟩:=h.ok (by simp) hF (hc.alone (x:= .tup xs) (v:= .tuple vs.toArray) ⟨_,rfl,by simpa using g2⟩ g3)
  refine⟨_,ρ2,results_run g1,?_⟩
  rw[dif_neg hl]
  exact h2
 ·exact h.elim
theorem look_enum:∀(ts:List TV) (i t:Nat),look (enumF i ts) t=if t < i then .unk else(match ts[t - i]? with|some x=>x.av|none=> .unk)
 | [],i,t=>by simp[enumF,look]
 | x::ts,i,t=>by
  rw[enumF,look]
  cases hb:Nat.beq t i with
  | true=>have:=Nat.eq_of_beq_eq_true hb;subst this;simp
  | false=>
   have hne:t≠i:=fun e=>by subst e;simp at hb
   rw[cond_false,look_enum ts (i+1) t]
   by_cases h1:t < i
   ·rw[if_pos h1,if_pos (by omega)]
   ·rw[if_neg h1,if_neg (by omega)]
    obtain⟨k,hk⟩:∃k,t - i=k+1:=⟨t - i - 1,by omega⟩
    rw[hk,show t - (i+1)=k by omega]
    simp
theorem TV.av_ids (t:TV):t.av.ids=[]:=by
 cases t with
 | c x=>rfl
 | agg xs=>
  show(xs.map AC.t).flatMap AC.ids=[]
  induction xs with
  | nil=>rfl
  | cons x xs ih=>simp[AC.ids]
theorem RTs.toT {ok:Nat→Prop}:∀{vs:List Value} {ts:List Tr},RTs w ok vs ts→RCs B ρ w ok vs (ts.map .t)
 | [],[],_=>trivial
 | _::_,_::_,h=>⟨h.1,RTs.toT h.2⟩
 | [],_::_,h=>h.elim
 | _::_,[],h=>h.elim
theorem RTV.toRV {ok:Nat→Prop}{v:Value}{t:TV}(h:RTV w ok v t):RV B ρ w ok v t.av:=by
 cases t with
 | c x=>exact h
 | agg xs=>obtain⟨us,e,h⟩:=h;exact⟨us,e,h.toT⟩
theorem RTVs.len {ok:Nat→Prop}:∀{vs:List Value} {ts:List TV},RTVs w ok vs ts→vs.length=ts.length
 | [],[],_=>rfl
 | _::vs,_::ts,h=>by simp[RTVs.len (vs:=vs) (ts:=ts) h.2]
 | [],_::_,h=>h.elim
 | _::_,[],h=>h.elim
theorem RTVs.get {ok:Nat→Prop}:∀{vs:List Value} {ts:List TV},RTVs w ok vs ts→∀(i:Nat) v t,vs[i]?=some v→ts[i]?=some t→RTV w ok v t
 | [],[],_,i,v,t,h,_=>by simp at h
 | _::_,_::_,h,0,v,t,h1,h2=>by simp at h1 h2;subst h1;subst h2;exact h.1
 | _::_,_::_,h,i+1,v,t,h1,h2=>RTVs.get h.2 i v t (by simpa using h1) (by simpa using h2)
 | [],_::_,h,_,_,_,_,_=>h.elim
 | _::_,[],h,_,_,_,_,_=>h.elim
theorem enter_conc {ts:List TV}{vs:Array Value}{w:World}(h:RTVs w (fun b=>b < w.heap.size) vs.toList ts)(hN:ts.length≤N):
  Conc N w.heap.size (fun _=>False) ⟨w,fun _=>True,fun _=>none⟩ ⟨fun _=>undef,fun _ _=>False,fun _=>True⟩ (st0 ts).fs {tmps:=vs++Array.replicate (N - vs.size) undef,defers:=[]} w:=by
 have hl:vs.size=ts.length:=by simpa using h.len
 refine⟨by simp;omega,rfl,fun t=>?_,fun o x ho=>(by cases ho),fun o o' x x' b ho=>(by cases ho),fun o x b ho=>(by cases ho),⟨rfl,rfl,rfl,Nat.le_refl _,fun _ _ _=>rfl⟩,Nat.le_refl _,fun _ _=>trivial,rfl,fun _ _ h=>(by cases h),fun t o ho=>?_,fun o x ho=>by cases ho⟩
 ·show RV _ _ _ _ _ (look (enumF 0 ts) t)
  rw[look_enum,if_neg (by omega),Nat.sub_zero]
  cases ht:ts[t]? with
  | none=>trivial
  | some x=>
   have hlt:t < vs.size:=by
    rcases Nat.lt_or_ge t ts.length with h'|h'
    ·omega
    ·rw[List.getElem?_eq_none h']at ht;cases ht
   have e:(vs++Array.replicate (N - vs.size) undef).getD t undef=vs[t]:=by
    rw[Array.getD_eq_getD_getElem?,Array.getElem?_append_left hlt,Array.getElem?_eq_getElem hlt]
    rfl
   simp only
   rw[e]
   have:=h.get t vs[t] x (by simp[hlt]) ht
   refine RV.keep (RTV.toRV (B:=w.heap.size) (ρ:=⟨fun _=>undef,fun _ _=>False,fun _=>True⟩) this) (fun b hb=>⟨rfl,⟨hb,trivial⟩,fun o x ho=>by cases ho⟩) (fun o ho=>rfl)
 ·have ho:o∈(look (enumF 0 ts) t).ids:=ho
  rw[look_enum,if_neg (by omega),Nat.sub_zero]at ho
  cases ht:ts[t]? with
  | none=>rw[ht]at ho;simp[AV.ids]at ho
  | some x=>rw[ht]at ho;simp only[TV.av_ids]at ho;cases ho
theorem enters_of {f:FuncId}{fn:Func}{c:Code}(hf:P.funcs[f]?=some fn)(hb:fn.body=some c)(hn:(fn.name== "runtime.NumGoroutine")=false):Enters P f:=by
 intro args w
 simp only[beq_eq_false_iff_ne]at hn
 simp[callFunc,hf,hb,hn]
theorem spec_of_W {f:FuncId}{fn:Func}{c:Code}{ts:List TV}{r:Res}(hΓ:Γ.chk P=true)(hmix:P.follows .mixedOrders=true)(hf:P.funcs[f]?=some fn)(hb:fn.body=some c)(hn:(fn.name== "runtime.NumGoroutine")=false)
  (hN:Nat.ble ts.length fn.ntmps=true) (h:W true P Γ fn.ntmps c (doneK Γ fn.results.toList r) (st0 ts)):Spec P f ts r:=by
 refine⟨enters_of hf hb hn,fun w vs hvs=>calls_of_wp hf hb ?_⟩
 have hc:=enter_conc (N:=fn.ntmps) hvs (Nat.le_of_ble_eq_true hN)
 refine W_ok hΓ hmix (fun _=>⟨fun _ h=>h,fun _=>rfl⟩) (fun _ _ h=>by cases h) c _ _ _ _ _ _ h hc fun e st' ρ' a' w' hK hc'=>?_
 have key:fin Γ fn.results.toList st' r→a'.defers=[]∧∃v,(results fn a'.tmps).run P w'= .ok v w'∧∃v',Ending.returned v= .returned v'∧Below w.heap.size w w'∧ResOK w.heap.size w' v' r:=fun hfin=>by
  obtain⟨v,h1,h2⟩:=fin_ok (P:=P) hΓ (fun _ h=>h) (fun _=>rfl) hc' hfin
  exact⟨hc'.defers,v,h1,v,rfl,⟨hc'.keep.os,hc'.keep.tape,hc'.keep.output,hc'.keep.size,fun k hk=>hc'.keep.block k hk (fun h=>h)⟩,h2⟩
 cases e with
 | normal=>exact key hK
 | ret=>exact key hK
 | exit id=>exact hK.elim
def enumV:Nat→List AV→List (Nat×AV)
 | _,[]=>[]
 | i,t::ts=>(i,t)::enumV (i+1) ts
def stG (xs:List AV)(h0:List (Id×AO)):St:=⟨enumV 0 xs,h0.map fun p=>(p.1,some p.2),[0]⟩
theorem look_enumV:∀(ts:List AV) (i t:Nat),look (enumV i ts) t=if t < i then .unk else(match ts[t - i]? with|some x=>x|none=> .unk)
 | [],i,t=>by simp[enumV,look]
 | x::ts,i,t=>by
  rw[enumV,look]
  cases hb:Nat.beq t i with
  | true=>have:=Nat.eq_of_beq_eq_true hb;subst this;simp
  | false=>
   have hne:t≠i:=fun e=>by subst e;simp at hb
   rw[cond_false,look_enumV ts (i+1) t]
   by_cases h1:t < i
   ·rw[if_pos h1,if_pos (by omega)]
   ·rw[if_neg h1,if_neg (by omega)]
    obtain⟨k,hk⟩:∃k,t - i=k+1:=⟨t - i - 1,by omega⟩
    rw[hk,show t - (i+1)=k by omega]
    simp
theorem RVs.len {ok:Nat→Prop}:∀{vs:List Value} {ts:List AV},RVs B ρ w ok vs ts→vs.length=ts.length
 | [],[],_=>rfl
 | _::vs,_::ts,h=>by simp[RVs.len (vs:=vs) (ts:=ts) h.2]
 | [],_::_,h=>h.elim
 | _::_,[],h=>h.elim
theorem RVs.get {ok:Nat→Prop}:∀{vs:List Value} {ts:List AV},RVs B ρ w ok vs ts→∀(i:Nat) v t,vs[i]?=some v→ts[i]?=some t→RV B ρ w ok v t
 | [],[],_,i,v,t,h,_=>by simp at h
 | _::_,_::_,h,0,v,t,h1,h2=>by simp at h1 h2;subst h1;subst h2;exact h.1
 | _::_,_::_,h,i+1,v,t,h1,h2=>RVs.get h.2 i v t (by simpa using h1) (by simpa using h2)
 | [],_::_,h,_,_,_,_,_=>h.elim
 | _::_,[],h,_,_,_,_,_=>h.elim
theorem hget_lk (h0:List (Id×AO))(o:Id):hget (h0.map fun p=>(p.1,some p.2)) o=lkH h0 o:=by
 induction h0 with
 | nil=>rfl
 | cons p l ih=>simp only[List.map_cons,hget,lkH,ih]
def namesG (xs:List AV)(h0:List (Id×AO))(r:AV)(h1:List (Id×AO)):Bool:=
 xs.all (fun x=>x.ids.all fun o=>Nat.beq o.1 0) && h0.all (fun p=>Nat.beq p.1.1 0 && p.2.ids.all fun o=>Nat.beq o.1 0)
theorem enter_concG {xs:List AV}{h0:List (Id×AO)}{vs:Array Value}{w:World}{ρ:Rho}(hn:namesG xs h0 .unk []=true)(h:RVs w.heap.size ρ w (okB ρ (lkH h0) w) vs.toList xs)(hl:Lies w.heap.size ρ w h0)(hal:∀b,(w.heap.size≤b∨Ms ρ h0 b)→ρ.al b)(hN:xs.length≤N):
  Conc N w.heap.size (Ms ρ h0) ⟨w,ρ.al,fun o=>if(lkH h0 o).isSome=true then some (ρ o)else none⟩ ρ (stG xs h0).fs {tmps:=vs++Array.replicate (N - vs.size) undef,defers:=[]} w:=by
 have hlen:vs.size=xs.length:=by simpa using h.len
 simp only[namesG,Bool.and_eq_true,List.all_eq_true,Nat.beq_eq_true_eq]at hn
 have hH:∀o,(stG xs h0).fs.H o=lkH h0 o:=fun o=>hget_lk h0 o
 have hH':(stG xs h0).fs.H=lkH h0:=funext hH
 have hU:∀n,(stG xs h0).fs.U n↔n=0:=fun n=>by
  show used [0] n=true↔n=0
  simp only[used]
  cases hb:Nat.beq n 0 with
  | true=>simpa using hb
  | false=>simp only[cond_false,Bool.false_eq_true,false_iff];intro e;subst e;simp at hb
 have hmem:∀o x,lkH h0 o=some x→o.1=0∧∀o'∈x.ids,o'.1=0:=fun o x hx=>by
  have:=hn.2 _ (lkH_mem hx)
  exact⟨by simpa using this.1,fun o' ho'=>by simpa using this.2 o' ho'⟩
 refine⟨by simp;omega,rfl,fun t=>?_,fun o x ho=>?_,fun o o' x x' b ho ho'=>?_,fun o x b ho he=>?_,⟨rfl,rfl,rfl,Nat.le_refl _,fun _ _ _=>rfl⟩,Nat.le_refl _,fun b hb=>hal b hb,rfl,fun o v hv=>?_,fun t o ho=>?_,fun o x ho=>?_⟩
 ·show RV _ _ _ _ _ (look (enumV 0 xs) t)
  rw[look_enumV,if_neg (by omega),Nat.sub_zero,hH']
  cases ht:xs[t]? with
  | none=>trivial
  | some x=>
   have hlt:t < vs.size:=by
    rcases Nat.lt_or_ge t xs.length with h'|h'
    ·omega
    ·rw[List.getElem?_eq_none h']at ht;cases ht
   have e:(vs++Array.replicate (N - vs.size) undef).getD t undef=vs[t]:=by
    rw[Array.getD_eq_getD_getElem?,Array.getElem?_append_left hlt,Array.getElem?_eq_getElem hlt]
    rfl
   simp only
   rw[e]
   exact h.get t vs[t] x (by simp[hlt]) ht
 ·rw[hH]at ho
  rw[hH']
  exact hl.obj o x ho
 ·rw[hH]at ho ho'
  exact hl.sep o o' x x' b ho ho'
 ·rw[hH]at ho
  exact⟨hl.lt o x b ho he,.inr ⟨o,x,ho,he⟩⟩
 ·have hv:(if(lkH h0 o).isSome=true then some (ρ o)else none)=some v:=hv
  split at hv
  ·rename_i hs
   injection hv with hv
   obtain⟨x,hx⟩:=Option.isSome_iff_exists.1 hs
   exact⟨hv,(hU _).2 (hmem o x hx).1⟩
  ·cases hv
 ·have ho:o∈(look (enumV 0 xs) t).ids:=ho
  rw[look_enumV,if_neg (by omega),Nat.sub_zero]at ho
  cases ht:xs[t]? with
  | none=>rw[ht]at ho;simp[AV.ids]at ho
  | some x=>rw[ht]at ho;exact(hU _).2 (by simpa using hn.1 x (List.mem_of_getElem? ht) o ho)
 ·rw[hH]at ho
  obtain⟨g1,g2⟩:=hmem o x ho
  exact⟨(hU _).2 g1,fun o' ho'=>(hU _).2 (g2 o' ho')⟩
theorem specG_of_W {f:FuncId}{fn:Func}{c:Code}{xs:List AV}{h0:List (Id×AO)}{r:AV}{h1:List (Id×AO)}(hΓ:Γ.chk P=true)(hmix:P.follows .mixedOrders=true)(hf:P.funcs[f]?=some fn)(hb:fn.body=some c)(hn:(fn.name== "runtime.NumGoroutine")=false)
  (hN:Nat.ble xs.length fn.ntmps=true) (hnames:namesG xs h0 .unk []=true) (h:W false P Γ fn.ntmps c (doneG Γ fn.results.toList r h1) (stG xs h0)):SpecG P f xs h0 r h1:=by
 refine⟨enters_of hf hb hn,fun w vs ρ hvs hl hal=>calls_of_wp hf hb ?_⟩
 have hc:=enter_concG (N:=fn.ntmps) hnames hvs hl hal (Nat.le_of_ble_eq_true hN)
 have hF:∀o v,(if(lkH h0 o).isSome=true then some (ρ o)else none)=some v→o.1=0:=fun o v hv=>by
  split at hv
  ·rename_i hs
   obtain⟨x,hx⟩:=Option.isSome_iff_exists.1 hs
   simp only[namesG,Bool.and_eq_true,List.all_eq_true,Nat.beq_eq_true_eq]at hnames
   simpa using(hnames.2 _ (lkH_mem hx)).1
  ·cases hv
 refine W_ok hΓ hmix (by simp) hF c _ _ _ _ _ _ h hc fun e st' ρ' a' w' hK hc'=>?_
 have key:closeAll (holesOf st'.h []) st' (finG0 Γ fn.results.toList r h1)→a'.defers=[]∧∃v,(results fn a'.tmps).run P w'= .ok v w'∧∃v' ρ2,Ending.returned v= .returned v'∧Keep w.heap.size (Ms ρ h0) w w'∧(∀o,(lkH h0 o).isSome=true→ρ2 o=ρ o)∧ρ2.al=ρ.al∧
   RV w.heap.size ρ2 w' (okB ρ2 (lkH h1) w') v' r∧Lies w.heap.size ρ2 w' h1∧∀o x b,lkH h1 o=some x→Own ρ2 o b→w.heap.size≤b∨Ms ρ h0 b:=fun hfin=>by
  obtain⟨v,ρ2,k1,k2⟩:=finG_ok (P:=P) hΓ hF hc' hfin
  have hH:∀o,(St.fs ⟨[(0,r)],h1.map (fun p=>(p.1,some p.2)),[1,0]⟩).H o=lkH h1 o:=fun o=>hget_lk h1 o
  have hH':(St.fs ⟨[(0,r)],h1.map (fun p=>(p.1,some p.2)),[1,0]⟩).H=lkH h1:=funext hH
  refine⟨hc'.defers,v,k1,v,ρ2,rfl,k2.keep,fun o ho=>?_,k2.cst,?_,⟨fun o x ho=>?_,fun o o' x x' b ho ho'=>?_,fun o x b ho he=>?_⟩,fun o x b ho he=>?_⟩
  ·have:=k2.fix o (ρ o) (by show(if(lkH h0 o).isSome=true then some (ρ o)else none)=_;rw[if_pos ho])
   exact this.1
  ·have:=k2.slot 0
   rw[hH']at this
   exact this
  ·have:=k2.obj o x (by rw[hH];exact ho)
   rw[hH']at this
   exact this
  ·exact k2.sep o o' x x' b (by rw[hH];exact ho) (by rw[hH];exact ho')
  ·exact(k2.rng o x b (by rw[hH];exact ho) he).1
  ·exact(k2.rng o x b (by rw[hH];exact ho) he).2
 cases e with
 | normal=>exact key hK
 | ret=>exact key hK
 | exit id=>exact hK.elim
end
def freshV:AV→Prop
 | .r x=>freshR x
 | .tup xs=>freshRs xs
 | _=>False
theorem spec_of_G {P:Program}{f:FuncId}{ts:List TV}{r:AV}{h1:List (Id×AO)}{r':Res}(h:SpecG P f (ts.map TV.av) [] r h1)(hu:(usedIn [1,0] r.ids && usedH [1,0] (h1.map fun p=>(p.1,some p.2)))=true)(hf:freshV r)
  (hq:finV r ⟨[],h1.map fun p=>(p.1,some p.2),[1,0]⟩ r'):Spec P f ts r':=by
 refine⟨h.1,fun w vs hvs=>?_⟩
 have hM:∀b,¬Ms (⟨fun _=>undef,fun _ _=>False,fun _=>True⟩:Rho) [] b:=fun b hb=>by obtain⟨o,x,hx,_⟩:=hb;cases hx
 have hc0:=enter_conc (N:=ts.length) hvs (Nat.le_refl _)
 have hrv:RVs w.heap.size ⟨fun _=>undef,fun _ _=>False,fun _=>True⟩ w (okB ⟨fun _=>undef,fun _ _=>False,fun _=>True⟩ (lkH []) w) vs.toList (ts.map TV.av):=by
  generalize vs.toList=l at hvs
  clear hc0 h
  induction l generalizing ts with
  | nil=>cases ts with
   | nil=>trivial
   | cons _ _=>exact hvs.elim
  | cons v l ih=>cases ts with
   | nil=>exact hvs.elim
   | cons t ts=>exact⟨RV.keep (RTV.toRV (B:=w.heap.size) (ρ:=⟨fun _=>undef,fun _ _=>False,fun _=>True⟩) hvs.1) (fun b hb=>⟨rfl,⟨hb,trivial⟩,fun o x ho=>by cases ho⟩) (fun o ho=>rfl),ih hvs.2⟩
 refine(h.2 w vs ⟨fun _=>undef,fun _ _=>False,fun _=>True⟩ hrv ⟨fun o x ho=>(by cases ho),fun o o' x x' b ho=>(by cases ho),fun o x b ho=>(by cases ho)⟩ (fun _ _=>trivial)).mono fun e w' he=>?_
 obtain⟨v,ρ',e1,k,_,hal,hv,hl,hb⟩:=he
 refine⟨v,e1,⟨k.os,k.tape,k.output,k.size,fun q hq=>k.block q hq (hM q)⟩,?_⟩
 simp only[Bool.and_eq_true]at hu
 have hH:∀o,(St.fs ⟨[(0,r)],h1.map (fun p=>(p.1,some p.2)),[1,0]⟩).H o=lkH h1 o:=fun o=>hget_lk h1 o
 have hH':(St.fs ⟨[(0,r)],h1.map (fun p=>(p.1,some p.2)),[1,0]⟩).H=lkH h1:=funext hH
 have hc:Conc 1 w.heap.size (Ms (⟨fun _=>undef,fun _ _=>False,fun _=>True⟩:Rho) []) ⟨w,ρ'.al,fun _=>none⟩ ρ' (St.fs ⟨[(0,r)],h1.map (fun p=>(p.1,some p.2)),[1,0]⟩) ⟨#[v],[]⟩ w':=by
  refine⟨rfl,rfl,fun t=>?_,fun o x ho=>?_,fun o o' x x' b ho ho'=>?_,fun o x b ho hb2=>?_,k,k.size,fun b _=>by rw[hal];trivial,rfl,fun _ _ h=>(by cases h),fun t o ho=>?_,fun o x ho=>?_⟩
  ·rw[hH']
   show RV _ _ _ _ _ (bif Nat.beq t 0 then r else .unk)
   cases t with
   | zero=>exact hv
   | succ t=>trivial
  ·rw[hH']at *;exact hl.obj o x ho
  ·rw[hH']at *;exact hl.sep o o' x x' b ho ho'
  ·rw[hH']at *;exact⟨hl.lt o x b ho hb2,hb o x b ho hb2⟩
  ·have ho:o∈(bif Nat.beq t 0 then r else .unk).ids:=ho
   cases t with
   | zero=>exact usedIn_ok hu.1 o ho
   | succ t=>have:o∈AV.ids .unk:=ho;simp[AV.ids]at this
  ·exact usedH_ok hu.2 o x (hget_mem ho)
 refine finV_ok hM (fun _=>rfl) (st:=⟨[(0,r)],h1.map (fun p=>(p.1,some p.2)),[1,0]⟩) hc hq (by rw[hH'];exact hv) ?_ fun o ho=>usedIn_ok hu.1 o ho
 rw[hH']
 cases r with
 | r x=>exact freshR_ok hf hv
 | tup xs=>obtain⟨us,e,hus⟩:=hv;exact⟨us,e,freshRs_ok hf hus⟩
 | el o sz i off=>exact hf.elim
 | ro fr row off=>exact hf.elim
 | unk=>exact hf.elim
theorem spec_of_G1 {P:Program}{f:FuncId}{ts:List TV}{sz:Nat}{rows:List (List Tr)}(h:SpecG P f (ts.map TV.av) [] (.r (.c (.own (1,0,0)))) [((1,0,0),.dar sz (deepRows rows) none)]):Spec P f ts (.r (.c (.arr sz rows))):=by
 refine spec_of_G h rfl trivial ⟨rfl,rfl,?_⟩
 exact⟨rfl,rfl,rfl,rfl⟩
end Go.Sim
namespace Go.Sim
open Go.RowKit Go.ChangeShapes Go.WideShapes Go.ChangeAt
def okFs (okT:TypeId→Bool):Nat→List (Nat×Nat×TypeId)→Nat→Bool
 | o,[],sz=>Nat.beq o sz
 | o,(off,s,t)::r,sz=>Nat.beq off o && okT t && okFs okT (o+s) r sz
def okT (Γ:Env):Nat→TypeId→Bool
 | 0,_=>false
 | n+1,t=>match Γ.get t with
  | none=>false
  | some ti=>match ti.kind,ti.bool || ti.str,ti.elem,ti.fields with
   | some _,_,_,_=>Nat.beq ti.size 1
   | none,true,_,_=>Nat.beq ti.size 1
   | none,false,some e,_=>Nat.beq ti.size 1 && okT Γ n e
   | none,false,none,f::fs=>okFs (okT Γ n) 0 (f::fs) ti.size
   | none,false,none,[]=>false
def typedFs (T:TypeId→List Tr→Prop):List (Nat×Nat×TypeId)→List Tr→Prop
 | [],ts=>ts=[]
 |(_,_,t)::fs,ts=>∃xs rest,ts=xs++rest∧T t xs∧typedFs T fs rest
def sizeOfT (Γ:Env)(t:TypeId):Nat:=match Γ.get t with|some ti=>ti.size|none=>0
def typed (Γ:Env):Nat→TypeId→List Tr→Prop
 | 0,_,_=>False
 | n+1,t,ts=>match Γ.get t with
  | none=>False
  | some ti=>match ti.kind,ti.bool,ti.str,ti.elem with
   | some k,_,_,_=>∃m,ts=[.int k m]∧(Lit.int k m).wf=true
   | none,true,_,_=>∃b,ts=[.bool b]
   | none,false,true,_=>∃s:List UInt8,ts=[.str s]∧s.length≤maxLen
   | none,false,false,some e=>∃rows,ts=[.lst (sizeOfT Γ e) rows]∧rows.length≤maxLen∧∀r∈rows,typed Γ n e r
   | none,false,false,none=>typedFs (typed Γ n) ti.fields ts
def typedV (Γ:Env)(n:Nat)(t:TypeId)(x:TV):Prop:=
 match Γ.get t with
 | none=>False
 | some ti=>match ti.agg with
  | true=>∃xs,x= .agg xs∧typed Γ n t xs
  | false=>∃y,x= .c y∧typed Γ n t [y]
def typedVs (Γ:Env)(n:Nat):List TypeId→List TV→Prop
 | [],[]=>True
 | t::ts,x::xs=>typedV Γ n t x∧typedVs Γ n ts xs
 | _,_=>False
section
variable {H:Type} {enc:TypeId×Value→H} {P:Program} {Γ:Env} {w:World} {sp:Nat→Bool} {held:Bool}
theorem string_data (s:ByteArray):s=⟨s.data.toList.toArray⟩:=by cases s;simp
theorem trod_typed (hΓ:Γ.chk P=true):∀(n:Nat) (t:TypeId) (fuel:Nat) (cs:List Value) (x:DataW H×List MemPlace),okT Γ n t=true→DataW.trod enc P w 0 sp held fuel t cs=some x→
  ∃ts,RTs w (fun b=>b < w.heap.size) cs ts∧typed Γ n t ts∧ts.length=sizeOfT Γ t:=by
 intro n
 induction n with
 | zero=>intro t fuel cs x h;simp[okT]at h
 | succ n ih=>
  intro t fuel cs x hok hx
  simp only[okT]at hok
  cases hT:Γ.get t with
  | none=>rw[hT]at hok;simp at hok
  | some ti=>
   obtain⟨i,d,fit⟩:=Env.fit hΓ hT
   rw[hT]at hok
   simp only at hok
   simp only[typed,hT,sizeOfT]
   cases d with
   | int k=>
    obtain⟨m,rfl,rfl,hw⟩:=DataW.trod_int fit.und hx
    have hk:ti.kind=some k:=fit.kind.symm
    simp only[hk,Nat.beq_eq]at hok ⊢
    exact⟨[.int k m],⟨.int k m,trivial⟩,⟨m,rfl,hw⟩,hok.symm⟩
   | bool=>
    obtain⟨b,rfl,rfl⟩:=DataW.trod_bool fit.und hx
    have hk:ti.kind=none:=fit.kind.symm
    have hb:ti.bool=true:=fit.bool.symm
    simp only[hk,hb,Bool.true_or,Nat.beq_eq]at hok ⊢
    exact⟨[.bool b],⟨.bool b,trivial⟩,⟨b,rfl⟩,hok.symm⟩
   | string=>
    obtain⟨s,rfl,rfl,hs⟩:=DataW.trod_string fit.und hx
    have hk:ti.kind=none:=fit.kind.symm
    have hb:ti.bool=false:=fit.bool.symm
    have hst:ti.str=true:=fit.str.symm
    simp only[hk,hb,hst,Bool.or_true,Nat.beq_eq]at hok ⊢
    refine⟨[.str s.data.toList],⟨?_,trivial⟩,⟨_,rfl,by simpa using hs⟩,hok.symm⟩
    have:=RT.str (w:=w) (ok:=fun b=>b < w.heap.size) s.data.toList
    rwa [←string_data s]at this
   | slice e=>
    have hk:ti.kind=none:=fit.kind.symm
    have hb:ti.bool=false:=fit.bool.symm
    have hst:ti.str=false:=fit.str.symm
    have he:ti.elem=some e:=fit.elem.symm
    simp only[hk,hb,hst,he,Bool.or_self,Bool.and_eq_true,Nat.beq_eq]at hok ⊢
    obtain⟨hz1,hok⟩:=hok
    rcases DataW.trod_slice fit.und hx with⟨rfl,rfl⟩|⟨a,len,cap,elems,rest,m,rfl,rfl,rfl,_,hlen,hcap,hel,hread,_,_⟩
    ·exact⟨[.lst (sizeOfT Γ e) []],⟨.emp _ _ _ (by simp[maxLen]),trivial⟩,⟨[],rfl,by simp,by simp⟩,hz1.symm⟩
    ·have hsz:P.cellsOf e=sizeOfT Γ e∧sizeOfT Γ e≠0:=by
      cases hE:Γ.get e with
      | none=>cases n <;> simp[okT,hE]at hok
      | some te=>
       obtain⟨ie,de,fite⟩:=Env.fit hΓ hE
       simp only[Program.cellsOf,fite.info,Option.map_some,Option.getD_some,sizeOfT,hE]
       exact⟨fite.size,fite.pos⟩
     have hrow:∀j,j < len→∃us row,us.length=P.cellsOf e∧(∀p,p < P.cellsOf e→w.cell? (a.add (j * P.cellsOf e+p))=us[p]?)∧RTs w (fun b=>b < w.heap.size) us row∧typed Γ n e row∧row.length=sizeOfT Γ e:=by
      intro j hj
      have h1:=hread j hj
      have h2:j < elems.length:=by omega
      rw[List.getElem?_eq_getElem h2]at h1
      obtain⟨us,g1,g2⟩:=Option.bind_eq_some_iff.1 h1
      obtain⟨_,g3,g4⟩:=World.cells?_some g1
      obtain⟨row,g5,g6,g7⟩:=ih e m us _ hok g2
      exact⟨us,row,g3,fun p hp=>by rw[←add_add];exact g4 p hp,g5,g6,g7⟩
     obtain⟨f,hf⟩:∃f:Nat→List Value×List Tr,∀j,j < len→(f j).1.length=P.cellsOf e∧(∀p,p < P.cellsOf e→w.cell? (a.add (j * P.cellsOf e+p))=(f j).1[p]?)∧RTs w (fun b=>b < w.heap.size) (f j).1 (f j).2∧typed Γ n e (f j).2∧(f j).2.length=sizeOfT Γ e:=by
      refine⟨fun j=>if h:j < len then(⟨(hrow j h).choose,(hrow j h).choose_spec.choose⟩)else([],[]),fun j hj=>?_⟩
      simp only[dif_pos hj]
      exact(hrow j hj).choose_spec.choose_spec
     let rows:=(List.range len).map fun j=>(f j).2
     let us:=((List.range len).map fun j=>(f j).1).flatten
     have hrl:∀r∈rows,r.length=sizeOfT Γ e∧typed Γ n e r:=by
      intro r hr
      obtain⟨j,hj,rfl⟩:=List.mem_map.1 hr
      have:=hf j (by simpa using hj)
      exact⟨this.2.2.2.2,this.2.2.2.1⟩
     have hflat:∀k,k≤len→RTs w (fun b=>b < w.heap.size) ((List.range k).map fun j=>(f j).1).flatten ((List.range k).map fun j=>(f j).2).flatten∧((List.range k).map fun j=>(f j).1).flatten.length=k * P.cellsOf e∧
       ∀p,p < k * P.cellsOf e→w.cell? (a.add p)=(((List.range k).map fun j=>(f j).1).flatten)[p]?:=by
      intro k
      induction k with
      | zero=>intro _;exact⟨trivial,by simp,fun p hp=>by simp at hp⟩
      | succ k ihk=>
       intro hk'
       obtain⟨q1,q2,q3⟩:=ihk (by omega)
       obtain⟨r1,r2,r3,_,_⟩:=hf k (by omega)
       have e1:((List.range (k+1)).map fun j=>(f j).1).flatten=((List.range k).map fun j=>(f j).1).flatten++(f k).1:=by rw[List.range_succ];simp
       have e2:((List.range (k+1)).map fun j=>(f j).2).flatten=((List.range k).map fun j=>(f j).2).flatten++(f k).2:=by rw[List.range_succ];simp
       rw[e1,e2]
       refine⟨RTs.append q1 r3,by rw[List.length_append,q2,r1,Nat.add_mul];omega,fun p hp=>?_⟩
       rcases Nat.lt_or_ge p (k * P.cellsOf e)with hlt|hge
       ·rw[List.getElem?_append_left (by omega)];exact q3 p hlt
       ·rw[List.getElem?_append_right (by omega),q2]
        have:=r2 (p - k * P.cellsOf e) (by rw[Nat.add_mul]at hp;omega)
        rwa [show k * P.cellsOf e+(p - k * P.cellsOf e)=p by omega]at this
     obtain⟨q1,q2,q3⟩:=hflat len (Nat.le_refl _)
     have hrlen:rows.length=len:=by simp[rows]
     refine⟨[.lst (sizeOfT Γ e) rows],⟨?_,trivial⟩,⟨rows,rfl,by rw[hrlen];omega,fun r hr=>(hrl r hr).2⟩,hz1.symm⟩
     cases Nat.eq_zero_or_pos len with
     | inl h0=>
      have:rows=[]:=by simp[rows,h0]
      rw[this,h0]
      exact .emp _ _ _ hcap
     | inr hpos=>
      refine .lst a len cap (sizeOfT Γ e) rows us hrlen hlen hcap (fun r hr=>(hrl r hr).1) ?_ q1.length (fun p v hv=>?_) (fun p v u hv hu=>q1.get p v u hv hu)
      ·have hp0:0 < len * P.cellsOf e:=Nat.mul_pos hpos (by rw[hsz.1];omega)
       have:=q3 0 hp0
       have h0:0 < us.length:=by show 0 < (((List.range len).map fun j=>(f j).1).flatten).length;omega
       have h2:w.cell? (a.add 0)=some us[0]:=by rw[this];exact List.getElem?_eq_getElem h0
       have:=World.block_lt_of_cell? w _ h2
       rwa [add_block]at this
      ·have hp:p < len * P.cellsOf e:=by
        rw[←q2]
        rcases Nat.lt_or_ge p us.length with h'|h'
        ·exact h'
        ·rw[List.getElem?_eq_none h']at hv;cases hv
       rw[q3 p hp];exact hv
   | struct fs=>
    have hk:ti.kind=none:=fit.kind.symm
    have hb:ti.bool=false:=fit.bool.symm
    have hst:ti.str=false:=fit.str.symm
    have he:ti.elem=none:=fit.elem.symm
    simp only[hk,hb,hst,he,Bool.or_self]at hok ⊢
    obtain⟨xs,m,rfl,rfl,hl,hxl,hfs⟩:=DataW.trod_struct fit.und hx
    have hcs:cs.length=ti.size:=by
     rw[hl]
     simp only[Program.cellsOf,fit.info,Option.map_some,Option.getD_some]
     exact fit.size
    have hok':okFs (okT Γ n) 0 ti.fields ti.size=true:=by
     cases hfl:ti.fields with
     | nil=>rw[hfl]at hok;simp at hok
     | cons f fl=>rw[hfl]at hok;exact hok
    have key:∀(l:List (Nat×Nat×TypeId)) (o:Nat),okFs (okT Γ n) o l ti.size=true→(∀f∈l,∃y,DataW.trod enc P w 0 sp held m f.2.2 ((cs.drop f.1).take f.2.1)=some y∧P.cellsOf f.2.2=f.2.1)→o≤ti.size→
      ∃ts,RTs w (fun b=>b < w.heap.size) (cs.drop o) ts∧typedFs (typed Γ n) l ts∧ts.length=ti.size - o:=by
     intro l
     induction l with
     | nil=>
      intro o h _ _
      simp only[okFs,Nat.beq_eq]at h
      have:cs.drop o=[]:=by rw[List.drop_eq_nil_iff];omega
      rw[this]
      exact⟨[],trivial,rfl,by simp;omega⟩
     | cons f l ihl=>
      obtain⟨off,s,ft⟩:=f
      intro o h hr ho
      simp only[okFs,Bool.and_eq_true,Nat.beq_eq]at h
      obtain⟨⟨rfl,h2⟩,h3⟩:=h
      obtain⟨y,hy,hcl⟩:=hr (off,s,ft) (by simp)
      obtain⟨ts1,g1,g2,g3⟩:=ih ft m _ _ h2 hy
      have hs:ts1.length=((cs.drop off).take s).length:=g1.length.symm
      have hsz:sizeOfT Γ ft=s:=by
       cases hE:Γ.get ft with
       | none=>cases n <;> simp[okT,hE]at h2
       | some te=>
        obtain⟨ie,de,fite⟩:=Env.fit hΓ hE
        simp only at hcl
        rw[←hcl]
        simp only[Program.cellsOf,fite.info,Option.map_some,Option.getD_some,sizeOfT,hE]
        exact fite.size.symm
      have hle:off+s≤ti.size:=by
       simp only[List.length_take,List.length_drop]at hs
       have hpos:s≠0:=by
        cases hE:Γ.get ft with
        | none=>cases n <;> simp[okT,hE]at h2
        | some te=>
         obtain⟨ie,de,fite⟩:=Env.fit hΓ hE
         rw[←hsz];simp only[sizeOfT,hE];exact fite.pos
       omega
      obtain⟨ts2,g4,g5,g6⟩:=ihl (off+s) h3 (fun f hf=>hr f (by simp[hf])) hle
      refine⟨ts1++ts2,?_,⟨ts1,ts2,rfl,g2,g5⟩,by simp;omega⟩
      have e:cs.drop off=(cs.drop off).take s++cs.drop (off+s):=by rw[←List.drop_drop,List.take_append_drop]
      rw[e]
      exact RTs.append g1 g4
    have hfields:=fit.fields
    simp only[dFields,Bool.and_eq_true,decide_eq_true_eq]at hfields
    obtain⟨ts,g1,g2,g3⟩:=key ti.fields 0 hok' (fun f hf=>by
     rw[←hfields.1]at hf
     obtain⟨F,h1,rfl⟩:=List.mem_map.1 hf
     obtain⟨i,hi⟩:=List.getElem?_of_mem h1
     have hi':fs[i]?=some F:=by simpa using hi
     have hlt:i < xs.length:=by
      rw[hxl]
      rcases Nat.lt_or_ge i fs.size with h'|h'
      ·exact h'
      ·rw[Array.getElem?_eq_none h']at hi';cases hi'
     exact⟨xs[i],by rw[hfs i F hi',List.getElem?_eq_getElem hlt],rfl⟩) (Nat.zero_le _)
    exact⟨ts,by simpa using g1,g2,by simpa using g3⟩
   | _=>
    have hk:ti.kind=none:=fit.kind.symm
    have hb:ti.bool=false:=fit.bool.symm
    have hst:ti.str=false:=fit.str.symm
    have he:ti.elem=none:=fit.elem.symm
    have hf:=fit.fields
    simp only[dFields,List.isEmpty_iff]at hf
    simp[hk,hb,hst,he,hf]at hok
theorem args_typed (hΓ:Γ.chk P=true){r:Reach}{base n:Nat}:∀{ts:List TypeId} {vs:List Value} {ds:List (DataW H)} {ps:List MemPlace},ts.all (okT Γ n)=true→
  (∀(j:Nat) t v,ts[j]?=some t→vs[j]?=some v→Value.okWide P w r base t v)→DataW.TrodAll enc P w 0 sp held ts vs ds ps→
  ∃xs,RTVs w (fun b=>b < w.heap.size) vs xs∧typedVs Γ n ts xs
 | [],vs,ds,ps,_,_,h=>by
  obtain⟨rfl,rfl,rfl⟩:=trodAll_nil h
  exact⟨[],trivial,trivial⟩
 | t::ts,vs,ds,ps,hok,hw,h=>by
  obtain⟨v,vs,d,ds,p,q,rfl,rfl,rfl,h1,h2⟩:=trodAll_cons h
  simp only[List.all_cons,Bool.and_eq_true]at hok
  obtain⟨xs,g1,g2⟩:=args_typed hΓ hok.2 (fun j t v h3 h4=>hw (j+1) t v (by simpa using h3) (by simpa using h4)) h2
  obtain⟨fuel,hf⟩:=h1
  obtain⟨ys,g3,g4,g5⟩:=trod_typed hΓ n t fuel _ _ hok.1 hf
  have hv:=hw 0 t v rfl rfl
  cases hT:Γ.get t with
  | none=>cases n <;> simp[okT,hT]at hok
  | some ti=>
   obtain⟨i,d',fit⟩:=Env.fit hΓ hT
   have hagg:=fit.agg
   cases ha:ti.agg with
   | true=>
    rw[ha]at hagg
    have:∃cs,v= .agg cs:=by
     simp only[Value.okWide,fit.und]at hv
     cases d' <;> simp[dAgg]at hagg
     ·obtain⟨cs,h,_⟩:=hv;exact⟨cs,h⟩
     ·obtain⟨cs,h,_⟩:=hv;exact⟨cs,h⟩
    obtain⟨cs,rfl⟩:=this
    exact⟨.agg ys::xs,⟨⟨cs,rfl,g3⟩,g1⟩,⟨by simp only[typedV,hT,ha];exact⟨ys,rfl,g4⟩,g2⟩⟩
   | false=>
    rw[ha]at hagg
    have hone:v.cells=#[v]:=by
     have hk:=fit.kind
     have hb:=fit.bool
     have hst:=fit.str
     have he:=fit.elem
     cases d' with
     | int k=>obtain⟨m,rfl⟩:=okWide_int fit.und hv;rfl
     | bool=>obtain⟨m,rfl⟩:=okWide_bool fit.und hv;rfl
     | string=>obtain⟨m,rfl⟩:=okWide_string fit.und hv;rfl
     | slice e=>obtain⟨a,l,c,rfl⟩:=okWide_slice fit.und hv;rfl
     | struct fs=>simp[dAgg]at hagg
     | array m e=>simp[dAgg]at hagg
     | _=>
      exfalso
      have hf:=fit.fields
      simp only[dFields,List.isEmpty_iff]at hf
      have h1:=hok.1
      cases n with
      | zero=>simp[okT]at h1
      | succ n=>
       simp only[okT,hT]at h1
       simp[←hk,←hb,←hst,←he,hf,dKind,dBool,dStr,dElem]at h1
    rw[hone]at g3
    match ys,g3 with
    | [y],g3=>exact⟨.c y::xs,⟨g3.1,g1⟩,⟨by simp only[typedV,hT,ha];exact⟨y,rfl,g4⟩,g2⟩⟩
    | [],g3=>exact g3.elim
    | _::_::_,g3=>exact g3.2.elim
theorem trodAll_stays (hl:laidOutB P=true){W W':World}{sp':Nat→Bool}(hb:Below W.heap.size W W'):∀{ts:List TypeId} {vs:List Value} {ds:List (DataW H)} {ps:List MemPlace},
  ts.all (fun t=>P.readableRec t && decide (t < P.types.size))=true→DataW.TrodAll enc P W 0 (fun _=>true) true ts vs ds ps→(∀p∈ps,p.block < W.heap.size)→(∀p∈ps,sp' p.block=true)→DataW.TrodAll enc P W' 0 sp' true ts vs ds ps
 | [],vs,ds,ps,_,h,_,_=>by
  obtain⟨rfl,rfl,rfl⟩:=trodAll_nil h
  rfl
 | t::ts,vs,ds,ps,hr,h,hlt,hs=>by
  obtain⟨v,vs,d,ds,p,q,rfl,rfl,rfl,h1,h2⟩:=trodAll_cons h
  simp only[List.all_cons,Bool.and_eq_true,decide_eq_true_eq]at hr
  exact⟨p,q,WideElems.Trod_stays hl hr.1.1 hr.1.2 h1 (fun x hx=>hb.same (hlt x (by simp[hx]))) (fun x hx=>hs x (by simp[hx])),
   trodAll_stays hl hb (by simpa using hr.2) h2 (fun x hx=>hlt x (by simp[hx])) (fun x hx=>hs x (by simp[hx])),rfl⟩
theorem law_calls (hl:laidOutB P=true){f:FuncId}{fn:Func}{s:ChangeSpec}{W:World}{args:Array Value}{ds:List (DataW H)}{gs:List (DataW H)}{before:List MemPlace}{tb:TypeId}
  (hres:fn.resultTypes=#[tb]) (htb:P.underlying tb=some .bool) (hvars:s.vars=[]) (hparams:fn.params.toList.all (fun t=>P.readableRec t && decide (t < P.types.size))=true)
  (hfn:s.fn H ds={results:=[.lit (.bool true)],args:=ds}) {xs:List TV} (hx:RTVs W (fun b=>b < W.heap.size) args.toList xs) (hs:Sim.Spec P f xs (.r (.c (.t (.bool true)))))
  (hW:DataW.Whole enc P fn.params.toList s.vars false W args.toList ds gs before):
  Calls P f args W fun e W'=>∃v,e= .returned v∧s.post enc P fn false true false false W args v W':=by
 refine(hs.2 W args hx).mono fun e W' ⟨v,he,hb,hr⟩=>⟨v,he,?_⟩
 obtain⟨ρ,okp,_,hv,_⟩:=hr
 have hv':v= .bool true:=inv_bool hv
 subst hv'
 have hW0:=hW
 have hlt:=hW.lt
 rw[hvars]at hW
 obtain⟨p,q,hA,hV,hpq,hz,hn⟩:=hW
 obtain⟨rfl,rfl⟩:=trodVars_none hV
 have hbool:∀(b:Nat) (sp:Nat→Bool) (hd:Bool),DataW.TrodAll enc P W' b sp hd fn.resultTypes.toList ((Value.bool true).resultList fn.resultTypes.size) (s.fn H (ds++[])).results []:=by
  intro b sp hd
  rw[List.append_nil,hfn,hres]
  exact trodAll_cons_mk (shut_bool htb _) trodAll_mk0
 refine⟨ds,[],before,[],before,[],hW0,hbool _ _ _,?_,?_,hb.frame _,fun h=>by cases h⟩
 ·rw[List.append_nil,hfn]
  rw[List.append_nil]at hpq
  subst hpq
  exact trodAll_stays hl hb hparams hA hlt (fun x hx=>by simpa using hlt x hx)
 ·rw[hvars,List.append_nil,hfn]
  rfl
theorem trodAll_len:∀{ts:List TypeId} {vs:List Value} {ds:List (DataW H)} {ps:List MemPlace},DataW.TrodAll enc P w 0 sp held ts vs ds ps→ds.length=ts.length
 | [],vs,ds,ps,h=>by
  obtain⟨rfl,rfl,rfl⟩:=trodAll_nil h
  rfl
 | t::ts,vs,ds,ps,h=>by
  obtain⟨v,vs,d,ds,p,q,rfl,rfl,rfl,h1,h2⟩:=trodAll_cons h
  simp[trodAll_len h2]
end
theorem typedVs_cons {Γ:Env}{n:Nat}{t:TypeId}{ts:List TypeId}{xs:List TV}(h:typedVs Γ n (t::ts) xs):∃x xs',xs=x::xs'∧typedV Γ n t x∧typedVs Γ n ts xs':=by
 cases xs with
 | nil=>exact h.elim
 | cons x xs=>exact⟨x,xs,rfl,h.1,h.2⟩
theorem typedVs_nil {Γ:Env}{n:Nat}{xs:List TV}(h:typedVs Γ n [] xs):xs=[]:=by
 cases xs with
 | nil=>rfl
 | cons x xs=>exact h.elim
theorem len0 {α β:Type}{l:List α}{t:List β}(h:l.length=t.length)(e:t.length=0:=by rfl):l=[]:=by
 rw[e]at h;simpa using h
theorem len1 {α:Type}{l:List α}{x:TypeId}(h:l.length=#[x].toList.length):∃a,l=[a]:=by
 match l,h with
 | [a],_=>exact⟨a,rfl⟩
theorem len2 {α:Type}{l:List α}{x y:TypeId}(h:l.length=#[x,y].toList.length):∃a b,l=[a,b]:=by
 match l,h with
 | [a,b],_=>exact⟨a,b,rfl⟩
theorem len3 {α:Type}{l:List α}{x y z:TypeId}(h:l.length=#[x,y,z].toList.length):∃a b c,l=[a,b,c]:=by
 match l,h with
 | [a,b,c],_=>exact⟨a,b,c,rfl⟩
theorem len4 {α:Type}{l:List α}{x y z u:TypeId}(h:l.length=#[x,y,z,u].toList.length):∃a b c d,l=[a,b,c,d]:=by
 match l,h with
 | [a,b,c,d],_=>exact⟨a,b,c,d,rfl⟩
end Go.Sim
namespace Go.Sim
mutual
def szT:Tr→Int→Int
 | .str s,l=>if l - s.length < 0 then -1 else l - s.length
 | .lst _ rows,l=>if l - rows.length < 0 then -1 else szRs rows (l - rows.length)
 | .int _ _,l=>l
 | .bool _,l=>l
def szR:List Tr→Int→Int
 | [],l=>l
 | c::cs,l=>if szT c l < 0 then -1 else szR cs (szT c l)
def szRs:List (List Tr)→Int→Int
 | [],l=>l
 | r::rs,l=>if szR r l < 0 then -1 else szRs rs (szR r l)
end
mutual
def smallT (L:Int):Tr→Prop
 | .str s=>(s.length:Int)≤L
 | .lst _ rows=>(rows.length:Int)≤L∧smallRs L rows
 | .int _ _=>True
 | .bool _=>True
def smallR (L:Int):List Tr→Prop
 | []=>True
 | c::cs=>smallT L c∧smallR L cs
def smallRs (L:Int):List (List Tr)→Prop
 | []=>True
 | r::rs=>smallR L r∧smallRs L rs
end
mutual
theorem szT_small {L:Int}:∀(t:Tr) (l:Int),0≤szT t l→l≤L→smallT L t∧szT t l≤l
 | .str s,l,h,hl=>by
  rw[szT]at h ⊢
  rw[smallT]
  split at h
  ·omega
  ·rename_i h';rw[if_neg h'];omega
 | .lst sz rows,l,h,hl=>by
  rw[szT]at h ⊢
  rw[smallT]
  split at h
  ·omega
  ·rename_i h'
   rw[if_neg h']
   have:=szRs_small rows _ h (by omega:l - rows.length≤L)
   exact⟨⟨by omega,this.1⟩,by omega⟩
 | .int k n,l,h,hl=>by rw[szT,smallT];exact⟨trivial,by omega⟩
 | .bool b,l,h,hl=>by rw[szT,smallT];exact⟨trivial,by omega⟩
theorem szR_small {L:Int}:∀(cs:List Tr) (l:Int),0≤szR cs l→l≤L→smallR L cs∧szR cs l≤l
 | [],l,h,hl=>by rw[szR,smallR];exact⟨trivial,by omega⟩
 | c::cs,l,h,hl=>by
  rw[szR]at h ⊢
  rw[smallR]
  split at h
  ·omega
  ·rename_i h'
   rw[if_neg h']
   have h1:=szT_small (L:=L) c l (by omega) hl
   have h2:=szR_small (L:=L) cs _ h (by omega)
   exact⟨⟨h1.1,h2.1⟩,by omega⟩
theorem szRs_small {L:Int}:∀(rs:List (List Tr)) (l:Int),0≤szRs rs l→l≤L→smallRs L rs∧szRs rs l≤l
 | [],l,h,hl=>by rw[szRs,smallRs];exact⟨trivial,by omega⟩
 | r::rs,l,h,hl=>by
  rw[szRs]at h ⊢
  rw[smallRs]
  split at h
  ·omega
  ·rename_i h'
   rw[if_neg h']
   have h1:=szR_small (L:=L) r l (by omega) hl
   have h2:=szRs_small (L:=L) rs _ h (by omega)
   exact⟨⟨h1.1,h2.1⟩,by omega⟩
end
theorem smallRs_mem {L:Int}:∀{rows:List (List Tr)},smallRs L rows→∀r∈rows,smallR L r
 | [],_,r,h=>by cases h
 | r0::rs,h,r,hr=>by
  rw[smallRs]at h
  rcases List.mem_cons.1 hr with rfl|hr
  ·exact h.1
  ·exact smallRs_mem h.2 r hr
def plainT:Tr→Prop
 | .int _ _=>True
 | .bool _=>True
 | _=>False
theorem szR_plain:∀(cs:List Tr) (l:Int),(∀c∈cs,plainT c)→0≤l→szR cs l=l
 | [],l,_,_=>by rw[szR]
 | c::cs,l,h,hl=>by
  have hc:szT c l=l:=by
   have:=h c (by simp)
   cases c <;> simp only[plainT]at this <;> rw[szT]
  rw[szR,hc,if_neg (by omega)]
  exact szR_plain cs l (fun c hc=>h c (by simp[hc])) hl
theorem szRs_plain:∀(rs:List (List Tr)) (l:Int),(∀r∈rs,∀c∈r,plainT c)→0≤l→szRs rs l=l
 | [],l,_,_=>by rw[szRs]
 | r::rs,l,h,hl=>by
  rw[szRs,szR_plain r l (h r (by simp)) hl,if_neg (by omega)]
  exact szRs_plain rs l (fun r hr=>h r (by simp[hr])) hl
theorem typedFs_mono {T T':TypeId→List Tr→Prop}(h:∀t ts,T t ts→T' t ts):∀{fs:List (Nat×Nat×TypeId)} {ts:List Tr},typedFs T fs ts→typedFs T' fs ts
 | [],_,e=>e
 |(_,_,_)::_,_,⟨xs,rest,e,h1,h2⟩=>⟨xs,rest,e,h _ _ h1,typedFs_mono h h2⟩
theorem typed_succ {Γ:Env}:∀(n:Nat) (t:TypeId) (ts:List Tr),typed Γ n t ts→typed Γ (n+1) t ts:=by
 intro n
 induction n with
 | zero=>intro t ts h;exact h.elim
 | succ n ih=>
  intro t ts h
  rw[typed]at h ⊢
  split at h
  ·exact h
  ·split at h
   ·exact h
   ·exact h
   ·exact h
   ·obtain⟨rows,e,hl,hr⟩:=h
    exact⟨rows,e,hl,fun r hr'=>ih _ _ (hr r hr')⟩
   ·exact typedFs_mono ih h
theorem typed_le {Γ:Env}{n m:Nat}(hnm:n≤m){t:TypeId}{ts:List Tr}(h:typed Γ n t ts):typed Γ m t ts:=by
 induction hnm with
 | refl=>exact h
 | step _ ih=>exact typed_succ _ _ _ ih
def resC:Tr→RC'
 | .lst sz rows=> .arr sz rows
 | .int k n=> .t (.int k n)
 | .bool b=> .t (.bool b)
 | .str s=> .t (.str s)
theorem szR_nil (l:Int):szR [] l=l:=by rw[szR]
theorem szR_int {k:IntKind}{n l:Int}{cs:List Tr}(h:0≤l):szR (.int k n::cs) l=szR cs l:=by rw[szR,szT,if_neg (by omega)]
theorem szR_bool {b:Bool}{l:Int}{cs:List Tr}(h:0≤l):szR (.bool b::cs) l=szR cs l:=by rw[szR,szT,if_neg (by omega)]
theorem szR_str_neg {s:List UInt8}{l:Int}{cs:List Tr}(h:l - s.length < 0):szR (.str s::cs) l= -1:=by rw[szR,szT,if_pos h,if_pos (by omega)]
theorem szR_str {s:List UInt8}{l:Int}{cs:List Tr}(h:¬l - s.length < 0):szR (.str s::cs) l=szR cs (l - s.length):=by rw[szR,szT,if_neg h,if_neg h]
theorem szR_neg {c:Tr}{l:Int}{cs:List Tr}(h:szT c l < 0):szR (c::cs) l= -1:=by rw[szR,if_pos h]
theorem szR_pos {c:Tr}{l:Int}{cs:List Tr}(h:¬szT c l < 0):szR (c::cs) l=szR cs (szT c l):=by rw[szR,if_neg h]
end Go.Sim
namespace Go.Sim
open Go.RowKit
def Ws (m:Bool)(P:Program)(Γ:Env)(N:Nat)(c:Code)(K:Out→St→Prop)(st:St):Prop:=
 Γ.chk P=true→P.follows .mixedOrders=true→∀(B:Nat) (M:Nat→Prop) (w0:Start) (ρ:Rho) (a:Act) (w:World) (Q:Exit→Act→World→Prop),
  (m=true→(∀b,¬M b)∧∀o,w0.fx o=none)→(∀o v,w0.fx o=some v→o.1=0)→Conc N B M w0 ρ st.fs a w→
  (∀e st' ρ' a' w',K e st'→Conc N B M w0 ρ' st'.fs a' w'→Q e.at a' w')→c.wp P Q a w
theorem Wo_ex:∃F:Bool→Program→Env→Nat→Code→(Out→St→Prop)→St→Prop,F=Ws:=⟨Ws,rfl⟩
noncomputable def Wo:Bool→Program→Env→Nat→Code→(Out→St→Prop)→St→Prop:=Classical.choose Wo_ex
theorem Wo_eq:Wo=Ws:=Classical.choose_spec Wo_ex
theorem Lo_ex:∃F:Bool→St→St→Prop,F=LeqG:=⟨LeqG,rfl⟩
noncomputable def Lo:Bool→St→St→Prop:=Classical.choose Lo_ex
theorem Lo_eq:Lo=LeqG:=Classical.choose_spec Lo_ex
attribute [irreducible] Wo Lo
section
variable {P:Program} {Γ:Env} {N:Nat} {m:Bool} {K:Out→St→Prop} {st st':St} {c x y:Code}
theorem ws_of_W (h:W m P Γ N c K st):Wo m P Γ N c K st:=by
 rw[Wo_eq]
 intro hΓ hmix B M w0 ρ a w Q hM hF hc hQ
 exact W_ok hΓ hmix hM hF c K st ρ a w Q h hc hQ
theorem W6 (h:LeqG m st st'):Lo m st st':=by rw[Lo_eq];exact h
theorem W1 (h:Wo m P Γ N x (fun e st'=>(match e with
   | .normal=>Wo m P Γ N y K st'
   | e=>K e st')) st):Wo m P Γ N (.seq x y) K st:=by
 rw[Wo_eq]at *
 intro hΓ hmix B M w0 ρ a w Q hM hF hc hQ
 refine wp_seq (h hΓ hmix B M w0 ρ a w _ hM hF hc fun e st' ρ' a' w' hK hc'=>?_)
 cases e with
 | normal=>exact hK hΓ hmix B M w0 ρ' a' w' Q hM hF hc' hQ
 | exit id=>exact hQ (.exit id) _ _ _ _ hK hc'
 | ret=>exact hQ .ret _ _ _ _ hK hc'
theorem join_rule (ι:Type)(S:ι→St)(h:Wo m P Γ N x (fun e st'=>(match e with
    | .normal=>∃i,Lo m st' (S i)
    | e=>K e st')) st) (h2:∀i,Wo m P Γ N y K (S i)):Wo m P Γ N (.seq x y) K st:=by
 rw[Wo_eq]at *
 rw[Lo_eq]at h
 intro hΓ hmix B M w0 ρ a w Q hM hF hc hQ
 refine wp_seq (h hΓ hmix B M w0 ρ a w _ hM hF hc fun e st' ρ' a' w' hK hc'=>?_)
 cases e with
 | normal=>obtain⟨i,hi⟩:=hK;obtain⟨ρ'',hc''⟩:=hi.ok hM hF hc';exact h2 i hΓ hmix B M w0 ρ'' a' w' Q hM hF hc'' hQ
 | exit id=>exact hQ (.exit id) _ _ _ _ hK hc'
 | ret=>exact hQ .ret _ _ _ _ hK hc'
theorem W2 {id:Nat}{ops:Array Oper}{draw:Bool}(h:wReg P Γ N ops.toList draw st (K .normal)):Wo m P Γ N (.region id ops draw) K st:=ws_of_W (c:= .region id ops draw) h
theorem W7 (h:K .normal st):Wo m P Γ N .skip K st:=ws_of_W (c:= .skip) h
theorem W8 {id:Nat}(h:K (.exit id) st):Wo m P Γ N (.exit id) K st:=ws_of_W (c:= .exit id) h
theorem W9 (h:K .ret st):Wo m P Γ N .ret K st:=ws_of_W (c:= .ret) h
theorem W3 {d:Operand}(h:match evL (look st.fr) d with
   | .r (.c (.t (.bool b)))=>ifB b (Wo m P Γ N x K (litc st d true)) (Wo m P Γ N y K (litc st d false))
   | _=>False):Wo m P Γ N (.cond d x y) K st:=by
 rw[Wo_eq]at *
 intro hΓ hmix B M w0 ρ a w Q hM hF hc hQ
 split at h
 ·rename_i b hb
  have hv:=(hc.eval d).1
  rw[show evL st.fs.L d=tB b from hb]at hv
  refine wp_cond (inv_bool hv) ?_
  cases b with
  | true=>exact(show Ws m P Γ N x K (litc st d true) from h) hΓ hmix B M w0 ρ a w Q hM hF (by rw[litc_fs hb];exact hc) hQ
  | false=>exact(show Ws m P Γ N y K (litc st d false) from h) hΓ hmix B M w0 ρ a w Q hM hF (by rw[litc_fs hb];exact hc) hQ
 ·exact h.elim
theorem W4 {id:Nat}(h:Wo m P Γ N c (fun e st'=>(match e with
   | .exit id'=>(match Nat.beq id' id with
     | true=>K .normal st'
     | false=>K (.exit id') st')
   | e=>K e st')) st):Wo m P Γ N (.block id c) K st:=by
 rw[Wo_eq]at *
 intro hΓ hmix B M w0 ρ a w Q hM hF hc hQ
 refine wp_block (h hΓ hmix B M w0 ρ a w _ hM hF hc fun e st' ρ' a' w' hK hc'=>?_)
 cases e with
 | normal=>exact hQ .normal _ _ _ _ hK hc'
 | ret=>exact hQ .ret _ _ _ _ hK hc'
 | exit id'=>
  show if id'=id then _ else _
  by_cases he:id'=id
  ·rw[if_pos he]
   subst he
   simp only[Nat.beq_refl]at hK
   exact hQ .normal _ _ _ _ hK hc'
  ·rw[if_neg he]
   have:Nat.beq id' id=false:=by cases hb:Nat.beq id' id with|false=>rfl|true=>exact absurd (Nat.eq_of_beq_eq_true hb) he
   simp only[this]at hK
   exact hQ (.exit id') _ _ _ _ hK hc'
theorem W5 (h:∃(ι:Type) (S:ι→St) (μ:ι→Nat) (i0:ι),Lo m st (S i0)∧∀i,Wo m P Γ N c (fun e st'=>(match e with
   | .normal=>∃j,Lo m st' (S j)∧μ j < μ i
   | e=>K e st')) (S i)):Wo m P Γ N (.loop c) K st:=by
  rw[Wo_eq,Lo_eq]at *
  intro hΓ hmix B M w0 ρ a w Q hM hF hc hQ
  have ih:∀(K:Out→St→Prop) (st:St) (ρ:Rho) (a:Act) (w:World) (Q:Exit→Act→World→Prop),Ws m P Γ N c K st→Conc N B M w0 ρ st.fs a w→
   (∀e st' ρ' a' w',K e st'→Conc N B M w0 ρ' st'.fs a' w'→Q e.at a' w')→c.wp P Q a w:=fun K st ρ a w Q h hc hQ=>h hΓ hmix B M w0 ρ a w Q hM hF hc hQ
  obtain⟨ι,S,μ,i0,h0,hS⟩:=h
  obtain⟨ρ0,hc0⟩:=h0.ok hM hF hc
  have key:∀n i (ρ:Rho) (a:Act) (w:World),μ i≤n→Conc N B M w0 ρ (S i).fs a w→∀(b:Frame) (k:List Item) (cs:List Frame),
    ∃e a' w',Q e a' w'∧Arrives P (lone (b.at a (.code c:: .inLoop c::k)) cs w) b k cs e a' w':=by
   intro n
   induction n with
   | zero=>
    intro i ρ a w hi hc b k cs
    obtain⟨e,a1,w1,hq,harr⟩:=ih _ (S i) ρ a w (fun e a' w'=>match e with|.normal=>False|e=>Q e a' w') (hS i) hc (fun e st' ρ' a' w' hK hc'=>by
     cases e with
     | normal=>obtain⟨j,_,hj⟩:=hK;exact absurd hj (by omega)
     | exit id=>exact hQ (.exit id) _ _ _ _ hK hc'
     | ret=>exact hQ .ret _ _ _ _ hK hc') b (.inLoop c::k) cs
    cases e with
    | normal=>exact hq.elim
    | exit id=>exact⟨_,a1,w1,hq,.pass (x:= .inLoop c) rfl (fun _ _=> .inl (by simp)) harr⟩
    | goto l=>exact⟨_,a1,w1,hq,.pass (x:= .inLoop c) rfl (fun _ _=> .inl (by simp)) harr⟩
    | ret=>exact⟨_,a1,w1,hq,.pass (x:= .inLoop c) rfl (fun _ _=> .inl (by simp)) harr⟩
    | panic ch=>exact⟨_,a1,w1,hq,.pass (x:= .inLoop c) rfl (fun _ _=> .inl (by simp)) harr⟩
    | outgrown=>exact⟨_,a1,w1,hq,.pass (x:= .inLoop c) rfl (fun _ _=> .inl (by simp)) harr⟩
   | succ n ihn=>
    intro i ρ a w hi hc b k cs
    obtain⟨e,a1,w1,hq,harr⟩:=ih _ (S i) ρ a w (fun e a' w'=>match e with|.normal=>∃j ρ',μ j≤n∧Conc N B M w0 ρ' (S j).fs a' w'|e=>Q e a' w') (hS i) hc (fun e st' ρ' a' w' hK hc'=>by
     cases e with
     | normal=>obtain⟨j,hj1,hj2⟩:=hK;obtain⟨ρ'',hc''⟩:=hj1.ok hM hF hc';exact⟨j,ρ'',by omega,hc''⟩
     | exit id=>exact hQ (.exit id) _ _ _ _ hK hc'
     | ret=>exact hQ .ret _ _ _ _ hK hc') b (.inLoop c::k) cs
    cases e with
    | normal=>
     obtain⟨j,ρ',hj,hc'⟩:=hq
     obtain⟨e2,a2,w2,hq2,harr2⟩:=ihn j ρ' a1 w1 hj hc' b k cs
     exact⟨e2,a2,w2,hq2,.of_steps (Steps.trans harr (.one step_inLoop)) harr2⟩
    | exit id=>exact⟨_,a1,w1,hq,.pass (x:= .inLoop c) rfl (fun _ _=> .inl (by simp)) harr⟩
    | goto l=>exact⟨_,a1,w1,hq,.pass (x:= .inLoop c) rfl (fun _ _=> .inl (by simp)) harr⟩
    | ret=>exact⟨_,a1,w1,hq,.pass (x:= .inLoop c) rfl (fun _ _=> .inl (by simp)) harr⟩
    | panic ch=>exact⟨_,a1,w1,hq,.pass (x:= .inLoop c) rfl (fun _ _=> .inl (by simp)) harr⟩
    | outgrown=>exact⟨_,a1,w1,hq,.pass (x:= .inLoop c) rfl (fun _ _=> .inl (by simp)) harr⟩
  intro b k cs
  obtain⟨e,a',w',hq,harr⟩:=key (μ i0) i0 ρ0 a w (Nat.le_refl _) hc0 b k cs
  exact⟨e,a',w',hq,.of_steps (.one step_loop) harr⟩
@[reducible] def Wn (m:Bool) (P:Program) (Γ:Env) (N:Nat) (K:Out→St→Prop) (st:St):Code→Prop
 | .skip=>K .normal st
 | .region _ ops draw=>(match draw with
   | false=>wOps P Γ N ops.toList ops.toList st [] fun st' _=>K .normal st'
   | true=>wOps P Γ N ops.toList ops.toList st [] fun st' log=>regOk ops.toList log.reverse=true∧K .normal st')
 | .seq x y=>Wo m P Γ N x (fun e st'=>(match e with
   | .normal=>Wo m P Γ N y K st'
   | e=>K e st')) st
 | .cond c x y=>(match evL (look st.fr) c with
   | .r (.c (.t (.bool b)))=>ifB b (Wo m P Γ N x K (litc st c true)) (Wo m P Γ N y K (litc st c false))
   | _=>False)
 | .block id c=>Wo m P Γ N c (fun e st'=>(match e with
   | .exit id'=>(match Nat.beq id' id with
     | true=>K .normal st'
     | false=>K (.exit id') st')
   | e=>K e st')) st
 | .loop c=>∃(ι:Type) (S:ι→St) (μ:ι→Nat) (i0:ι),Lo m st (S i0)∧∀i,Wo m P Γ N c (fun e st'=>(match e with
   | .normal=>∃j,Lo m st' (S j)∧μ j < μ i
   | e=>K e st')) (S i)
 | .exit id=>K (.exit id) st
 | .ret=>K .ret st
 | _=>False
theorem Wx (h:Wn m P Γ N K st c):Wo m P Γ N c K st:=by
 cases c with
 | skip=>exact W7 h
 | region id ops draw=>
  refine W2 ?_
  cases draw with
  | false=>exact h
  | true=>exact .inl h
 | seq x y=>exact W1 h
 | cond d x y=>exact W3 h
 | block id c=>exact W4 h
 | loop c=>exact W5 h
 | exit id=>exact W8 h
 | ret=>exact W9 h
 | label=>exact h.elim
 | _=>exact h.elim
def frzFr (H H':Id→Option AO)(L:Nat→AV):List (Nat×AV)→Prop
 | []=>True
 |(i,v)::r=>(v=L i∨∃c t,L i= .r (.c c)∧v= .r (.c (.t t))∧acTree H c t∧∀q∈c.ids,H' q=none)∧frzFr H H' L r
def frzH (H:Id→Option AO):List (Id×Option AO)→Prop
 | []=>True
 |(q,x)::r=>(x=none∨x=H q)∧frzH H r
theorem frzFr_mem {H H':Id→Option AO}{L:Nat→AV}:∀{l:List (Nat×AV)} {i:Nat} {v:AV},frzFr H H' L l→(i,v)∈l→v=L i∨∃c t,L i= .r (.c c)∧v= .r (.c (.t t))∧acTree H c t∧∀q∈c.ids,H' q=none
 | [],_,_,_,h=>by cases h
 |(j,u)::r,i,v,h,hm=>by
  rcases List.mem_cons.1 hm with e|hm
  ·injection e with e1 e2
   subst e1;subst e2
   exact h.1
  ·exact frzFr_mem h.2 hm
theorem frzH_mem {H:Id→Option AO}:∀{l:List (Id×Option AO)} {q:Id} {x:AO},frzH H l→(q,some x)∈l→H q=some x
 | [],_,_,_,h=>by cases h
 |(p,u)::r,q,x,h,hm=>by
  rcases List.mem_cons.1 hm with e|hm
  ·injection e with e1 e2
   subst e1;subst e2
   rcases h.1 with e|e
   ·cases e
   ·exact e.symm
  ·exact frzH_mem h.2 hm
theorem view_rule (st':St)(h1:frzFr (hget st.h) (hget st'.h) (look st.fr) st'.fr)(h2:frzH (hget st.h) st'.h)(hu:st'.u=st.u)(h:Wo m P Γ N c K st'):Wo m P Γ N c K st:=by
 rw[Wo_eq]at *
 intro hΓ hmix B M w0 ρ a w Q hM hF hc hQ
 refine h hΓ hmix B M w0 ρ a w Q hM hF ?_ hQ
 have hsub:∀q x,st'.fs.H q=some x→st.fs.H q=some x:=fun q x hq=>frzH_mem h2 (hget_mem hq)
 have hok:∀b,okB ρ st.fs.H w b→okB ρ st'.fs.H w b:=fun b hb=>⟨hb.1,fun o x ho=>hb.2 o x (hsub o x ho)⟩
 have hids:∀t o,o∈(st'.fs.L t).ids→o∈(st.fs.L t).ids:=fun t o ho=>by
  rcases look_mem st'.fr t with e|hm
  ·rw[show st'.fs.L t=AV.unk from e]at ho
   simp[AV.ids]at ho
  ·rcases frzFr_mem h1 hm with e|⟨cc,tt,_,e2,_,_⟩
   ·exact(show st'.fs.L t=st.fs.L t from e) ▸ ho
   ·rw[show st'.fs.L t=_ from e2]at ho
    simp[AV.ids,AR.ids,AC.ids]at ho
 refine⟨hc.size,hc.defers,fun t=>?_,fun o x ho=>?_,fun o o' x x' b ho ho'=>hc.sep o o' x x' b (hsub o x ho) (hsub o' x' ho'),fun o x b ho hb=>hc.rng o x b (hsub o x ho) hb,hc.keep,hc.base,hc.alw,hc.cst,fun o v hv=>⟨(hc.fix o v hv).1,by have:=(hc.fix o v hv).2;simpa [St.fs,hu]using this⟩,fun t o ho=>by have:=hc.usedL t o (hids t o ho);simpa [St.fs,hu]using this,fun o x ho=>by have:=hc.usedH o x (hsub o x ho);simpa [St.fs,hu]using this⟩
 ·rcases look_mem st'.fr t with e|hm
  ·rw[show st'.fs.L t=AV.unk from e]
   trivial
  ·rcases frzFr_mem h1 hm with e|⟨cc,tt,e1,e2,e3,e4⟩
   ·rw[show st'.fs.L t=st.fs.L t from e]
    exact(hc.slot t).keep (fun b hb=>⟨rfl,hok b hb⟩) fun _ _=>rfl
   ·rw[show st'.fs.L t=_ from e2]
    have hs:=hc.slot t
    rw[show st.fs.L t=_ from e1]at hs
    refine acTree_ok' hc hok (fun q hq x b hx hb=>?_) hs e3
    have hr:=hc.rng q x b hx hb
    exact⟨⟨hr.1,hc.alw b hr.2⟩,fun o y ho hb2=>by
     have hne:o≠q:=fun e=>by
      subst e
      have:=e4 o hq
      rw[show hget st'.h o=some y from ho]at this
      cases this
     exact hc.sep o q y x b (hsub o y ho) hx hne hb2 hb⟩
 ·exact(hc.obj o x (hsub o x ho)).keep (fun b hb=>⟨rfl,hok b hb⟩) (fun _ _=>rfl) rfl (fun _ h=>h) fun _ _=>rfl
end
theorem spec_of_Wo {P:Program}{Γ:Env}{f:FuncId}{fn:Func}{c:Code}{ts:List TV}{r:Res}(hΓ:Γ.chk P=true)(hmix:P.follows .mixedOrders=true)(hf:P.funcs[f]?=some fn)(hb:fn.body=some c)(hn:(fn.name== "runtime.NumGoroutine")=false)
  (hN:Nat.ble ts.length fn.ntmps=true) (h:Wo true P Γ fn.ntmps c (doneK Γ fn.results.toList r) (st0 ts)):Spec P f ts r:=by
 rw[Wo_eq]at h
 refine⟨enters_of hf hb hn,fun w vs hvs=>calls_of_wp hf hb ?_⟩
 have hc:=enter_conc (N:=fn.ntmps) hvs (Nat.le_of_ble_eq_true hN)
 refine h hΓ hmix _ _ _ _ _ _ _ (fun _=>⟨fun _ h=>h,fun _=>rfl⟩) (fun _ _ h=>by cases h) hc fun e st' ρ' a' w' hK hc'=>?_
 have key:fin Γ fn.results.toList st' r→a'.defers=[]∧∃v,(results fn a'.tmps).run P w'= .ok v w'∧∃v',Ending.returned v= .returned v'∧Below w.heap.size w w'∧ResOK w.heap.size w' v' r:=fun hfin=>by
  obtain⟨v,h1,h2⟩:=fin_ok (P:=P) hΓ (fun _ h=>h) (fun _=>rfl) hc' hfin
  exact⟨hc'.defers,v,h1,v,rfl,⟨hc'.keep.os,hc'.keep.tape,hc'.keep.output,hc'.keep.size,fun k hk=>hc'.keep.block k hk (fun h=>h)⟩,h2⟩
 cases e with
 | normal=>exact key hK
 | ret=>exact key hK
 | exit id=>exact hK.elim
theorem specG_of_Wo {P:Program}{Γ:Env}{f:FuncId}{fn:Func}{c:Code}{xs:List AV}{h0:List (Id×AO)}{r:AV}{h1:List (Id×AO)}(hΓ:Γ.chk P=true)(hmix:P.follows .mixedOrders=true)(hf:P.funcs[f]?=some fn)(hb:fn.body=some c)(hn:(fn.name== "runtime.NumGoroutine")=false)
  (hN:Nat.ble xs.length fn.ntmps=true) (hnames:namesG xs h0 .unk []=true) (h:Wo false P Γ fn.ntmps c (doneG Γ fn.results.toList r h1) (stG xs h0)):SpecG P f xs h0 r h1:=by
 rw[Wo_eq]at h
 refine⟨enters_of hf hb hn,fun w vs ρ hvs hl hal=>calls_of_wp hf hb ?_⟩
 have hc:=enter_concG (N:=fn.ntmps) hnames hvs hl hal (Nat.le_of_ble_eq_true hN)
 have hF:∀o v,(if(lkH h0 o).isSome=true then some (ρ o)else none)=some v→o.1=0:=fun o v hv=>by
  split at hv
  ·rename_i hs
   obtain⟨x,hx⟩:=Option.isSome_iff_exists.1 hs
   simp only[namesG,Bool.and_eq_true,List.all_eq_true,Nat.beq_eq_true_eq]at hnames
   simpa using(hnames.2 _ (lkH_mem hx)).1
  ·cases hv
 refine h hΓ hmix _ _ _ _ _ _ _ (by simp) hF hc fun e st' ρ' a' w' hK hc'=>?_
 have key:closeAll (holesOf st'.h []) st' (finG0 Γ fn.results.toList r h1)→a'.defers=[]∧∃v,(results fn a'.tmps).run P w'= .ok v w'∧∃v' ρ2,Ending.returned v= .returned v'∧Keep w.heap.size (Ms ρ h0) w w'∧(∀o,(lkH h0 o).isSome=true→ρ2 o=ρ o)∧ρ2.al=ρ.al∧
   RV w.heap.size ρ2 w' (okB ρ2 (lkH h1) w') v' r∧Lies w.heap.size ρ2 w' h1∧∀o x b,lkH h1 o=some x→Own ρ2 o b→w.heap.size≤b∨Ms ρ h0 b:=fun hfin=>by
  obtain⟨v,ρ2,k1,k2⟩:=finG_ok (P:=P) hΓ hF hc' hfin
  have hH:∀o,(St.fs ⟨[(0,r)],h1.map (fun p=>(p.1,some p.2)),[1,0]⟩).H o=lkH h1 o:=fun o=>hget_lk h1 o
  have hH':(St.fs ⟨[(0,r)],h1.map (fun p=>(p.1,some p.2)),[1,0]⟩).H=lkH h1:=funext hH
  refine⟨hc'.defers,v,k1,v,ρ2,rfl,k2.keep,fun o ho=>?_,k2.cst,?_,⟨fun o x ho=>?_,fun o o' x x' b ho ho'=>?_,fun o x b ho he=>?_⟩,fun o x b ho he=>?_⟩
  ·have:=k2.fix o (ρ o) (by show(if(lkH h0 o).isSome=true then some (ρ o)else none)=_;rw[if_pos ho])
   exact this.1
  ·have:=k2.slot 0
   rw[hH']at this
   exact this
  ·have:=k2.obj o x (by rw[hH];exact ho)
   rw[hH']at this
   exact this
  ·exact k2.sep o o' x x' b (by rw[hH];exact ho) (by rw[hH];exact ho')
  ·exact(k2.rng o x b (by rw[hH];exact ho) he).1
  ·exact(k2.rng o x b (by rw[hH];exact ho) he).2
 cases e with
 | normal=>exact key hK
 | ret=>exact key hK
 | exit id=>exact hK.elim
end Go.Sim
namespace Go.Sim
open Go.RowKit
def vwC (H H':Id→Option AO)(c d:AC):Prop:=d=c∨(∃n m,c= .nils n∧d= .nils m)∨∃t,d= .t t∧acTree H c t∧∀q∈c.ids,H' q=none
def vwCs (H H':Id→Option AO):List AC→List AC→Prop
 | [],[]=>True
 | c::cs,d::ds=>vwC H H' c d∧vwCs H H' cs ds
 | _,_=>False
def vwFr (H H':Id→Option AO)(L:Nat→AV):List (Nat×AV)→Prop
 | []=>True
 |(i,v)::r=>(v=L i∨(∃c d,L i= .r (.c c)∧v= .r (.c d)∧vwC H H' c d)∨∃cs ds,L i= .r (.agg cs)∧v= .r (.agg ds)∧vwCs H H' cs ds)∧vwFr H H' L r
def vwO (H H':Id→Option AO)(y x:Option AO):Prop:=x=y∨(∃cs ds,y=some (.box cs)∧x=some (.box ds)∧vwCs H H' cs ds)∨
 ∃sz rows i off n row t,y=some (.dar sz rows (some (i,off,n)))∧rows[i]?=some row∧off < sz∧acTree H (.own n) t∧H' n=none∧x=some (.dar sz (rows.set i (row.set off (.t t))) none)
def vwH (H H':Id→Option AO):List (Id×Option AO)→Prop
 | []=>True
 |(q,x)::r=>(x=none∨vwO H H' (H q) x)∧vwH H H' r
theorem vwFr_mem {H H':Id→Option AO}{L:Nat→AV}:∀{l:List (Nat×AV)} {i:Nat} {v:AV},vwFr H H' L l→(i,v)∈l→(v=L i∨(∃c d,L i= .r (.c c)∧v= .r (.c d)∧vwC H H' c d)∨∃cs ds,L i= .r (.agg cs)∧v= .r (.agg ds)∧vwCs H H' cs ds)
 | [],_,_,_,h=>by cases h
 |(j,u)::r,i,v,h,hm=>by
  rcases List.mem_cons.1 hm with e|hm
  ·injection e with e1 e2
   subst e1;subst e2
   exact h.1
  ·exact vwFr_mem h.2 hm
theorem vwH_mem {H H':Id→Option AO}:∀{l:List (Id×Option AO)} {q:Id} {x:AO},vwH H H' l→(q,some x)∈l→vwO H H' (H q) (some x)
 | [],_,_,_,h=>by cases h
 |(p,u)::r,q,x,h,hm=>by
  rcases List.mem_cons.1 hm with e|hm
  ·injection e with e1 e2
   subst e1;subst e2
   rcases h.1 with e|e
   ·cases e
   ·exact e
  ·exact vwH_mem h.2 hm
theorem vwC_ids {H H':Id→Option AO}{c d:AC}(h:vwC H H' c d):∀o∈d.ids,o∈c.ids:=by
 rcases h with rfl|⟨n,m,rfl,rfl⟩|⟨t,rfl,_⟩
 ·exact fun _ h=>h
 ·intro o ho;simp[AC.ids]at ho
 ·intro o ho;simp[AC.ids]at ho
theorem vwCs_ids {H H':Id→Option AO}:∀{cs ds:List AC},vwCs H H' cs ds→∀o∈ds.flatMap AC.ids,o∈cs.flatMap AC.ids
 | [],[],_,_,h=>h
 | c::cs,d::ds,h,o,ho=>by
  simp only[List.flatMap_cons,List.mem_append]at ho ⊢
  exact ho.imp (vwC_ids h.1 o) (vwCs_ids h.2 o)
 | [],_::_,h,_,_=>h.elim
 | _::_,[],h,_,_=>h.elim
section
variable {P:Program} {Γ:Env} {N:Nat} {m:Bool} {K:Out→St→Prop} {st st':St} {c x y:Code}
theorem leq_rule (st':St)(h1:Lo m st st')(h:Wo m P Γ N c K st'):Wo m P Γ N c K st:=by
 rw[Wo_eq]at *
 rw[Lo_eq]at h1
 intro hΓ hmix B M w0 ρ a w Q hM hF hc hQ
 obtain⟨ρ',hc'⟩:=h1.ok hM hF hc
 exact h hΓ hmix B M w0 ρ' a w Q hM hF hc' hQ
theorem view2_rule (st':St)(h1:vwFr (hget st.h) (hget st'.h) (look st.fr) st'.fr)(h2:vwH (hget st.h) (hget st'.h) st'.h)(hu:st'.u=st.u)(h:Wo m P Γ N c K st'):Wo m P Γ N c K st:=by
 rw[Wo_eq]at *
 intro hΓ hmix B M w0 ρ a w Q hM hF hc hQ
 refine h hΓ hmix B M w0 ρ a w Q hM hF ?_ hQ
 have hO:∀q x,st'.fs.H q=some x→vwO (hget st.h) (hget st'.h) (hget st.h q) (some x):=fun q x hq=>vwH_mem h2 (hget_mem hq)
 have hsub:∀q x,st'.fs.H q=some x→∃y,st.fs.H q=some y:=fun q x hq=>by
  rcases hO q x hq with e|⟨cs,ds,e,_⟩|⟨_,_,_,_,_,_,_,e,_⟩
  ·exact⟨x,e.symm⟩
  ·exact⟨_,e⟩
  ·exact⟨_,e⟩
 have hok:∀b,okB ρ st.fs.H w b→okB ρ st'.fs.H w b:=fun b hb=>⟨hb.1,fun o x ho=>by obtain⟨y,hy⟩:=hsub o x ho;exact hb.2 o y hy⟩
 have hfree:∀q,hget st'.h q=none→∀x b,st.fs.H q=some x→Own ρ q b→okB ρ st'.fs.H w b:=by
  intro q hq x b hx hb
  have hr:=hc.rng q x b hx hb
  refine⟨⟨hr.1,hc.alw b hr.2⟩,fun o y ho hb2=>?_⟩
  have hne:o≠q:=fun e=>by
   subst e
   rw[show st'.fs.H o=none from hq]at ho
   cases ho
  obtain⟨y',hy'⟩:=hsub o y ho
  exact hc.sep o q y' x b hy' hx hne hb2 hb
 have hcell:∀{v:Value} {c d:AC},RC B ρ w (okB ρ st.fs.H w) v c→vwC (hget st.h) (hget st'.h) c d→RC B ρ w (okB ρ st'.fs.H w) v d:=by
  intro v c d hv hcd
  rcases hcd with rfl|⟨n,m,rfl,rfl⟩|⟨t,rfl,e3,e4⟩
  ·exact hv.keep (fun b hb=>⟨rfl,hok b hb⟩) fun _ _=>rfl
  ·exact hv
  ·exact acTree_ok' hc hok (fun q hq x b hx hb=>hfree q (e4 q hq) x b hx hb) hv e3
 have hcells:∀{vs:List Value} {cs ds:List AC},RCs B ρ w (okB ρ st.fs.H w) vs cs→vwCs (hget st.h) (hget st'.h) cs ds→RCs B ρ w (okB ρ st'.fs.H w) vs ds:=by
  intro vs
  induction vs with
  | nil=>
   intro cs ds h1 h2
   cases cs with
   | nil=>cases ds with
    | nil=>trivial
    | cons=>exact h2.elim
   | cons=>exact h1.elim
  | cons v vs ih=>
   intro cs ds h1 h2
   cases cs with
   | nil=>exact h1.elim
   | cons c cs=>cases ds with
    | nil=>exact h2.elim
    | cons d ds=>exact⟨hcell h1.1 h2.1,ih h1.2 h2.2⟩
 have hids:∀t o,o∈(st'.fs.L t).ids→o∈(st.fs.L t).ids:=fun t o ho=>by
  rcases look_mem st'.fr t with e|hm
  ·rw[show st'.fs.L t=AV.unk from e]at ho
   simp[AV.ids]at ho
  ·rcases vwFr_mem h1 hm with e|⟨c,d,e1,e2,e3⟩|⟨cs,ds,e1,e2,e3⟩
   ·exact(show st'.fs.L t=st.fs.L t from e) ▸ ho
   ·rw[show st'.fs.L t=_ from e2]at ho
    rw[show st.fs.L t=_ from e1]
    exact vwC_ids e3 o ho
   ·rw[show st'.fs.L t=_ from e2]at ho
    rw[show st.fs.L t=_ from e1]
    exact vwCs_ids e3 o ho
 refine⟨hc.size,hc.defers,fun t=>?_,fun o x ho=>?_,fun o o' x x' b ho ho'=>by obtain⟨y,hy⟩:=hsub o x ho;obtain⟨y',hy'⟩:=hsub o' x' ho';exact hc.sep o o' y y' b hy hy',fun o x b ho hb=>by obtain⟨y,hy⟩:=hsub o x ho;exact hc.rng o y b hy hb,hc.keep,hc.base,hc.alw,hc.cst,fun o v hv=>⟨(hc.fix o v hv).1,by have:=(hc.fix o v hv).2;simpa [St.fs,hu]using this⟩,fun t o ho=>by have:=hc.usedL t o (hids t o ho);simpa [St.fs,hu]using this,fun o x ho=>?_⟩
 ·rcases look_mem st'.fr t with e|hm
  ·rw[show st'.fs.L t=AV.unk from e]
   trivial
  ·rcases vwFr_mem h1 hm with e|⟨c,d,e1,e2,e3⟩|⟨cs,ds,e1,e2,e3⟩
   ·rw[show st'.fs.L t=st.fs.L t from e]
    exact(hc.slot t).keep (fun b hb=>⟨rfl,hok b hb⟩) fun _ _=>rfl
   ·rw[show st'.fs.L t=_ from e2]
    have hs:=hc.slot t
    rw[show st.fs.L t=_ from e1]at hs
    exact hcell hs e3
   ·rw[show st'.fs.L t=_ from e2]
    have hs:=hc.slot t
    rw[show st.fs.L t=_ from e1]at hs
    obtain⟨us,hv,hs⟩:=hs
    exact⟨us,hv,hcells hs e3⟩
 ·rcases hO o x ho with e|⟨cs,ds,e1,e2,e3⟩|⟨sz,rows,i,off,n,row,t,e1,e2,e3,e4,e5,e6⟩
  ·exact(hc.obj o x e.symm).keep (fun b hb=>⟨rfl,hok b hb⟩) (fun _ _=>rfl) rfl (fun _ h=>h) fun _ _=>rfl
  ·injection e2 with e2
   subst e2
   obtain⟨b,cur,t,fz,g1,g2,g3,g4⟩:=hc.obj o _ e1
   exact⟨b,cur,t,fz,g1,g2,g3,hcells g4 e3⟩
  ·injection e6 with e6
   subst e6
   obtain⟨hu',g⟩:=hc.obj o _ e1
   have hrow:∀r∈rows.set i (row.set off (DC.t t)),r.length=sz:=fun r hr=>by
    rcases List.mem_or_eq_of_mem_set hr with h'|h'
    ·exact hu' r h'
    ·rw[h',List.length_set];exact hu' row (List.mem_of_getElem? e2)
   refine⟨hrow,?_⟩
   rcases g with⟨_,_,g⟩|⟨b,cap,cur,e,fz,Fp,g1,g2,g3,g4,g5,g6,g7,g8,g9⟩
   ·cases g
   ·refine .inr ⟨b,cap,cur,e,fz,Fp,by rw[List.length_set];exact g1,g2,g3,by rw[List.length_set];exact g4,g5,g6,g7,g8,?_⟩
    have hfl:=flatten_lay (off:=off) (row:=row) (row':=row.set off (DC.t t)) (ts:=[DC.t t]) (sz:=sz) (by have:=hu' row (List.mem_of_getElem? e2);simp;omega) (by
     rw[List.set_eq_take_append_cons_drop,if_pos (by have:=hu' row (List.mem_of_getElem? e2);omega)];simp) rows i hu' e2
    have hi:i < rows.length:=by
     rcases Nat.lt_or_ge i rows.length with h'|h'
     ·exact h'
     ·rw[List.getElem?_eq_none h']at e2;cases e2
    have hrfl:=flatten_length sz rows hu'
    have hle:(i+1) * sz≤rows.length * sz:=Nat.mul_le_mul_right _ hi
    have hm:(i+1) * sz=i * sz+sz:=by rw[Nat.add_mul];omega
    have hlen:i * sz+off+[DC.t t].length≤rows.flatten.length:=by rw[hrfl];simp;omega
    refine⟨?_,fun p v d hv hd=>?_⟩
    ·rw[List.length_set,hfl]
     have:=g9.1
     simp only[List.length_append,List.length_take,List.length_drop]at this ⊢
     omega
    ·rw[List.length_set]at hv
     simp only[holeAt]
     rw[hfl,get_laid hlen]at hd
     have h9:=g9.2 p v
     by_cases q1:p=i * sz+off
     ·rw[if_neg (by omega),if_pos (by simp;omega)]at hd
      have q2:p - (i * sz+off)=0:=by omega
      rw[q2,List.getElem?_cons_zero]at hd
      injection hd with hd
      subst hd
      obtain⟨d0,hd0⟩:∃d0,rows.flatten[p]?=some d0:=⟨_,List.getElem?_eq_getElem (by rw[q1];simp at hlen;omega)⟩
      have:=h9 d0 hv hd0
      simp only[holeAt,if_pos q1]at this
      rw[this.1]
      have hsl:∃A n' c',ρ n= .slice A n' c':=by
       simp only[acTree]at e4
       split at e4
       ·rename_i fr sz' rows' hq
        obtain⟨_,g⟩:=hc.obj n _ hq
        rcases g with⟨g,_⟩|⟨_,_,_,_,_,g,_⟩
        ·exact⟨_,_,_,g⟩
        ·exact⟨_,_,_,g⟩
       ·rename_i sz' rows' hq
        obtain⟨_,g⟩:=hc.obj n _ hq
        rcases g with⟨g,_⟩|⟨_,_,_,_,_,_,g,_⟩
        ·exact⟨_,_,_,g⟩
        ·exact⟨_,_,_,g⟩
       ·exact e4.elim
      exact acTree_ok' (c:= .own n) (v:=ρ n) hc hok (fun q hq x b hx hb=>by
       simp only[AC.ids,List.mem_cons,List.not_mem_nil,or_false]at hq
       subst hq
       exact hfree _ e5 x b hx hb) ⟨hsl,rfl⟩ e4
     ·have hd':rows.flatten[p]?=some d:=by
       split at hd
       ·exact hd
       ·rw[if_neg (by simp;omega)]at hd;exact hd
      have:=h9 d hv hd'
      simp only[holeAt,if_neg q1]at this
      exact RD.keep this (fun b hb=>⟨rfl,hok b hb⟩) fun _ h=>⟨rfl,h⟩
 ·rcases hO o x ho with e|⟨cs,ds,e1,e2,e3⟩|⟨sz,rows,i,off,n,row,t,e1,e2,e3,e4,e5,e6⟩
  ·have:=hc.usedH o x e.symm;simpa [St.fs,hu]using this
  ·injection e2 with e2
   subst e2
   obtain⟨k1,k2⟩:=hc.usedH o _ e1
   refine⟨by simpa [St.fs,hu]using k1,fun o' ho'=>?_⟩
   have:=k2 o' (vwCs_ids e3 o' ho')
   simpa [St.fs,hu]using this
  ·injection e6 with e6
   subst e6
   obtain⟨k1,k2⟩:=hc.usedH o _ e1
   exact⟨by simpa [St.fs,hu]using k1,fun o' ho'=>by simp[AO.ids]at ho'⟩
def gvR:List (List DC)→List (List DC)→Prop
 | [],[]=>True
 | r::rs,t::ts=>(r.length=t.length∧∀(p:Nat) (c d:DC),r[p]?=some c→t[p]?=some d→d=c∨d=DC.t c.tr∨∃a b,c.tr= .lst a []∧d=DC.t (.lst b []))∧gvR rs ts
 | _,_=>False
theorem gvR_len:∀{rs ts:List (List DC)},gvR rs ts→rs.length=ts.length
 | [],[],_=>rfl
 | _::_,_::_,h=>by rw[List.length_cons,List.length_cons,gvR_len h.2]
 | [],_::_,h=>h.elim
 | _::_,[],h=>h.elim
theorem gvR_rows {sz:Nat}:∀{rs ts:List (List DC)},gvR rs ts→(∀r∈rs,r.length=sz)→∀r∈ts,r.length=sz
 | [],[],_,_,_,h=>by cases h
 | r::rs,t::ts,h,hu,x,hx=>by
  rcases List.mem_cons.1 hx with rfl|hx
  ·rw[←h.1.1];exact hu r (by simp)
  ·exact gvR_rows h.2 (fun r hr=>hu r (by simp[hr])) x hx
 | [],_::_,h,_,_,_=>h.elim
 | _::_,[],h,_,_,_=>h.elim
theorem gvR_flat:∀{rs ts:List (List DC)},gvR rs ts→rs.flatten.length=ts.flatten.length∧∀(p:Nat) (c d:DC),rs.flatten[p]?=some c→ts.flatten[p]?=some d→d=c∨d=DC.t c.tr∨∃a b,c.tr= .lst a []∧d=DC.t (.lst b [])
 | [],[],_=>⟨rfl,fun p c d h=>by simp at h⟩
 | r::rs,t::ts,h=>by
  obtain⟨h1,h2⟩:=gvR_flat h.2
  refine⟨by simp only[List.flatten_cons,List.length_append,h.1.1,h1],fun p c d hc hd=>?_⟩
  rw[List.flatten_cons,List.getElem?_append]at hc hd
  rw[h.1.1]at hc
  split at hc
  ·rename_i hp;rw[if_pos hp]at hd;exact h.1.2 p c d hc hd
  ·rename_i hp;rw[if_neg hp]at hd;exact h2 _ c d hc hd
 | [],_::_,h=>h.elim
 | _::_,[],h=>h.elim
theorem RT.empty {w:World}{ok:Nat→Prop}{v:Value}{a b:Nat}(h:RT w ok v (.lst a [])):RT w ok v (.lst b []):=by
 cases h with
 | emp A c sz hc=>exact .emp _ _ _ hc
 | lst ad n c sz rows us hn hc hm hu hok hl hcell hrec=>
  have:n=0:=by simpa using hn.symm
  subst this
  exact .emp _ _ _ hm
theorem give_rule (o:Id){sz:Nat}{rows rows':List (List DC)}(ho:hget st.h o=some (.dar sz rows none))(hg:gvR rows rows')(h:Wo m P Γ N c K ⟨st.fr,(o,some (.dar sz rows' none))::st.h,st.u⟩):Wo m P Γ N c K st:=by
 rw[Wo_eq]at *
 intro hΓ hmix B M w0 ρ a w Q hM hF hc hQ
 have hne:∀q,q≠o→hget ((o,some (AO.dar sz rows' none))::st.h) q=hget st.h q:=fun q hq=>by
  have:idEq q o=false:=by cases hb:idEq q o with|false=>rfl|true=>exact absurd (idEq_iff.1 hb) hq
  simp[hget,this]
 have heq:hget ((o,some (AO.dar sz rows' none))::st.h) o=some (.dar sz rows' none):=by
  have:idEq o o=true:=idEq_iff.2 rfl
  simp[hget,this]
 obtain⟨hu,g⟩:=hc.obj o _ ho
 have key:∃ρ':Rho,ρ'.val=ρ.val∧ρ'.al=ρ.al∧(∀q,q≠o→∀b,ρ'.fp q b↔ρ.fp q b)∧(∀b,ρ'.fp o b→ρ.fp o b)∧∀ok':Nat→Prop,(∀b,okB ρ st.fs.H w b→ok' b)→(∀b,ρ.fp o b→blk (ρ o)≠some b→¬ρ'.fp o b→ok' b)→RO B ρ' w ok' o (.dar sz rows' none):=by
  rcases g with⟨g1,g2,g3⟩|⟨b,cap,cur,e,fz,Fp,g1,g2,g3,g4,g5,g6,g7,g8,g9⟩
  ·subst g2
   have:rows'=[]:=by
    have:=gvR_len hg
    exact List.length_eq_zero_iff.1 this.symm
   subst this
   exact⟨ρ,rfl,rfl,fun _ _ _=>Iff.rfl,fun _ h=>h,fun ok' _ _=>⟨fun r hr=>by simp at hr,.inl ⟨g1,rfl,rfl⟩⟩⟩
  ·obtain⟨f1,f2⟩:=gvR_flat hg
   refine⟨⟨ρ.val,fun q c=>if q=o then(∃p x,rows'.flatten[p]?=some (.d x)∧Fp p c)else ρ.fp q c,ρ.al⟩,rfl,rfl,fun q hq b=>by simp only[if_neg hq],fun c hcc=>by
    simp only[if_true]at hcc
    obtain⟨p,_,_,hp⟩:=hcc
    exact(g7 p c hp).1,fun ok' hk hk2=>⟨gvR_rows hg hu,.inr ⟨b,cap,cur,e,fz,fun p c=>(∃x,rows'.flatten[p]?=some (.d x))∧Fp p c,by rw[←gvR_len hg];exact g1,g2,g3,by rw[←gvR_len hg];exact g4,g5,g6,fun p c hpc=>?_,fun p q c hpq h1 h2=>g8 p q c hpq h1.2 h2.2,?_,fun p v d hv hd=>?_⟩⟩⟩
   ·refine⟨?_,(g7 p c hpc.2).2⟩
    simp only[if_true]
    obtain⟨⟨x,hx⟩,h2⟩:=hpc
    exact⟨p,x,hx,h2⟩
   ·rw[←f1,←gvR_len hg];exact g9.1
   ·rw[←gvR_len hg]at hv
    simp only[holeAt]
    obtain⟨c0,hc0⟩:∃c0,rows.flatten[p]?=some c0:=by
     have:p < rows'.flatten.length:=by
      rcases Nat.lt_or_ge p rows'.flatten.length with h'|h'
      ·exact h'
      ·rw[List.getElem?_eq_none h']at hd;cases hd
     exact⟨_,List.getElem?_eq_getElem (by omega)⟩
    have:=g9.2 p v c0 hv hc0
    simp only[holeAt]at this
    have hread:(∀x,c0= .d x→d≠.d x)→RT w ok' v c0.tr:=by
     intro hne
     cases c0 with
     | t x=>exact RT.keep this fun b' hb'=>⟨rfl,hk b' hb'⟩
     | d x=>
      refine DT.toRT this fun b' hb'=>hk2 b' (g7 p b' hb').1 (fun hbb=>?_) fun hf=>?_
      ·rw[g1]at hbb
       injection hbb with hbb
       exact(g7 p b' hb').2 hbb.symm
      ·simp only[if_true]at hf
       obtain⟨q,y,hq,hfq⟩:=hf
       by_cases hpq:p=q
       ·subst hpq
        rw[hd]at hq
        injection hq with hq
        subst hq
        rcases f2 p _ _ hc0 hd with e|e|⟨_,_,_,e⟩
        ·exact hne x rfl e
        ·cases e
        ·cases e
       ·exact g8 p q b' hpq hb' hfq
    rcases f2 p c0 d hc0 hd with rfl|rfl|⟨a1,b1,ea,rfl⟩
    ·cases d with
     | t x=>exact RT.keep this fun b' hb'=>⟨rfl,hk b' hb'⟩
     | d x=>exact DT.keep this fun b' hb'=>⟨rfl,⟨x,hd⟩,hb'⟩
    ·exact hread fun x _ e=>by cases e
    ·have:=hread fun x _ e=>by cases e
     rw[ea]at this
     exact RT.empty this
 obtain⟨ρ',r1,r2,r3,r4,r5⟩:=key
 have hv:∀q,ρ' q=ρ q:=fun q=>by show ρ'.val q=ρ.val q;rw[r1]
 have hown:∀q b,Own ρ' q b→Own ρ q b:=fun q b hb=>by
  rcases hb with hb|hb
  ·exact .inl (by rw[←hv q];exact hb)
  ·by_cases hq:q=o
   ·subst hq;exact .inr (r4 b hb)
   ·exact .inr ((r3 q hq b).1 hb)
 refine h hΓ hmix B M w0 ρ' a w Q hM hF ?_ hQ
 have hsub:∀q x,hget ((o,some (AO.dar sz rows' none))::st.h) q=some x→∃y,hget st.h q=some y:=fun q x hx=>by
  by_cases hq:q=o
  ·subst hq;exact⟨_,ho⟩
  ·rw[hne q hq]at hx;exact⟨x,hx⟩
 have hok:∀b,okB ρ st.fs.H w b→okB ρ' (hget ((o,some (AO.dar sz rows' none))::st.h)) w b:=fun b hb=>⟨⟨hb.1.1,by rw[r2];exact hb.1.2⟩,fun q x hx hb2=>by obtain⟨y,hy⟩:=hsub q x hx;exact hb.2 q y hy (hown q b hb2)⟩
 refine⟨hc.size,hc.defers,fun t=>(hc.slot t).keep (fun b hb=>⟨rfl,hok b hb⟩) fun q _=>hv q,fun q x hx=>?_,fun q q' x x' b hx hx' hqq hb hb'=>by
   obtain⟨y,hy⟩:=hsub q x hx
   obtain⟨y',hy'⟩:=hsub q' x' hx'
   exact hc.sep q q' y y' b hy hy' hqq (hown q b hb) (hown q' b hb'),fun q x b hx hb=>by obtain⟨y,hy⟩:=hsub q x hx;exact hc.rng q y b hy (hown q b hb),hc.keep,hc.base,fun b hb=>by rw[r2];exact hc.alw b hb,by rw[r2];exact hc.cst,fun q v hq=>⟨by rw[hv];exact(hc.fix q v hq).1,(hc.fix q v hq).2⟩,hc.usedL,fun q x hx=>?_⟩
 ·by_cases hq:q=o
  ·subst hq
   have hx':=hx
   rw[show(St.fs ⟨st.fr,(q,some (AO.dar sz rows' none))::st.h,st.u⟩).H q=hget ((q,some (AO.dar sz rows' none))::st.h) q from rfl,heq]at hx'
   injection hx' with hx'
   subst hx'
   refine r5 _ hok fun b hb hbb hnf=>⟨⟨(hc.rng q _ b ho (.inr hb)).1,by rw[r2];exact hc.alw b (hc.rng q _ b ho (.inr hb)).2⟩,fun q' x' hx2 hb2=>?_⟩
   by_cases hq':q'=q
   ·subst hq'
    rcases hb2 with hb2|hb2
    ·exact hbb (by rw[←hv q'];exact hb2)
    ·exact hnf hb2
   ·obtain⟨y',hy'⟩:=hsub q' x' hx2
    exact hc.sep q' q y' _ b hy' ho hq' (hown q' b hb2) (.inr hb)
  ·have hx':hget st.h q=some x:=by rw[←hne q hq];exact hx
   exact(hc.obj q x hx').keep (fun b hb=>⟨rfl,hok b hb⟩) (fun _ _=>hv _) (hv q) (fun b hb=>(r3 q hq b).2 hb) fun _ _=>rfl
 ·by_cases hq:q=o
  ·subst hq
   have hx':=hx
   rw[show(St.fs ⟨st.fr,(q,some (AO.dar sz rows' none))::st.h,st.u⟩).H q=hget ((q,some (AO.dar sz rows' none))::st.h) q from rfl,heq]at hx'
   injection hx' with hx'
   subst hx'
   exact⟨(hc.usedH q _ ho).1,fun o' ho'=>by simp[AO.ids]at ho'⟩
  ·have hx':hget st.h q=some x:=by rw[←hne q hq];exact hx
   exact hc.usedH q x hx'
end
end Go.Sim
