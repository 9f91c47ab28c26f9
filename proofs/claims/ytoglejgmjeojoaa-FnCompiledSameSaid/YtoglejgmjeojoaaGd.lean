import Derived.Test.YtoglejgmjeojoaaGc
namespace Go.Sim
open Go.RowKit
abbrev Ren:=List (Id×Option (Id×Option Nat))
def iz:Ren->Id->Option (Option (Id×Option Nat))
 | [],_=>none
 |(i,x)::r,o=>bif fE o i then some x else iz r o
def Ic:Option (Id×Option Nat)->Option (Id×Option Nat)->Prop
 | none,none=>True
 | some (a,none),some (b,none)=>fE a b=true
 | some (a,some k),some (b,some k')=>fE a b=true/\k=k'
 | _,_=>False
def tie (r:Ren)(o:Id)(x:Option (Id×Option Nat))(K:Ren->Prop):Prop:=
 match iz r o with
 | some y=>Ic y x/\K r
 | none=>K ((o,x)::r)
def leC (r:Ren):AC->AC->(Ren->Prop)->Prop
 | .t x,.t y,K=>x=y/\K r
 | .f x,.t y,K=>x=y/\K r
 | .f x,.f y,K=>x=y/\K r
 | .nils _,.t y,K=>(∃sz,y= .lst sz [])/\K r
 | .nils _,.f y,K=>(∃sz,y= .lst sz [])/\K r
 | .nils _,.nils _,K=>K r
 | .nils _,.own o',K=>tie r o' none K
 | .nilp,.nilp,K=>K r
 | .own o,.own o',K=>tie r o' (some (o,none)) K
 | .sub o k,.sub o' k',K=>k=k'/\tie r o' (some (o,none)) K
 | .sub o k,.own o',K=>tie r o' (some (o,some k)) K
 | .ptr o n,.ptr o' n',K=>n=n'/\tie r o' (some (o,none)) K
 | .mpv o,.mpv o',K=>tie r o' (some (o,none)) K
 | _,.opq,K=>K r
 | _,_,_=>False
abbrev JT (r:Ren):List AC->List AC->(Ren->Prop)->Prop
 | [],[],K=>K r
 | x::xs,y::ys,K=>leC r x y fun r=>JT r xs ys K
 | _,_,_=>False
def leR (r:Ren):AR->AR->(Ren->Prop)->Prop
 | .c x,.c y,K=>leC r x y K
 | .agg xs,.agg ys,K=>JT r xs ys K
 | _,_,_=>False
abbrev Nb (r:Ren):List AR->List AR->(Ren->Prop)->Prop
 | [],[],K=>K r
 | x::xs,y::ys,K=>leR r x y fun r=>Nb r xs ys K
 | _,_,_=>False
def leV (r:Ren)(x:AV):AV->(Ren->Prop)->Prop
 | .unk,K=>K r
 | .r y,K=>(match x with
   | .r x=>leR r x y K
   | _=>False)
 | .tup ys,K=>(match x with
   | .tup xs=>Nb r xs ys K
   | _=>False)
 | .el o' M3 i' SK,K=>(match x with
   | .el o sz i off=>sz=M3/\i=i'/\off=SK/\tie r o' (some (o,none)) K
   | _=>False)
 | .ro fr' row' SK,K=>(match x with
   | .ro fr row off=>fr=fr'/\row=row'/\off=SK/\K r
   | _=>False)
abbrev MC (fr:List (Nat×AV)):List (Nat×AV)->Ren->(Ren->Prop)->Prop
 | [],r,K=>K r
 |(t,y)::rest,r,K=>leV r (dw fr t) y fun r=>MC fr rest r K
def leB (m fr fr':Bool)(rows:List (List Tr)):Prop:=
 match fr' with
 | false=>True
 | true=>(match fr with
   | true=>True
   | false=>m=true/\flat rows)
def leO (m:Bool)(r:Ren)(cutAt:Option Nat):AO->AO->(Ren->Prop)->Prop
 | .arr fr sz rows,.arr fr' M3 rows',K=>(match cutAt with
   | none=>sz=M3/\rows=rows'/\leB m fr fr' rows'/\K r
   | some k=>k<=rows.length/\sz=M3/\rows.take k=rows'/\leB m fr fr' rows'/\K r)
 | .box xs,.box ys,K=>(match cutAt with
   | none=>JT r xs ys K
   | some _=>False)
 | .dar sz rows none,.dar M3 rows' none,K=>(match cutAt with
   | none=>sz=M3/\rows=rows'/\K r
   | some k=>k<=rows.length/\sz=M3/\rows.take k=rows'/\K r)
 | .arr _ sz rows,.dar M3 rows' none,K=>(match cutAt with
   | none=>sz=M3/\flat rows/\aC rows=rows'/\K r
   | some _=>False)
 | .dar sz rows none,.arr fr' M3 rows',K=>(match cutAt with
   | none=>sz=M3/\rows=aC rows'/\(!fr'||m)=true/\K r
   | some _=>False)
 | .mp kk es,.mp WM Pl,K=>(match cutAt with
   | none=>kk=WM/\es=Pl/\K r
   | some _=>False)
 | _,_,_=>False
abbrev leH (m:Bool)(h:List (Id×Option AO)):List (Id×Option AO)->Ren->(Ren->Prop)->Prop
 | [],r,K=>K r
 |(_,none)::rest,r,K=>leH m h rest r K
 |(o',some x)::rest,r,K=>(match iz r o' with
   | some none=>(match x with
    | .arr _ _ rows=>rows=[]/\leH m h rest r K
    | .dar _ rows none=>rows=[]/\leH m h rest r K
    | _=>False)
   | some (some (o,c))=>(match co h o with
    | some y=>leO m r c y x fun r=>leH m h rest r K
    | none=>False)
   | none=>False)
def wH (o:Id):Ren->Bool
 | []=>false
 |(_,some (o',_))::r=>fE o o'||wH o r
 |(_,none)::r=>wH o r
def wB:Ren->Bool
 | []=>true
 |(_,some (o,_))::r=>!wH o r&&wB r
 |(_,none)::r=>wB r
def rW (u:List Nat):List Id->Bool
 | []=>true
 | o::l=>used u o.1&&rW u l
def zP (u:List Nat):List (Nat×AV)->Bool
 | []=>true
 |(_,v)::l=>rW u v.ids&&zP u l
def usedH (u:List Nat):List (Id×Option AO)->Bool
 | []=>true
 |(o,some x)::l=>used u o.1&&(rW u x.ids&&usedH u l)
 |(_,none)::l=>usedH u l
def pOk (r:Ren):Bool:=r.all fun p=>!(Nat.beq p.1.1 0)||(match p.2 with
 | some (o,none)=>fE o p.1
 | _=>false)
def Gn (m:Bool):List (Id×Option AO)->Ren
 | []=>[]
 |(o,some _)::l=>(match !m&&Nat.beq o.1 0 with
   | true=>(o,some (o,none))::Gn m l
   | false=>Gn m l)
 |(_,none)::l=>Gn m l
def Leq (m:Bool)(st J2:St):Prop:=
 ((zP J2.u J2.fr&&usedH J2.u J2.h)&&(m||used J2.u 0))=true/\MC st.fr J2.fr (Gn m J2.h) fun r=>leH m st.h J2.h r fun r=>(wB r&&(m||pOk r))=true
def jr:List (Id×Option AO)->List Id->List Id
 | [],_=>[]
 |(o,x)::l,seen=>(match lb o seen with
   | true=>jr l seen
   | false=>(match x with
    | some (.dar _ _ (some _))=>o::jr l (o::seen)
    | _=>jr l (o::seen)))
abbrev jc:List Id->St->(St->Prop)->Prop
 | [],st,K=>K st
 | o::l,st,K=>qG (co st.h) (.el o 0 0 0) fun _ us _=>vx us st.h fun h=>jc l ⟨st.fr,h,st.u⟩ K
def LeqG (m:Bool)(st J2:St):Prop:=jc (jr st.h []) st fun st=>Leq m st J2
inductive Out where
 | normal
 | exit (id:Nat)
 | ret
 | pan (v:Value)
def Out.at:Out->Exit
 | .normal=> .normal
 | .exit id=> .exit id
 | .ret=> .ret
 | .pan v=> .panic [{v,recovered:=false}]
def yk (st:St)(c:Operand)(b:Bool):St:=
 match c with
 | .tmp t=>lit st t b
 | _=>st
def Nt (P:Program)(Γ:Env)(N:Nat)(ops:List Oper)(draw:Bool)(st:St)(K:St->Prop):Prop:=
 match draw with
 | false=>me P Γ N ops ops st [] fun J2 _=>K J2
 | true=>(me P Γ N ops ops st [] fun J2 log=>tw ops log.reverse=true/\K J2)\/∃xi xj:Nat,Me P Γ N ops xi xj st K
def W (m:Bool)(P:Program)(Γ:Env)(N:Nat):Code->(Out->St->Prop)->St->Prop
 | .skip,K,st=>K .normal st
 | .label _,K,st=>K .normal st
 | .region _ ops draw,K,st=>Nt P Γ N ops.toList draw st (K .normal)
 | .seq x y,K,st=>W m P Γ N x (fun e J2=>(match e with
   | .normal=>W m P Γ N y K J2
   | e=>K e J2)) st\/
   ∃(ι:Type) (S:ι->St),W m P Γ N x (fun e J2=>(match e with
    | .normal=>∃i,LeqG m J2 (S i)
    | e=>K e J2)) st/\∀i,W m P Γ N y K (S i)
 | .cond c x y,K,st=>(match evL (dw st.fr) c with
   | .r (.c (.t (.bool b)))=>ifB b (W m P Γ N x K (yk st c true)) (W m P Γ N y K (yk st c false))
   | _=>False)
 | .block id c,K,st=>W m P Γ N c (fun e J2=>(match e with
   | .exit id'=>(match Nat.beq id' id with
     | true=>K .normal J2
     | false=>K (.exit id') J2)
   | e=>K e J2)) st
 | .loop c,K,st=>∃(ι:Type) (S:ι->St) (μ:ι->Nat) (i0:ι),LeqG m st (S i0)/\∀i,W m P Γ N c (fun e J2=>(match e with
   | .normal=>∃j,LeqG m J2 (S j)/\μ j<μ i
   | e=>K e J2)) (S i)
 | .exit id,K,st=>K (.exit id) st
 | .ret,K,st=>K .ret st
 | _,_,_=>False
theorem aq {A:Prop}{Q:Nat->Nat->Prop}(h:A):A\/∃xi xj:Nat,Q xi xj:=Or.inl h
theorem Lj {A:Prop}{Q:Nat->Nat->Prop}(xi xj:Nat)(h:Q xi xj):A\/∃xi xj:Nat,Q xi xj:=Or.inr ⟨xi,xj,h⟩
section
variable {P:Program} {Γ:Env} {N B:Nat} {M:Nat->Prop} {w0:Start} {w:World} {ρ:Rho} {st J2:St} {a:Act} {m:Bool}
def Ext (r r':Ren):Prop:=∀o x,iz r o=some x->iz r' o=some x
theorem Ext.refl (r:Ren):Ext r r:=fun _ _ h=>h
theorem Ext.trans {r r' r'':Ren}(h:Ext r r')(h':Ext r' r''):Ext r r'':=fun o x hx=>h' o x (h o x hx)
theorem IM {r:Ren}{o:Id}{x:Option (Id×Option Nat)}(h:iz r o=none):Ext r ((o,x)::r):=by
 intro o' x' h';rw[iz]
 cases hb:fE o' o with
 | true=>rw[idEq_iff.1 hb,h]at h';cases h'
 | false=>exact h'
def vrv (ρ:Id->Value):Option (Id×Option Nat)->Value
 | some (o,none)=>ρ o
 | some (o,some k)=>(match ρ o with
   | .slice A _ c=> .slice A k c
   | v=>v)
 | none=> .slice none 0 0
def vr (ρ:Id->Value)(r:Ren)(o:Id):Value:=
 match iz r o with
 | some x=>vrv ρ x
 | none=>ρ o
theorem ur {ρ:Id->Value}{r:Ren}{o:Id}{x:Option (Id×Option Nat)}(h:iz r o=some x):vr ρ r o=vrv ρ x:=by unfold vr;rw[h]
theorem Hc {x y:Option (Id×Option Nat)}(h:Ic x y):x=y:=by
 unfold Ic at h;split at h
 ·rfl
 ·rw[idEq_iff.1 h]
 ·rw[idEq_iff.1 h.1,h.2]
 ·exact h.elim
theorem qa {r:Ren}{o:Id}{x:Option (Id×Option Nat)}{K:Ren->Prop}(h:tie r o x K):∃r',Ext r r'/\iz r' o=some x/\K r':=by
 unfold tie at h;split at h
 ·rename_i y hy;exact⟨r,.refl r,by rw[hy,Hc h.1],h.2⟩
 ·rename_i hy;exact⟨_,IM hy,by rw[iz,idEq_iff.2 rfl];rfl,h⟩
def Nv (r:Ren)(x y:AC):Prop:=∀{B:Nat} {ρ ρ':Rho} {w:World} {ok ok':Nat->Prop} {v:Value},(∀o,ρ' o=vr ρ r o)->(∀b,ok b->ok' b)->RC B ρ w ok v x->RC B ρ' w ok' v y
def Jz (r:Ren)(x y:List AC):Prop:=∀{B:Nat} {ρ ρ':Rho} {w:World} {ok ok':Nat->Prop} {v:List Value},(∀o,ρ' o=vr ρ r o)->(∀b,ok b->ok' b)->RCs B ρ w ok v x->RCs B ρ' w ok' v y
def Ny (r:Ren)(x y:AR):Prop:=∀{B:Nat} {ρ ρ':Rho} {w:World} {ok ok':Nat->Prop} {v:Value},(∀o,ρ' o=vr ρ r o)->(∀b,ok b->ok' b)->RR B ρ w ok v x->RR B ρ' w ok' v y
def MY (r:Ren)(x y:List AR):Prop:=∀{B:Nat} {ρ ρ':Rho} {w:World} {ok ok':Nat->Prop} {v:List Value},(∀o,ρ' o=vr ρ r o)->(∀b,ok b->ok' b)->RRs B ρ w ok v x->RRs B ρ' w ok' v y
def LY (r:Ren)(x y:AV):Prop:=∀{B:Nat} {ρ ρ':Rho} {w:World} {ok ok':Nat->Prop} {v:Value},(∀o,ρ' o=vr ρ r o)->(∀b,ok b->ok' b)->RV B ρ w ok v x->RV B ρ' w ok' v y
theorem RT.up {w:World}{ok ok':Nat->Prop}{v:Value}{t:Tr}(h:RT w ok v t)(hk:∀b,ok b->ok' b):RT w ok' v t:=h.keep fun b hb=>⟨rfl,hk b hb⟩
theorem V51{p:Prop}(h:p:=by
 obtain⟨r',h1,h2,h3⟩:=qa h;refine⟨r',h1,fun f hf B ρ ρ' w ok ok' v hρ hk hv=>?_,h3⟩;have e:=hf _ _ h2;have e':=(hρ _).trans (ur (ρ:=ρ) e);simp only[vrv]at e';simp only[RC,e']at hv⊢
 exact hv):p:=h
theorem V42{p:Prop}(h:p:=by
 obtain⟨Pb,h⟩:=h;subst Pb;obtain⟨r',h1,h2,h3⟩:=qa h;refine⟨r',h1,fun f hf B ρ ρ' w ok ok' v hρ hk hv=>?_,h3⟩;have e:=hf _ _ h2;have e':=(hρ _).trans (ur (ρ:=ρ) e);simp only[vrv]at e';simp only[RC,e']at hv⊢
 exact hv):p:=h
theorem Jq {r:Ren}{x y:AC}{K:Ren->Prop}(h:leC r x y K):∃r',Ext r r'/\(∀f,Ext r' f->Nv f x y)/\K r':=by
 cases x<;>cases y<;>simp only[leC]at h
 case t.t=>exact⟨r,.refl r,fun f _ B ρ ρ' w ok ok' v hρ hk hv=>by rw[<-h.1];exact RT.up hv hk,h.2⟩
 case f.t=>exact⟨r,.refl r,fun f _ B ρ ρ' w ok ok' v hρ hk hv=>by rw[<-h.1];exact RT.up hv fun b hb=>hk b hb.1,h.2⟩
 case f.f=>exact⟨r,.refl r,fun f _ B ρ ρ' w ok ok' v hρ hk hv=>by rw[<-h.1];exact RT.up hv fun b hb=>⟨hk b hb.1,hb.2⟩,h.2⟩
 case nils.t=>obtain⟨⟨sz,rfl⟩,h⟩:=h;exact⟨r,.refl r,fun f _ B ρ ρ' w ok ok' v hρ hk hv=>by rw[show v=_ from hv];exact .emp _ _ _ (by simp[maxLen]),h⟩
 case nils.f=>obtain⟨⟨sz,rfl⟩,h⟩:=h;exact⟨r,.refl r,fun f _ B ρ ρ' w ok ok' v hρ hk hv=>by rw[show v=_ from hv];exact .emp _ _ _ (by simp[maxLen]),h⟩
 case nils.nils=>exact⟨r,.refl r,fun f _ B ρ ρ' w ok ok' v hρ hk hv=>hv,h⟩
 case nilp.nilp=>exact⟨r,.refl r,fun f _ B ρ ρ' w ok ok' v hρ hk hv=>hv,h⟩
 case t.opq|f.opq|nils.opq|nilp.opq|own.opq|sub.opq|ptr.opq|opq.opq|mpv.opq=>exact⟨r,.refl r,fun f _ B ρ ρ' w ok ok' v hρ hk hv=>⟨RC.one hv,RC.cells1 hv⟩,h⟩
 case nils.own=>obtain⟨r',h1,h2,h3⟩:=qa h;refine⟨r',h1,fun f hf B ρ ρ' w ok ok' v hρ hk hv=>?_,h3⟩;have e:=hf _ _ h2;have e':=(hρ _).trans (ur (ρ:=ρ) e);simp only[vrv]at e';simp only[RC,e']at hv⊢;exact⟨⟨_,_,_,rfl⟩,hv⟩
 case own.own=>exact V51
 case sub.own=>obtain⟨r',h1,h2,h3⟩:=qa h;refine⟨r',h1,fun f hf B ρ ρ' w ok ok' v hρ hk hv=>?_,h3⟩;have e:=hf _ _ h2;have e':=(hρ _).trans (ur (ρ:=ρ) e);simp only[vrv]at e';simp only[RC,e']at hv⊢;obtain⟨A,n,c,g1,g2,g3⟩:=hv;rw[g1];exact⟨⟨_,_,_,rfl⟩,g2⟩
 case sub.sub=>exact V42
 case mpv.mpv=>exact V51
 case ptr.ptr=>exact V42
theorem V58{p:Prop}(h:p:=by
 refine⟨r2,h1.trans h4,fun f hf B ρ ρ' w ok ok' v hρ hk hv=>?_,h6⟩
 cases v with
 | nil=>exact hv.elim
 | cons v vs=>exact⟨h2 f (h4.trans hf) hρ hk hv.1,h5 f hf hρ hk hv.2⟩):p:=h
theorem As:∀{xs ys:List AC} {r:Ren} {K:Ren->Prop},JT r xs ys K->∃r',Ext r r'/\(∀f,Ext r' f->Jz f xs ys)/\K r'
 | [],[],r,K,h=>⟨r,.refl r,fun f _ B ρ ρ' w ok ok' v hρ hk hv=>by cases v<;>simp[RCs]at hv⊢,h⟩
 | x::xs,y::ys,r,K,h=>by
  obtain⟨r1,h1,h2,h3⟩:=Jq h;obtain⟨r2,h4,h5,h6⟩:=As h3
  exact V58
 | [],_::_,_,_,h=>h.elim
 | _::_,[],_,_,h=>h.elim
theorem Ih {r:Ren}{x y:AR}{K:Ren->Prop}(h:leR r x y K):∃r',Ext r r'/\(∀f,Ext r' f->Ny f x y)/\K r':=by
 cases x<;>cases y<;>simp only[leR]at h
 case c.c=>exact Jq h
 case agg.agg=>obtain⟨r1,h1,h2,h3⟩:=As h;exact⟨r1,h1,fun f hf B ρ ρ' w ok ok' v hρ hk hv=>let ⟨us,e,hu⟩:=hv;⟨us,e,h2 f hf hρ hk hu⟩,h3⟩
theorem FH:∀{xs ys:List AR} {r:Ren} {K:Ren->Prop},Nb r xs ys K->∃r',Ext r r'/\(∀f,Ext r' f->MY f xs ys)/\K r'
 | [],[],r,K,h=>⟨r,.refl r,fun f _ B ρ ρ' w ok ok' v hρ hk hv=>by cases v<;>simp[RRs]at hv⊢,h⟩
 | x::xs,y::ys,r,K,h=>by
  obtain⟨r1,h1,h2,h3⟩:=Ih h;obtain⟨r2,h4,h5,h6⟩:=FH h3
  exact V58
 | [],_::_,_,_,h=>h.elim
 | _::_,[],_,_,h=>h.elim
theorem Ne {r:Ren}{x y:AV}{K:Ren->Prop}(h:leV r x y K):∃r',Ext r r'/\(∀f,Ext r' f->LY f x y)/\K r':=by
 cases y with
 | unk=>exact⟨r,.refl r,fun f _ B ρ ρ' w ok ok' v hρ hk hv=>trivial,h⟩
 | r y=>
  cases x<;>simp only[leV]at h
  exact Ih h
 | tup ys=>
  cases x<;>simp only[leV]at h
  obtain⟨r1,h1,h2,h3⟩:=FH h
  exact⟨r1,h1,fun f hf B ρ ρ' w ok ok' v hρ hk hv=>let ⟨us,e,hu⟩:=hv;⟨us,e,h2 f hf hρ hk hu⟩,h3⟩
 | el o' sz i off=>
  cases x<;>simp only[leV]at h
  obtain⟨rfl,rfl,rfl,h⟩:=h;obtain⟨r',h1,h2,h3⟩:=qa h;refine⟨r',h1,fun f hf B ρ ρ' w ok ok' v hρ hk hv=>?_,h3⟩;have e:=hf _ _ h2;have e':=(hρ _).trans (ur (ρ:=ρ) e);simp only[vrv]at e';simp only[RV,e']at hv⊢
  exact hv
 | ro fr row off=>
  cases x<;>simp only[leV]at h
  obtain⟨rfl,rfl,rfl,h⟩:=h;refine⟨r,.refl r,fun f hf B ρ ρ' w ok ok' v hρ hk hv=>?_,h⟩;exact RV.keep (ρ:=ρ) (ρ':=ρ') (w:=w) (w':=w) (x:= .ro _ _ _) hv (fun b hb=>⟨rfl,hk b hb⟩) (by simp[AV.ids])
theorem FI {fr:List (Nat×AV)}:∀{l:List (Nat×AV)} {r:Ren} {K:Ren->Prop},MC fr l r K->∃r',Ext r r'/\(∀f,Ext r' f->∀t y,(t,y)∈l->LY f (dw fr t) y)/\K r'
 | [],r,K,h=>⟨r,.refl r,fun _ _ t y hm=>(by cases hm),h⟩
 |(t,y)::l,r,K,h=>by
  obtain⟨r1,h1,h2,h3⟩:=Ne h;obtain⟨r2,h4,h5,h6⟩:=FI h3;refine⟨r2,h1.trans h4,fun f hf t' y' hm=>?_,h6⟩;rcases d7.1 hm with he|hm
  ·injection he with e1 e2;subst e1;subst e2;exact fun hρ hk hv=>h2 f (h4.trans hf) hρ hk hv
  ·exact fun hρ hk hv=>h5 f hf t' y' hm hρ hk hv
def MG (m:Bool)(f:Ren)(h:List (Id×Option AO))(o':Id)(x:AO):Prop:=
 (iz f o'=some none/\((∃fr sz,x= .arr fr sz [])\/∃sz,x= .dar sz [] none))\/
 ∃o c y,iz f o'=some (some (o,c))/\co h o=some y/\
  (
   (c=none/\∃xs ys,y= .box xs/\x= .box ys/\Jz f xs ys)\/
   (∃fr sz rows fr' rows',y= .arr fr sz rows/\x= .arr fr' sz rows'/\leB m fr fr' rows'/\((c=none/\rows'=rows)\/∃k,c=some k/\k<=rows.length/\rows'=rows.take k))\/
   (∃sz rows rows',y= .dar sz rows none/\x= .dar sz rows' none/\((c=none/\rows'=rows)\/∃k,c=some k/\k<=rows.length/\rows'=rows.take k))\/
   (c=none/\∃fr sz rows,y= .arr fr sz rows/\flat rows/\x= .dar sz (aC rows) none)\/
   (c=none/\∃sz rows fr,y= .dar sz (aC rows) none/\x= .arr fr sz rows/\(fr=true->m=true))\/
   (c=none/\∃kk es,y= .mp kk es/\x= .mp kk es))
theorem EJ {h:List (Id×Option AO)}:∀{l:List (Id×Option AO)} {r:Ren} {K:Ren->Prop},leH m h l r K->∃r',Ext r r'/\(∀f,Ext r' f->∀o x,(o,some x)∈l->MG m f h o x)/\K r'
 | [],r,K,hh=>⟨r,.refl r,fun _ _ o x hm=>(by cases hm),hh⟩
 |(o',none)::l,r,K,hh=>by
  obtain⟨r1,h1,h2,h3⟩:=EJ (l:=l) hh;refine⟨r1,h1,fun f hf o x hm=>?_,h3⟩;rcases d7.1 hm with he|hm
  ·injection he with e1 e2;cases e2
  ·exact h2 f hf o x hm
 |(o',some z)::l,r,K,hh=>by
  have one:∀{r0:Ren},Ext r r0->leH m h l r0 K->(∀f,Ext r0 f->MG m f h o' z)->∃r',Ext r r'/\(∀f,Ext r' f->∀o x,(o,some x)∈(o',some z)::l->MG m f h o x)/\K r':=by
   intro r0 h0 hh hz;obtain⟨r1,h1,h2,h3⟩:=EJ (l:=l) hh;refine⟨r1,h0.trans h1,fun f hf o x hm=>?_,h3⟩;rcases d7.1 hm with he|hm
   ·injection he with e1 e2;injection e2 with e2;subst e1;subst e2;exact hz f (h1.trans hf)
   ·exact h2 f hf o x hm
  unfold leH at hh;split at hh
  ·rename_i hr;split at hh
   ·rename_i fr sz rows;obtain⟨rfl,hh⟩:=hh;exact one (.refl r) hh fun f hf=> .inl ⟨hf _ _ hr,.inl ⟨_,_,rfl⟩⟩
   ·rename_i sz rows;obtain⟨rfl,hh⟩:=hh;exact one (.refl r) hh fun f hf=> .inl ⟨hf _ _ hr,.inr ⟨_,rfl⟩⟩
   ·exact hh.elim
  ·rename_i o0 c hr;split at hh
   ·rename_i y hy;unfold leO at hh;split at hh
    ·rename_i fr sz rows fr' M3 rows'
     have key:sz=M3/\leB m fr fr' rows'/\((c=none/\rows'=rows)\/∃k,c=some k/\k<=rows.length/\rows'=rows.take k)/\leH m h l r K:=by
      cases c with
      | none=>obtain⟨a1,a2,a3,a4⟩:=(show _/\_/\_/\_ from hh);exact⟨a1,a3,.inl ⟨rfl,a2.symm⟩,a4⟩
      | some k=>obtain⟨a0,a1,a2,a3,a4⟩:=(show _/\_/\_/\_/\_ from hh);exact⟨a1,a3,.inr ⟨k,rfl,a0,a2.symm⟩,a4⟩
     obtain⟨rfl,k1,k2,hh⟩:=key;exact one (.refl r) hh fun f hf=> .inr ⟨o0,c,_,hf _ _ hr,hy,.inr (.inl ⟨fr,sz,rows,fr',rows',rfl,rfl,k1,k2⟩)⟩
    ·rename_i xs ys
     cases c with
     | some _=>exact hh.elim
     | none=>obtain⟨r1,h1,h2,h3⟩:=As (show JT r xs ys _ from hh);exact one h1 h3 fun f hf=> .inr ⟨o0,none,_,(h1.trans hf) _ _ hr,hy,.inl ⟨rfl,xs,ys,rfl,rfl,fun hρ hk hv=>h2 f hf hρ hk hv⟩⟩
    ·rename_i sz rows M3 rows'
     have key:sz=M3/\((c=none/\rows'=rows)\/∃k,c=some k/\k<=rows.length/\rows'=rows.take k)/\leH m h l r K:=by
      cases c with
      | none=>obtain⟨a1,a2,a4⟩:=(show _/\_/\_ from hh);exact⟨a1,.inl ⟨rfl,a2.symm⟩,a4⟩
      | some k=>obtain⟨a0,a1,a2,a4⟩:=(show _/\_/\_/\_ from hh);exact⟨a1,.inr ⟨k,rfl,a0,a2.symm⟩,a4⟩
     obtain⟨rfl,k2,hh⟩:=key;exact one (.refl r) hh fun f hf=> .inr ⟨o0,c,_,hf _ _ hr,hy,.inr (.inr (.inl ⟨sz,rows,rows',rfl,rfl,k2⟩))⟩
    ·rename_i fr sz rows M3 rows'
     cases c with
     | some _=>exact hh.elim
     | none=>obtain⟨rfl,a2,rfl,a4⟩:=(show _/\_/\_/\_ from hh);exact one (.refl r) a4 fun f hf=> .inr ⟨o0,none,_,hf _ _ hr,hy,.inr (.inr (.inr (.inl ⟨rfl,fr,sz,rows,rfl,a2,rfl⟩)))⟩
    ·rename_i sz rows fr' M3 rows'
     cases c with
     | some _=>exact hh.elim
     | none=>obtain⟨rfl,rfl,a3,a4⟩:=(show _/\_/\_/\_ from hh);exact one (.refl r) a4 fun f hf=> .inr ⟨o0,none,_,hf _ _ hr,hy,.inr (.inr (.inr (.inr (.inl ⟨rfl,sz,rows',fr',rfl,rfl,fun e=>by subst e;simpa using a3⟩))))⟩
    ·rename_i kk es WM Pl
     cases c with
     | some _=>exact hh.elim
     | none=>obtain⟨rfl,rfl,a4⟩:=(show _/\_/\_ from hh);exact one (.refl r) a4 fun f hf=> .inr ⟨o0,none,_,hf _ _ hr,hy,.inr (.inr (.inr (.inr (.inr ⟨rfl,kk,es,rfl,rfl⟩))))⟩
    ·exact hh.elim
   ·exact hh.elim
  ·exact hh.elim
theorem jU:∀{h:List (Id×Option AO)} {o:Id} {x:AO},co h o=some x->(o,some x)∈h
 | [],_,_,h=>by simp[co]at h
 |(i,y)::r,o,x,h=>by
  rw[co]at h
  cases hb:fE o i with
  | true=>rw[hb]at h;have:=idEq_iff.1 hb;subst this;simp only[cond_true]at h;rw[h];simp
  | false=>rw[hb]at h;exact y5 _ (jU h)
theorem iR:∀(fr:List (Nat×AV)) (t:Nat),dw fr t= .unk\/(t,dw fr t)∈fr
 | [],_=> .inl rfl
 |(i,y)::r,t=>by
  rw[dw]
  cases hb:Nat.beq t i with
  | true=>have:=t8 hb;subst this;right;simp
  | false=>exact(iR r t).imp id (y5 _)
theorem xO:∀{r:Ren} {o' o:Id} {c:Option Nat},iz r o'=some (some (o,c))->wH o r=true
 | [],_,_,_,h=>by simp[iz]at h
 |(i,x)::r,o',o,c,h=>by
  rw[iz]at h
  cases hb:fE o' i with
  | true=>
   rw[hb]at h;simp only[cond_true,Option.some.injEq]at h;subst h
   simp[wH,idEq_iff.2 rfl]
  | false=>
   rw[hb]at h;have:=xO (r:=r) h
   cases x<;>simp[wH,this]
theorem sN:∀{r:Ren} {o1 o2 o:Id} {c1 c2:Option Nat},wB r=true->iz r o1=some (some (o,c1))->iz r o2=some (some (o,c2))->o1=o2
 | [],_,_,_,_,_,_,h,_=>by simp[iz]at h
 |(i,x)::r,o1,o2,o,c1,c2,hr,h1,h2=>by
  rw[iz]at h1 h2
  have QN:wB r=true:=by
   cases x with
   | none=>exact hr
   | some p=>simp only[wB,c8]at hr;exact hr.2
  have M1:∀c,x=some (o,c)->wH o r=false:=fun c hx=>by
   subst hx;simp only[wB,c8,u7]at hr;exact hr.1
  cases OU:fE o1 i with
  | true=>
   rw[OU]at h1;simp only[cond_true,Option.some.injEq]at h1
   cases Oo:fE o2 i with
   | true=>exact(idEq_iff.1 OU).trans (idEq_iff.1 Oo).symm
   | false=>
    rw[Oo]at h2;have:=xO (r:=r) h2;rw[M1 c1 h1]at this
    cases this
  | false=>
   rw[OU]at h1
   cases Oo:fE o2 i with
   | true=>
    rw[Oo]at h2;simp only[cond_true,Option.some.injEq]at h2;have:=xO (r:=r) h1;rw[M1 c2 h2]at this
    cases this
   | false=>rw[Oo]at h2;exact sN QN h1 h2
theorem lu {u:List Nat}:∀{l:List Id},rW u l=true->∀o∈l,used u o.1=true
 | [],_,o,ho=>by cases ho
 | i::l,h,o,ho=>by
  simp only[rW,c8]at h;rcases d7.1 ho with rfl|ho
  ·exact h.1
  ·exact lu h.2 o ho
theorem zm {u:List Nat}:∀{l:List (Nat×AV)},zP u l=true->∀t v,(t,v)∈l->∀o∈v.ids,used u o.1=true
 | [],_,t,v,hm=>by cases hm
 |(i,x)::l,h,t,v,hm=>by
  simp only[zP,c8]at h;rcases d7.1 hm with he|hm
  ·injection he with e1 e2;subst e2;exact lu h.1
  ·exact zm h.2 t v hm
theorem rk {u:List Nat}:∀{l:List (Id×Option AO)},usedH u l=true->∀o x,(o,some x)∈l->used u o.1=true/\∀o'∈x.ids,used u o'.1=true
 | [],_,t,v,hm=>by cases hm
 |(i,none)::l,h,o,x,hm=>by
  rcases d7.1 hm with he|hm
  ·injection he with e1 e2;cases e2
  ·exact rk (l:=l) h o x hm
 |(i,some y)::l,h,o,x,hm=>by
  simp only[usedH,c8]at h;rcases d7.1 hm with he|hm
  ·injection he with e1 e2;injection e2 with e2;subst e1;subst e2;exact⟨h.1,lu h.2.1⟩
  ·exact rk h.2.2 o x hm
theorem RT.flat {w:World}{ok ok':Nat->Prop}{v:Value}{t:Tr}(h:RT w ok v t)(hf:∀sz rs,t≠.lst sz rs):RT w ok' v t:=by
 cases h with
 | int k n=>exact .int k n
 | bool b=>exact .bool b
 | str s=>exact .str s
 | emp _ _ sz=>exact absurd rfl (hf _ _)
 | lst=>exact absurd rfl (hf _ _)
theorem RTs.flat {w:World}{ok ok':Nat->Prop}:∀{vs:List Value} {ts:List Tr},RTs w ok vs ts->(∀t∈ts,∀sz rs,t≠.lst sz rs)->RTs w ok' vs ts
 | [],[],_,_=>trivial
 | _::_,_::_,h,hf=>⟨h.1.flat (hf _ s_),RTs.flat h.2 fun t ht=>hf t (by simp[ht])⟩
 | [],_::_,h,_=>h.elim
 | _::_,[],h,_=>h.elim
theorem mj {α:Type}{sz:Nat}:∀{rows:List (List α)} (k:Nat),(∀r∈rows,r.length=sz)->k<=rows.length->(rows.take k).flatten=rows.flatten.take (k*sz)
 | _,0,_,_=>s_
 | [],_+1,_,h=>by simp at h
 | r::rows,k+1,hu,h=>by
  have hr:=hu r s_;rw[q7,t6,t6,mj k (fun r hr=>hu r (by simp[hr])) (by simpa using h),I4,hr];rw[j5 (l:=r) (by rw[hr,o9];omega)];congr 2;rw[o9];omega
theorem Dw:∀{r:Ren} {o:Id} {x:Option (Id×Option Nat)},iz r o=some x->(o,x)∈r
 | [],_,_,h=>by simp[iz]at h
 |(i,y)::r,o,x,h=>by
  rw[iz]at h
  cases hb:fE o i with
  | true=>rw[hb]at h;have:=idEq_iff.1 hb;subst this;simp only[cond_true,Option.some.injEq]at h;subst h;simp
  | false=>rw[hb]at h;exact y5 _ (Dw h)
theorem RDs.take {ρ ρ':Rho}{w:World}{ok ok':Nat->Prop}{sz n:Nat}{Fp:Nat->Nat->Prop}{us:List Value}{cs:List DC}(h:RDs ρ w ok sz none Fp us cs)(hk:∀b,ok b->ok' b):RDs ρ' w ok' sz none Fp (us.take n) (cs.take n):=by
 refine⟨by rw[j9,j9,h.1],fun p v c hv hc=>?_⟩;rw[n6]at hv hc;split at hv
 ·rename_i hp;rw[b9 hp]at hc;have:=h.2 p v c hv hc;simp only[cz]at this⊢;exact this.keep (fun b hb=>⟨rfl,hk b hb⟩) fun b hb=>⟨rfl,hb⟩
 ·cases hv
theorem V88{p:Prop}(h:p:=by
 rw[F9,j9,y8 L3];congr 1
 exact(y8 (l6 _ L3)).symm):p:=h
theorem Leq.ok' (hM:m=true->(∀b,¬M b)/\∀o,w0.fx o=none)(hF:∀o v,w0.fx o=some v->o.1=0)(h:Leq m st J2)(hc:Conc N B M w0 ρ st.fs a w):∃ρ',Conc N B M w0 ρ' J2.fs a w/\
  (∀b,okB ρ st.fs.H w b->okB ρ' J2.fs.H w b)/\
  ∀(t:Nat) (v:Value) (ok ok':Nat->Prop),(∀b,ok b->ok' b)->RV B ρ w ok v (dw st.fr t)->RV B ρ' w ok' v (dw J2.fr t):=by
 obtain⟨hu,h⟩:=h;rw[c8,c8]at hu;obtain⟨hu,ZF⟩:=hu;obtain⟨r1,_,hL,h⟩:=FI h;obtain⟨f,h1,hH,ZA⟩:=EJ h;rw[c8]at ZA;obtain⟨hr,hP⟩:=ZA;have hL:=hL f h1;have hH:=hH f (.refl f)
 let ρ':Rho:=⟨vr ρ f,fun o c=>(∃sz rows hole,J2.fs.H o=some (.dar sz rows hole))/\∃q k,iz f o=some (some (q,k))/\ρ.fp q c,ρ.al⟩
 have hρ:∀o,ρ' o=vr ρ f o:=fun _=>rfl;have Pq:∀{o:Id} {x:Option (Id×Option Nat)},iz f o=some x->ρ' o=vrv ρ x:=fun e=>ur e;refine⟨ρ',?_⟩
 have old:∀o x b,J2.fs.H o=some x->Own ρ' o b->∃q y c,iz f o=some (some (q,c))/\st.fs.H q=some y/\Own ρ q b:=by
  intro o x b ho hb;rcases hH o x (jU ho)with⟨g1,_⟩|⟨q,c,y,g1,g2,_⟩
  ·rcases hb with hb|⟨_,q,k,e,_⟩
   ·rw[Pq g1]at hb;simp[vrv,blk]at hb
   ·rw[g1]at e;cases e
  ·refine⟨q,y,c,g1,g2,?_⟩;rcases hb with hb|⟨_,q',k,e,hf⟩
   ·left;rw[Pq g1]at hb
    cases c with
    | none=>exact hb
    | some k=>
     simp only[vrv]at hb;split at hb
     ·rename_i A n cc e;rw[e]
      cases A<;>exact hb
     ·exact hb
   ·rw[g1]at e;injection e with e;injection e with e;injection e with e1 e2;subst e1;exact .inr hf
 have hk:∀b,okB ρ st.fs.H w b->okB ρ' J2.fs.H w b:=by intro b hb;refine⟨hb.1,fun o x ho he=>?_⟩;obtain⟨q,y,_,_,g2,g3⟩:=old o x b ho he;exact hb.2 q y g2 g3
 refine⟨?_,hk,fun t v ok ok' J5 hv=>?_⟩
 rotate_left
 ·rcases iR J2.fr t with e|hm
  ·rw[e];trivial
  ·exact hL t _ hm hρ J5 hv
 refine⟨hc.size,hc.defers,fun t=>?_,fun o x ho=>?_,fun o o' x x' b ho L9 K0 he N5=>?_,fun o x b ho he=>?_,hc.keep,hc.base,hc.alw,hc.cst,fun o v hv=>?_,fun t o ho=>?_,fun o x ho=>?_⟩
 ·rcases iR J2.fr t with e|hm
  ·show RV _ _ _ _ _ (dw J2.fr t);rw[e];trivial
  ·exact hL t _ hm hρ hk (hc.slot t)
 ·rcases hH o x (jU ho)with⟨g1,⟨fr,sz,rfl⟩|⟨sz,rfl⟩⟩|⟨q,c,y,g1,g2,g3⟩
  ·exact⟨fun r hr=>(by cases hr),.inl ⟨Pq g1,rfl⟩⟩
  ·exact⟨fun r hr=>(by cases hr),.inl ⟨Pq g1,rfl,rfl⟩⟩
  ·have Oj:=hc.obj q y g2;have L4:=Pq g1;rcases g3 with⟨rfl,xs,ys,rfl,rfl,g4⟩|⟨fr,sz,rows,fr',rows',rfl,rfl,g4,g5⟩|⟨sz,rows,rows',rfl,rfl,g5⟩|⟨rfl,fr,sz,rows,rfl,L8,rfl⟩|⟨rfl,sz,rows,fr,rfl,rfl,PJ⟩|⟨rfl,kk,es,rfl,rfl⟩
   ·obtain⟨b,cur,t,fz,k1,k2,k3,k4⟩:=Oj;exact⟨b,cur,t,fz,by rw[L4];exact k1,k2,k3,g4 hρ hk k4⟩
   ·obtain⟨S6,Oj⟩:=Oj
    have N4:∀r∈rows',r∈rows:=by
     rcases g5 with⟨_,rfl⟩|⟨k,_,_,rfl⟩
     ·exact fun r h=>h
     ·exact fun r h=>u3 h
    refine⟨fun r hr=>S6 r (N4 r hr),?_⟩;rcases Oj with⟨k1,k2⟩|⟨b,cap,cur,e,fz,k1,k2,k3,k4,k5,k6,k7,k8⟩
    ·subst k2;left;rcases g5 with⟨rfl,rfl⟩|⟨k,rfl,L3,rfl⟩
     ·exact⟨by rw[L4];exact k1,rfl⟩
     ·simp only[gt,Nat.le_zero]at L3;subst L3;exact⟨by rw[L4];simp only[vrv,k1],s_⟩
    ·right;have hB:m=true->B<=b:=fun hm=>((hc.rng q _ b g2 (.inl (by rw[k1];rfl))).2).resolve_right ((hM hm).1 b)
     have tup:∀{l:List Value},RTs w (okF B (okB ρ st.fs.H w) fr) l rows'.flatten->RTs w (okF B (okB ρ' J2.fs.H w) fr') l rows'.flatten:=by
      intro l hl
      cases fr' with
      | false=>exact hl.keep fun b hb=>⟨rfl,hk b hb.1,fun e=>by cases e⟩
      | true=>
       cases fr with
       | true=>exact hl.keep fun b hb=>⟨rfl,hk b hb.1,hb.2⟩
       | false=>refine hl.flat fun t ht=>?_;obtain⟨row,h1,h2⟩:=G4.1 ht;exact g4.2 row h1 t h2
     have PJ:fr'=true->B<=b:=by
      intro e;subst e
      cases fr with
      | true=>exact k8 rfl
      | false=>exact hB g4.1
     rcases g5 with⟨rfl,rfl⟩|⟨k,rfl,L3,rfl⟩
     ·exact⟨b,cap,cur,e,fz,by rw[L4];exact k1,k2,k3,k4,k5,k6,tup k7,PJ⟩
     ·refine⟨b,cap,cur,e,fz,?_,k2,k3,?_,k5,k6,tup ?_,PJ⟩
      ·rw[L4];simp only[vrv,k1,j9,y8 L3]
      ·simp only[j9];omega
      ·rw[mj k S6 L3]
       have:cur.toList.take ((rows.take k).length*sz)=(cur.toList.take (rows.length*sz)).take (k*sz):=by exact V88
       rw[this];exact k7.take _
   ·obtain⟨S6,Oj⟩:=Oj
    have N4:∀r∈rows',r∈rows:=by
     rcases g5 with⟨_,rfl⟩|⟨k,_,_,rfl⟩
     ·exact fun r h=>h
     ·exact fun r h=>u3 h
    refine⟨fun r hr=>S6 r (N4 r hr),?_⟩;rcases Oj with⟨k1,k2,_⟩|⟨b,cap,cur,e,fz,Fp,k1,k2,k3,k4,k5,k6,k7,k8,k9⟩
    ·subst k2;left;rcases g5 with⟨rfl,rfl⟩|⟨k,rfl,L3,rfl⟩
     ·exact⟨by rw[L4];exact k1,rfl,rfl⟩
     ·simp only[gt,Nat.le_zero]at L3;subst L3;exact⟨by rw[L4];simp only[vrv,k1],s_,rfl⟩
    ·right;have PA:∀p d,Fp p d->ρ'.fp o d/\d≠b:=fun p d hd=>⟨⟨⟨_,_,_,ho⟩,q,c,g1,(k7 p d hd).1⟩,(k7 p d hd).2⟩;rcases g5 with⟨rfl,rfl⟩|⟨k,rfl,L3,rfl⟩
     ·exact⟨b,cap,cur,e,fz,Fp,by rw[L4];exact k1,k2,k3,k4,k5,k6,PA,k8,k9.keep (fun c J6=>⟨rfl,hk c J6⟩) (fun p c J6=>⟨rfl,J6⟩) fun _ _ _ e=>by cases e⟩
     ·refine⟨b,cap,cur,e,fz,Fp,?_,k2,k3,?_,k5,k6,PA,k8,?_⟩
      ·rw[L4];simp only[vrv,k1,j9,y8 L3]
      ·simp only[j9];omega
      ·rw[mj k S6 L3]
       have:cur.toList.take ((rows.take k).length*sz)=(cur.toList.take (rows.length*sz)).take (k*sz):=by exact V88
       rw[this];exact k9.take hk
   ·exact(Ed hc g2 L8).toDar L4 fun d hd K0=>hd.elim (fun e=>absurd e K0) fun hd=>⟨⟨_,_,_,ho⟩,q,none,g1,hd⟩
   ·obtain⟨S6,Oj⟩:=Oj;refine⟨fun r hr=>?_,?_⟩
    ·have:=S6 (r.map .d) (p6.2 ⟨r,hr,rfl⟩);simpa using this
    have J0:(aC rows).length=rows.length:=by simp[aC]
    rcases Oj with⟨k1,k2,_⟩|⟨b,cap,cur,e,fz,Fp,k1,k2,k3,k4,k5,k6,k7,k8,k9⟩
    ·left;exact⟨by rw[L4];exact k1,by simpa [aC]using k2⟩
    ·right;rw[J0]at k1 k4 k9;rw[mv]at k9;have U3:∀d,Own ρ q d->fr=true->B<=d:=fun d hd e=>((hc.rng q _ d g2 hd).2).resolve_right ((hM (PJ e)).1 d);have hb:Own ρ q b:= .inl (by rw[k1];rfl)
     have hin:∀p d,Fp p d->okF B (okB ρ' J2.fs.H w) fr d:=fun p d hd=>by
      obtain⟨VE,Xh⟩:=k7 p d hd;have Ou:=hc.rng q _ d g2 (.inr VE);refine⟨⟨⟨Ou.1,hc.alw d Ou.2⟩,fun o2 x2 Ut PX=>?_⟩,U3 d (.inr VE)⟩;obtain⟨q2,y2,c2,e1,e2,e3⟩:=old o2 x2 d Ut PX;by_cases e:q2=q
      ·subst e;have:=sN hr e1 g1;subst this;rcases PX with PX|⟨⟨_,_,_,PX⟩,_⟩
       ·rw[L4]at PX;simp only[vrv,k1,blk]at PX;injection PX with PX;exact Xh PX.symm
       ·rw[ho]at PX;injection PX with PX;cases PX
      ·exact hc.sep q2 q y2 _ d e2 g2 e e3 (.inr VE)
     refine⟨b,cap,cur,e,fz,by rw[L4];exact k1,k2,k3,k4,k5,k6,RTs.of (by rw[k9.1,e8]) fun p v t hv ht=>?_,U3 b hb⟩;have:=k9.2 p v (.d t) hv (by rw[l9,ht];rfl);simp only[cz]at this;exact DT.toRT this (hin p)
   ·obtain⟨b,ents,clock,k1,k2,k3⟩:=Oj;exact⟨b,ents,clock,by rw[L4];exact k1,k2,k3⟩
 ·obtain⟨q,y,c,g1,g2,g3⟩:=old o x b ho he;obtain⟨q',y',c',g4,g5,g6⟩:=old o' x' b L9 N5;by_cases e:q=q'
  ·subst e;exact K0 (sN hr g1 g4)
  ·exact hc.sep q q' y y' b g2 g5 e g3 g6
 ·obtain⟨q,y,c,g1,g2,g3⟩:=old o x b ho he;exact hc.rng q y b g2 g3
 ·cases m with
  | true=>rw[(hM rfl).2 o]at hv;cases hv
  | false=>
   have h0:=hF o v hv;simp only[B3]at hP ZF;refine⟨?_,by show used J2.u o.1=true;rw[h0];exact ZF⟩;have e:=(hc.fix o v hv).1;rw[hρ];unfold vr
   cases hg:iz f o with
   | none=>exact e
   | some x=>
    have:=n7.1 hP _ (Dw hg);simp only[h0,Nat.beq_refl,Bool.not_true,B3]at this;split at this
    ·rename_i o1;rw[idEq_iff]at this;subst this;exact e
    ·cases this
 ·rcases iR J2.fr t with e|hm
  ·simp only[St.fs]at ho;rw[e]at ho;simp[AV.ids]at ho
  ·exact zm hu.1 t _ hm o ho
 ·exact rk hu.2 o x (jU ho)
theorem Leq.ok (hM:m=true->(∀b,¬M b)/\∀o,w0.fx o=none)(hF:∀o v,w0.fx o=some v->o.1=0)(h:Leq m st J2)(hc:Conc N B M w0 ρ st.fs a w):∃ρ',Conc N B M w0 ρ' J2.fs a w:=
 let ⟨ρ',h,_⟩:=h.ok' hM hF hc
 ⟨ρ',h⟩
theorem kQ:∀(l:List Id) (st:St) (K:St->Prop) (ρ:Rho),jc l st K->Conc N B M w0 ρ st.fs a w->(∀o∈l,True)->∃st1 ρ1,K st1/\Conc N B M w0 ρ1 st1.fs a w/\st1.fr=st.fr
 | [],st,K,ρ,h,hc,_=>⟨st,ρ,h,hc,rfl⟩
 | o::l,st,K,ρ,h,hc,_=>by
  obtain⟨H',us,R,h1,h2⟩:=pf h;rw[sA]at h1;obtain⟨⟨ρ1,Pu⟩,_⟩:=h2 hc fun _ _=>rfl;have QV:(⟨st.fs.L,bW st.fs.H us,st.fs.U⟩:F_)=(⟨st.fr,tT us st.h,st.u⟩:St).fs:=F_.ext' (fun _=>rfl) (fun o=>(oh us st.h o).symm) fun _=>Iff.rfl;rw[QV]at Pu;obtain⟨st1,ρ2,g1,g2,g3⟩:=kQ l _ K ρ1 h1 Pu fun _ _=>trivial;exact⟨st1,ρ2,g1,g2,g3⟩
theorem LeqG.ok (hM:m=true->(∀b,¬M b)/\∀o,w0.fx o=none)(hF:∀o v,w0.fx o=some v->o.1=0)(h:LeqG m st J2)(hc:Conc N B M w0 ρ st.fs a w):∃ρ',Conc N B M w0 ρ' J2.fs a w:=by obtain⟨st1,ρ1,g1,g2,_⟩:=kQ _ st _ ρ h hc fun _ _=>trivial;exact g1.ok hM hF g2
theorem vj {st:St}{c:Operand}{b:Bool}(h:evL (dw st.fr) c=tB b):(yk st c b).fs=st.fs:=by
 unfold yk;split
 ·exact vA h
 ·rfl
theorem V14{p:Prop}(h:p:=by
 cases e with
 | normal=>exact hQ .normal _ _ _ _ hK J6
 | ret=>exact hQ .ret _ _ _ _ hK J6
 | pan v=>exact hQ (.pan v) _ _ _ _ hK J6
 | exit id'=>
  show if id'=id then _ else _
  by_cases he:id'=id
  ·rw[b9 he];subst he;simp only[Nat.beq_refl]at hK;exact hQ .normal _ _ _ _ hK J6
  ·rw[b8 he];have:Nat.beq id' id=false:=by cases hb:Nat.beq id' id with|false=>rfl|true=>exact absurd (t8 hb) he
   simp only[this]at hK
   exact hQ (.exit id') _ _ _ _ hK J6):p:=h
theorem V1{p:Prop}(h:p:=by
 obtain⟨ι,S,μ,i0,h0,hS⟩:=h;obtain⟨ρ0,P3⟩:=h0.ok hM hF hc
 have key:∀n i (ρ:Rho) (a:Act) (w:World),μ i<=n->Conc N B M w0 ρ (S i).fs a w->∀(b:Frame) (k:List Item) (cs:List Frame),
   ∃e a' w',Q e a' w'/\Arrives P (lone (b.at a (.code c:: .inLoop c::k)) cs w) b k cs e a' w':=by
  intro n
  induction n with
  | zero=>
   intro i ρ a w hi hc b k cs
   obtain⟨e,a1,w1,hq,O3⟩:=ih _ (S i) ρ a w (fun e a' w'=>match e with|.normal=>False|e=>Q e a' w') (hS i) hc (fun e J2 ρ' a' w' hK J6=>by
    cases e with
    | normal=>obtain⟨j,_,hj⟩:=hK;exact absurd hj o_
    | exit id=>exact hQ (.exit id) _ _ _ _ hK J6
    | pan v=>exact hQ (.pan v) _ _ _ _ hK J6
    | ret=>exact hQ .ret _ _ _ _ hK J6) b (.inLoop c::k) cs
   cases e with
   | normal=>exact hq.elim
   | exit id=>exact⟨_,a1,w1,hq,.pass (x:= .inLoop c) rfl (fun _ _=> .inl s_) O3⟩
   | goto l=>exact⟨_,a1,w1,hq,.pass (x:= .inLoop c) rfl (fun _ _=> .inl s_) O3⟩
   | ret=>exact⟨_,a1,w1,hq,.pass (x:= .inLoop c) rfl (fun _ _=> .inl s_) O3⟩
   | panic ch=>exact⟨_,a1,w1,hq,.pass (x:= .inLoop c) rfl (fun _ _=> .inl s_) O3⟩
   | outgrown=>exact⟨_,a1,w1,hq,.pass (x:= .inLoop c) rfl (fun _ _=> .inl s_) O3⟩
  | succ n ihn=>
   intro i ρ a w hi hc b k cs
   obtain⟨e,a1,w1,hq,O3⟩:=ih _ (S i) ρ a w (fun e a' w'=>match e with|.normal=>∃j ρ',μ j<=n/\Conc N B M w0 ρ' (S j).fs a' w'|e=>Q e a' w') (hS i) hc (fun e J2 ρ' a' w' hK J6=>by
    cases e with
    | normal=>obtain⟨j,WA,QE⟩:=hK;obtain⟨ρ'',RB⟩:=WA.ok hM hF J6;exact⟨j,ρ'',o_,RB⟩
    | exit id=>exact hQ (.exit id) _ _ _ _ hK J6
    | pan v=>exact hQ (.pan v) _ _ _ _ hK J6
    | ret=>exact hQ .ret _ _ _ _ hK J6) b (.inLoop c::k) cs
   cases e with
   | normal=>
    obtain⟨j,ρ',hj,J6⟩:=hq;obtain⟨e2,a2,w2,T9,VC⟩:=ihn j ρ' a1 w1 hj J6 b k cs
    exact⟨e2,a2,w2,T9,.of_steps (Steps.trans O3 (.one step_inLoop)) VC⟩
   | exit id=>exact⟨_,a1,w1,hq,.pass (x:= .inLoop c) rfl (fun _ _=> .inl s_) O3⟩
   | goto l=>exact⟨_,a1,w1,hq,.pass (x:= .inLoop c) rfl (fun _ _=> .inl s_) O3⟩
   | ret=>exact⟨_,a1,w1,hq,.pass (x:= .inLoop c) rfl (fun _ _=> .inl s_) O3⟩
   | panic ch=>exact⟨_,a1,w1,hq,.pass (x:= .inLoop c) rfl (fun _ _=> .inl s_) O3⟩
   | outgrown=>exact⟨_,a1,w1,hq,.pass (x:= .inLoop c) rfl (fun _ _=> .inl s_) O3⟩
 intro b k cs;obtain⟨e,a',w',hq,O3⟩:=key (μ i0) i0 ρ0 a w (d6 _) P3 b k cs
 exact⟨e,a',w',hq,.of_steps (.one step_loop) O3⟩):p:=h
theorem MK (hΓ:Γ.chk P=true)(aK:P.follows .mixedOrders=true)(hM:m=true->(∀b,¬M b)/\∀o,w0.fx o=none)(hF:∀o v,w0.fx o=some v->o.1=0):
  ∀(c:Code) (K:Out->St->Prop) (st:St) (ρ:Rho) (a:Act) (w:World) (Q:Exit->Act->World->Prop),W m P Γ N c K st->Conc N B M w0 ρ st.fs a w->
   (∀e J2 ρ' a' w',K e J2->Conc N B M w0 ρ' J2.fs a' w'->Q e.at a' w')->c.wp P Q a w:=by
 intro c
 induction c with
 | skip=>intro K st ρ a w Q h hc hQ;exact wp_skip (hQ .normal _ _ _ _ h hc)
 | label l=>intro K st ρ a w Q h hc hQ;exact wp_label (hQ .normal _ _ _ _ h hc)
 | exit id=>intro K st ρ a w Q h hc hQ;exact wp_exit (hQ (.exit id) _ _ _ _ h hc)
 | ret=>intro K st ρ a w Q h hc hQ;exact wp_ret (hQ .ret _ _ _ _ h hc)
 | goto l=>intro K st ρ a w Q h;exact h.elim
 | refuse y=>intro K st ρ a w Q h;exact h.elim
 | scope b _=>intro K st ρ a w Q h;exact h.elim
 | rangeFunc f ps x y _ _=>intro K st ρ a w Q h;exact h.elim
 | region id ops draw=>
  intro K st ρ a w Q h hc hQ
  cases draw with
  | false=>
   obtain⟨es,J2,h1,h2,h3,h4⟩:=vf hΓ ops.toList st [] _ h;refine wp_region_list ?_;have:=sw (P:=P) (N:=N) (ops:=ops.toList) (B:=B) (M:=M) (w0:=w0) (Q:=Q) ops.toList es st.fs ρ a w h2 hc fun ρ' a' w' J6=>hQ .normal J2 ρ' a' w' h4 (by rw[h3];exact J6)
   simpa using this
  | true=>
   have OW:∀i o,ops.toList[i]?=some o->(Array.replicate ops.size false).getD i true=true->∀j∈cR o,(Array.replicate ops.size false).getD j true=true:=fun i o ho hl=>by
    have hi:i<ops.size:=by
     rcases m6 i ops.size with h'|h'
     ·exact h'
     ·rw[d8 (by simpa using h')]at ho;cases ho
    simp[s7,hi]at hl
   have J6:∀es:List (Bool×Eff),Conc N B M w0 ρ (sel st.fs ops.toList es (fun i=>(Array.replicate ops.size false).getD i true) 0) a {w with drawn:=w.drawn+1}:=by
    intro es
    rw[nD _ _ _ _ _ fun i _ hi=>by
     have:i<ops.size:=by simpa using hi
     simp[s7,this]]
    exact hc.step (fun _=>False) [] (Turn.drew _ w) hc.size hc.defers (fun _ _=>rfl) (fun _ _ _ _=>rfl) rfl (fun _ _=>rfl) (fun _ h=>h) (fun _ _ h=>h) (fun _ _ _ _ _ _ h=>h) (fun _ _ _ h=>h)
     (fun o x b h=>by cases h) (fun o o' x x' b h=>by cases h) (fun _ o x h=>by cases h) (fun _ t=> .inl ⟨rfl,rfl⟩)
   refine wp_region_any aK ?_;rcases h with h|⟨xi,xj,h⟩
   ·obtain⟨es,J2,h1,h2,h3,h4,h5⟩:=vf hΓ ops.toList st [] _ h;simp only[m9,List.reverse_reverse]at h4
    have:=GX (P:=P) (N:=N) (ops:=ops.toList) (B:=B) (M:=M) (w0:=w0) (Q:=Q) st.fs es h1 h2 h4 (fun ρ' a' w' J6=>hQ .normal J2 ρ' a' w' h5 (by rw[h3];exact J6))
     ops.size (Array.replicate ops.size false) ρ a _ s_ s_ OW (J6 es)
    simpa using this
   ·obtain⟨es,J2,h1,h2,J3,h4,⟨oi,oj,bj,ei,ej,g1,g2,g3,g4,g5⟩,h3,h5⟩:=Kr hΓ h
    have:=EC (P:=P) (N:=N) (ops:=ops.toList) (B:=B) (M:=M) (w0:=w0) (Q:=Q) st.fs es h1 h2 J3 h4 g1 g2 g3 g4 g5 (fun ρ' a' w' J6=>hQ .normal J2 ρ' a' w' h5 (by rw[h3];exact J6))
     ops.size (Array.replicate ops.size false) ρ a _ s_ s_ OW (J6 es)
    simpa using this
 | seq x y ihx ihy=>
  intro K st ρ a w Q h hc hQ;rcases h with h|⟨ι,S,h,h2⟩
  ·refine wp_seq (ihx _ st ρ a w _ h hc fun e J2 ρ' a' w' hK J6=>?_)
   cases e with
   | normal=>exact ihy K J2 ρ' a' w' Q hK J6 hQ
   | exit id=>exact hQ (.exit id) _ _ _ _ hK J6
   | pan v=>exact hQ (.pan v) _ _ _ _ hK J6
   | ret=>exact hQ .ret _ _ _ _ hK J6
  ·refine wp_seq (ihx _ st ρ a w _ h hc fun e J2 ρ' a' w' hK J6=>?_)
   cases e with
   | normal=>obtain⟨i,hi⟩:=hK;obtain⟨ρ'',RB⟩:=hi.ok hM hF J6;exact ihy K (S i) ρ'' a' w' Q (h2 i) RB hQ
   | exit id=>exact hQ (.exit id) _ _ _ _ hK J6
   | pan v=>exact hQ (.pan v) _ _ _ _ hK J6
   | ret=>exact hQ .ret _ _ _ _ hK J6
 | cond c x y ihx ihy=>
  intro K st ρ a w Q h hc hQ;rw[W]at h;split at h
  ·rename_i b hb;have hv:=(hc.eval c).1;rw[show evL st.fs.L c=tB b from hb]at hv;refine wp_cond (fH hv) ?_
   cases b with
   | true=>exact ihx K _ ρ a w Q h (by rw[vj hb];exact hc) hQ
   | false=>exact ihy K _ ρ a w Q h (by rw[vj hb];exact hc) hQ
  ·exact h.elim
 | block id c ih=>
  intro K st ρ a w Q h hc hQ;refine wp_block (ih _ st ρ a w _ h hc fun e J2 ρ' a' w' hK J6=>?_)
  exact V14
 | loop c ih=>intro K st ρ a w Q h hc hQ;exact V1
end
def TV.av:TV->AV
 | .c x=> .r (.c (.t x))
 | .agg xs=> .r (.agg (xs.map .t))
def wh:Nat->List TV->List (Nat×AV)
 | _,[]=>[]
 | i,t::ts=>(i,t.av)::wh (i+1) ts
def st0 (ts:List TV):St:=⟨wh 0 ts,[],[]⟩
def DX:AC->Prop
 | .t x=>(match x with
   | .lst _ _=>False
   | _=>True)
 | _=>True
def AL:List AC->Prop
 | []=>True
 | c::cs=>DX c/\AL cs
def Bb:AR->Prop
 | .c x=>DX x
 | .agg cs=>AL cs
def vk:List AR->Prop
 | []=>True
 | c::cs=>Bb c/\vk cs
def qU:List (Id×AO)->Bool
 | []=>true
 |(o,_)::l=>!(l.any fun p=>fE o p.1)&&qU l
def LC (Γ:Env)(st:St):ResultVar->Option AR
 | .tmp t=>(match dw st.fr t with
   | .r x=>some x
   | _=>none)
 | .cell a T=>(match dw st.fr a,Γ.get T with
   | .r (.c (.ptr o 0)),some ti=>(match co st.h o with
    | some (.box cells)=>(match ti.agg,Nat.beq cells.length ti.size,cells with
      | true,true,cs=>some (.agg cs)
      | false,true,[c]=>some (.c c)
      | _,_,_=>none)
    | _=>none)
   | _,_=>none)
def zx (Γ:Env)(st:St):List ResultVar->Option (List AR)
 | []=>some []
 | rv::rvs=>(match LC Γ st rv,zx Γ st rvs with
   | some x,some xs=>some (x::xs)
   | _,_=>none)
def gG (v:AV)(st:St)(r:Res):Prop:=qU (r.os 0)=true/\Leq true ⟨[(0,v)],st.h,st.u⟩ ⟨[(0,r.av 0)],r.us 0,[0]⟩
def MA (Γ:Env)(rvs:List ResultVar)(r:Res)(st:St):Prop:=
 match zx Γ st rvs with
 | some [x]=>Bb x/\gG (.r x) st r
 | some xs=>vk xs/\gG (.tup xs) st r
 | none=>False
def fin (Γ:Env)(rvs:List ResultVar)(st:St)(r:Res):Prop:=jc (jr st.h []) st (MA Γ rvs r)
def Mh (Γ:Env)(rvs:List ResultVar)(r:Res):Out->St->Prop
 | .exit _,_=>False
 | .pan _,_=>False
 | _,st=>fin Γ rvs st r
def DR (Γ:Env)(rvs:List ResultVar)(r:AV)(h1:List (Id×AO))(st:St):Prop:=
 match zx Γ st rvs with
 | some [x]=>Leq false ⟨[(0,.r x)],st.h,st.u⟩ ⟨[(0,r)],h1.map (fun p=>(p.1,some p.2)),[1,0]⟩
 | some xs=>Leq false ⟨[(0,.tup xs)],st.h,st.u⟩ ⟨[(0,r)],h1.map (fun p=>(p.1,some p.2)),[1,0]⟩
 | none=>False
def Mi (Γ:Env)(rvs:List ResultVar)(r:AV)(h1:List (Id×AO)):Out->St->Prop
 | .exit _,_=>False
 | .pan _,_=>False
 | _,st=>jc (jr st.h []) st (DR Γ rvs r h1)
structure Obl (p:Prop):Prop where
 out:p
theorem EF {P:Program}{f:FuncId}{H:Id->Option AO}{xs:List AV}{ts:List TV}{r:Res}{K:List TV->Res->Prop}(h:Sim.Spec P f ts r)(h1:eJ H xs ts)(h2:K ts r):∃ts r,eJ H xs ts/\Sim.Spec P f ts r/\K ts r:=
 ⟨ts,r,h1,h,h2⟩
theorem CQ {P:Program}{f:FuncId}{nm:Nat}{args:List AV}{H:Id->Option AO}{K:Eff->Prop}{X:Prop}{xs:List AV}{h0:List (Id×AO)}{r:AV}{h1:List (Id×AO)}(h:bf P f xs h0 r h1)
  (h2:IG H [] [] args xs fun θ bw=>maO H θ bw h0 fun θ bw=>(okI θ bw h0&&okJ h0 r h1&&(bw.isEmpty||(IA r&&wm h1)))=true/\K ⟨r.re θ nm,usG θ nm h1,some nm,(θ.map (·.2))++(bw++args.flatMap AV.ids)⟩):X\/JC P f nm args H K:=
 .inr ⟨xs,h0,r,h1,h,h2⟩
theorem ai {p q:Prop}(h:p)(k:q):p/\q:=And.intro h k
theorem oi {p q:Prop}(h:Obl p)(k:q):p/\q:=And.intro h.out k
theorem fi {b:Bool}{X Y:Prop}(h1:b=true->X)(h2:b=false->Y):ifB b X Y:=HG h1 h2
theorem ci {P:Program}{f:FuncId}{H:Id->Option AO}{xs:List AV}{ts:List TV}{r:Res}{K:List TV->Res->Prop}(h:Sim.Spec P f ts r)(h1:eJ H xs ts)(h2:K ts r):∃ts r,eJ H xs ts/\Sim.Spec P f ts r/\K ts r:=EF h h1 h2
theorem cl {P:Program}{f:FuncId}{H:Id->Option AO}{xs:List AV}{ts:List TV}{r:Res}{K:List TV->Res->Prop}{X:Prop}(h:Sim.Spec P f ts r)(h2:K ts r)(h1:eJ H xs ts:=by first|((repeat' (first|exact trivial|refine And.intro ?_ ?_|exact rfl));done)|fail):(∃ts r,eJ H xs ts/\Sim.Spec P f ts r/\K ts r)\/X:= .inl ⟨ts,r,h1,h,h2⟩
theorem cg {P:Program}{f:FuncId}{nm:Nat}{args:List AV}{H:Id->Option AO}{K:Eff->Prop}{X:Prop}{xs:List AV}{h0:List (Id×AO)}{r:AV}{h1:List (Id×AO)}(h:bf P f xs h0 r h1)
  (h2:IG H [] [] args xs fun θ bw=>maO H θ bw h0 fun θ bw=>(okI θ bw h0&&okJ h0 r h1&&(bw.isEmpty||(IA r&&wm h1)))=true/\K ⟨r.re θ nm,usG θ nm h1,some nm,(θ.map (·.2))++(bw++args.flatMap AV.ids)⟩):X\/JC P f nm args H K:=CQ h h2
theorem Wm {α:Type}{p:α->Prop}{a:α}{l:List α}(h:p a)(t:∀x∈l,p x):∀x∈a::l,p x:=List.forall_mem_cons.2 ⟨h,t⟩
theorem KO {p:Prop}(h:p:=by first|((with_reducible show tw _ _=true);kernel_rfl)|((with_reducible show vZ _ _=true);kernel_rfl)|rfl|exact trivial|((repeat' (first|exact trivial|refine And.intro ?_ ?_));done)|decide|((repeat' (first|exact H0 _|refine Wm rfl ?_));done)|(refine And.intro ?_ ?_<;>simp only[e8,c7,d5,gt]<;>omega)|fail):p:=h
theorem KP {p:Prop}(h:p:=by first|((with_reducible show tw _ _=true);kernel_rfl)|((with_reducible show vZ _ _=true);kernel_rfl)|rfl|exact trivial|((repeat' (first|exact trivial|refine And.intro ?_ ?_));done)|decide|((repeat' (first|exact H0 _|refine Wm rfl ?_));done)|fail):p:=h
theorem KR {p:Prop}(h:p:=by first|((with_reducible show tw _ _=true);kernel_rfl)|((with_reducible show lL _ _ _ _=true);kernel_rfl)|((with_reducible show Kz _ _ _ _ _ _);(conv=>whnf);rfl)|rfl|exact trivial|((repeat' (first|exact trivial|refine And.intro ?_ ?_));done)|decide|((repeat' (first|exact H0 _|refine Wm rfl ?_));done)|fail):p:=h
theorem KW {k:IntKind}{a b:Int}(h:a=b:=by first|rfl|(simp(disch:=omega)only[c9];done)|((try simp(disch:=omega)only[c9]);omega)):Tr.int k a=Tr.int k b:=congrArg (Tr.int k) h
theorem KX {p:Prop}(h:False:=by simp only[p8,i7]at *;omega):p:=h.elim
theorem KK {p:Prop}(h:False:=by simp only[w8,z8,ne_eq,i7,p8]at *;omega):p:=h.elim
section
variable {P:Program} {Γ:Env} {N B:Nat} {M:Nat->Prop} {w0:Start} {w:World} {ρ:Rho} {st J2:St} {a:Act}
theorem yG {ok:Nat->Prop}{v:Value}{x:AC}(h:DX x)(hv:RC B ρ w ok v x):RC B ρ w (okF B ok true) v x:=by
 cases x with
 | t x=>
  cases x with
  | lst=>exact h.elim
  | int k n=>exact RT.flat hv s_
  | bool b=>exact RT.flat hv s_
  | str b=>exact RT.flat hv s_
 | f x=>exact RT.up (show RT w (okF B ok true) v x from hv) fun b hb=>⟨hb,hb.2⟩
 | nils sz=>exact hv
 | nilp=>exact hv
 | own o=>exact hv
 | sub o k=>exact hv
 | ptr o k=>exact hv
 | opq=>exact hv
 | mpv o=>exact hv
theorem xQ {ok:Nat->Prop}:∀{vs:List Value} {xs:List AC},AL xs->RCs B ρ w ok vs xs->RCs B ρ w (okF B ok true) vs xs
 | [],[],_,_=>trivial
 | _::_,_::_,h,hv=>⟨yG h.1 hv.1,xQ h.2 hv.2⟩
 | [],_::_,_,h=>h.elim
 | _::_,[],_,h=>h.elim
theorem so {ok:Nat->Prop}{v:Value}{x:AR}(h:Bb x)(hv:RR B ρ w ok v x):RR B ρ w (okF B ok true) v x:=by
 cases x with
 | c x=>exact yG h hv
 | agg cs=>obtain⟨us,e,hu⟩:=hv;exact⟨us,e,xQ h hu⟩
theorem pR {ok:Nat->Prop}:∀{vs:List Value} {xs:List AR},vk xs->RRs B ρ w ok vs xs->RRs B ρ w (okF B ok true) vs xs
 | [],[],_,_=>trivial
 | _::_,_::_,h,hv=>⟨so h.1 hv.1,pR h.2 hv.2⟩
 | [],_::_,_,h=>h.elim
 | _::_,[],_,h=>h.elim
theorem qM:∀{l:List (Id×AO)} {o:Id} {x:AO},qU l=true->(o,x)∈l->co (l.map fun p=>(p.1,some p.2)) o=some x
 | [],_,_,_,h=>by cases h
 |(i,y)::l,o,x,h,hm=>by
  simp only[qU,c8,u7,G2]at h;rw[p7,co];rcases d7.1 hm with he|Sv
  ·injection he with e1 e2;subst e1;subst e2;rw[idEq_iff.2 rfl];rfl
  ·cases hb:fE o i with
   | true=>have:=idEq_iff.1 hb;subst this;exact absurd (idEq_iff.2 rfl) (h.1 (o,x) Sv)
   | false=>exact qM h.2 Sv
theorem Conc.alone (hc:Conc N B M w0 ρ st.fs a w){v:Value}{x:AV}(hv:RV B ρ w (okB ρ st.fs.H w) v x)(hi:∀o∈x.ids,st.fs.U o.1):Conc 1 B M w0 ρ (St.fs ⟨[(0,x)],st.h,st.u⟩) ⟨#[v],w0.df⟩ w:=by
 refine⟨rfl,rfl,fun t=>?_,hc.obj,hc.sep,hc.rng,hc.keep,hc.base,hc.alw,hc.cst,hc.fix,fun t o ho=>?_,hc.usedH⟩
 ·show RV _ _ _ _ _ (bif Nat.beq t 0 then x else .unk)
  cases t with
  | zero=>exact hv
  | succ t=>trivial
 ·have ho:o∈(bif Nat.beq t 0 then x else .unk).ids:=ho
  cases t with
  | zero=>exact hi o ho
  | succ t=>have:o∈AV.ids .unk:=ho;simp[AV.ids]at this
theorem zL {r:Res}{v:Value}{x:AV}(hM:∀b,¬M b)(hX:∀o,w0.fx o=none)(hc:Conc N B M w0 ρ st.fs a w)(h:gG x st r)(hv:RV B ρ w (okB ρ st.fs.H w) v x)(O1:RV B ρ w (okF B (okB ρ st.fs.H w) true) v x)(hi:∀o∈x.ids,st.fs.U o.1):vL B w v r:=by
 obtain⟨h1,h2⟩:=h;obtain⟨ρ',J6,hk,hS⟩:=h2.ok' (M:=M) (fun _=>⟨hM,hX⟩) (fun o v hv=>by rw[hX]at hv;cases hv) (hc.alone hv hi);have co:∀o y,(o,y)∈r.os 0->(St.fs ⟨[(0,r.av 0)],r.us 0,[0]⟩).H o=some y:=fun o y hm=>qM h1 hm;refine⟨ρ',okF B (okB ρ' (St.fs ⟨[(0,r.av 0)],r.us 0,[0]⟩).H w) true,fun b hb=>⟨hb.1.1.1,hb.2 rfl⟩,?_,fun o y hm=>?_,fun o o' y y' hm O8 K0 b hb N3=>J6.sep o o' y y' b (co o y hm) (co o' y' O8) K0 (.inl hb) (.inl N3)⟩
 ·exact hS 0 v _ _ (fun b hb=>⟨hk b hb.1,hb.2⟩) O1
 ·have ho:=co o y hm;obtain⟨sz,rows,rfl⟩:=Ap hm;refine⟨?_,fun b hb=>?_⟩
  ·obtain⟨hu,Q6⟩:=J6.obj o _ ho;refine⟨hu,?_⟩;rcases Q6 with h|⟨b,cap,cur,e,fz,k1,k2,k3,k4,k5,k6,k7,k8⟩
   ·exact .inl h
   ·exact .inr ⟨b,cap,cur,e,fz,k1,k2,k3,k4,k5,k6,k7.keep fun b hb=>⟨rfl,hb,hb.2⟩,k8⟩
  ·have:=J6.rng o _ b ho (.inl hb);refine⟨this.2.resolve_right (hM b),this.1,fun J5=>J5.1.2 o _ ho (.inl hb)⟩
abbrev wv (tmps:Array Value)(rv:ResultVar):Sem Value:=match rv with
 | .tmp t=>pure (tmps.getD t undef)
 | .cell a t=>do loadVar t (←asAddr (tmps.getD a undef))
theorem KQ (hΓ:Γ.chk P=true)(hc:Conc N B M w0 ρ st.fs a w){rv:ResultVar}{x:AR}(h:LC Γ st rv=some x):
  ∃v,(wv a.tmps rv).run P w= .ok v w/\RR B ρ w (okB ρ st.fs.H w) v x/\∀o∈x.ids,st.fs.U o.1:=by
 cases rv with
 | tmp t=>
  simp only[LC]at h;split at h
  ·rename_i y hy;injection h with h;subst h;have hs:=hc.slot t;rw[show st.fs.L t= .r y from hy]at hs;exact⟨_,rfl,hs,fun o ho=>hc.usedL t o (by rw[show st.fs.L t= .r y from hy];exact ho)⟩
  ·cases h
 | cell t T=>
  simp only[LC]at h;split at h
  ·rename_i o ti hl hT;split at h
   ·rename_i cells hh;obtain⟨i,d,fit⟩:=Env.fit hΓ hT;obtain⟨b,us,t',fz,g1,g2,g3,g4,g5⟩:=hc.box (q:=o) hh;have hs:=hc.slot t;rw[show st.fs.L t= .r (.c (.ptr o 0)) from hl]at hs;obtain⟨b',e1,e2⟩:=hs;rw[g1]at e1;injection e1 with e1;injection e1 with e1;injection e1 with e1;subst e1;have Rc:∀o'∈cells.flatMap AC.ids,st.fs.U o'.1:=(hc.usedH o _ hh).2;have Qy:(asAddr (a.tmps.getD t undef)).run P w= .ok (⟨b,0,none⟩:Addr) w:=by rw[e2];rfl
    split at h
    ·rename_i cs ha hb;injection h with h;subst h;have J0:us.toList.length=ti.size:=by rw[g4.length];simpa using hb
     have h1:=run_loadCells_list (P:=P) w ⟨b,0,none⟩ us.toList g5;rw[J0,<-fit.size]at h1;refine⟨.agg us.toList.toArray,?_,⟨_,rfl,by simpa using g4⟩,Rc⟩;simp only[wv,m7,Qy,i9];simp[loadVar,jL fit.und,fit.agg,ha,ct fit.info,h1]
    ·rename_i c ha hb;injection h with h;subst h;obtain⟨u,hu,U4⟩:=g4.get 0 c rfl;have L0:=g5 0 u hu;rw[gh]at L0;refine⟨u,?_,U4,fun o ho=>Rc o (by simpa using(show o∈c.ids from ho))⟩;simp only[wv,m7,Qy,i9];simp[loadVar,jL fit.und,fit.agg,ha,run_load,L0]
    ·cases h
   ·cases h
  ·cases h
theorem nG (hΓ:Γ.chk P=true)(hc:Conc N B M w0 ρ st.fs a w):∀{rvs:List ResultVar} {xs:List AR},zx Γ st rvs=some xs->
  ∃vs,(rvs.mapM (wv a.tmps)).run P w= .ok vs w/\RRs B ρ w (okB ρ st.fs.H w) vs xs/\∀o∈xs.flatMap AR.ids,st.fs.U o.1
 | [],xs,h=>by
  simp only[zx,Option.some.injEq]at h;subst h
  exact⟨[],s_,trivial,s_⟩
 | rv::rvs,xs,h=>by
  simp only[zx]at h;split at h
  ·rename_i x Xu h1 h2;injection h with h;subst h;obtain⟨v,g1,g2,g3⟩:=KQ hΓ hc h1;obtain⟨vs,g4,g5,g6⟩:=nG hΓ hc h2;refine⟨v::vs,?_,⟨g2,g5⟩,fun o ho=>?_⟩
   ·rw[List.mapM_cons,m7,g1,i9,m7,g4,i9,n9]
   ·simp only[u6,e7]at ho;exact ho.elim (g3 o) (g6 o)
  ·cases h
theorem kD {fn:Func}{a:Act}{vs:List Value}(PW:(fn.results.toList.mapM (wv a.tmps)).run P w= .ok vs w):(results fn a.tmps).run P w= .ok (if h:vs.length=1 then vs[0]else .tuple vs.toArray) w:=by unfold results;rw[show fn.results=fn.results.toList.toArray by simp];simp only[List.mapM_toArray,bind_map_left,m7];refine(congrArg (fun x=>Result.andThen x _) PW).trans ?_;simp only[i9,n9,A9,List.getElem_toArray]
theorem V62{p:Prop}(h:p:=by
 intro hl;obtain⟨v,rfl⟩:=List.length_eq_one_iff.1 hl
 match xs,g2,K0 with
 | [x],_,K0=>exact K0 x rfl
 | [],g2,_=>exact g2.elim
 | _::_::_,g2,_=>exact g2.2.elim):p:=h
theorem Lh {r:Res}{fn:Func}(hΓ:Γ.chk P=true)(hM:∀b,¬M b)(hX:∀o,w0.fx o=none)(hc:Conc N B M w0 ρ st.fs a w)(h:MA Γ fn.results.toList r st):
  ∃v,(results fn a.tmps).run P w= .ok v w/\vL B w v r:=by
 unfold MA at h;split at h
 ·rename_i x hx;obtain⟨vs,g1,g2,g3⟩:=nG hΓ hc hx
  match vs,g2 with
  | [v],g2=>
   refine⟨_,kD g1,?_⟩;simp only[d5,gt,s5,dite_true,List.getElem_cons_zero]
   exact zL hM hX hc h.2 g2.1 (so h.1 g2.1) fun o ho=>g3 o (by simpa using(show o∈x.ids from ho))
  | [],g2=>exact g2.elim
  | _::_::_,g2=>exact g2.2.elim
 ·rename_i xs K0 hx;obtain⟨vs,g1,g2,g3⟩:=nG hΓ hc hx;refine⟨_,kD g1,?_⟩
  have hl:¬vs.length=1:=by exact V62
  rw[dif_neg hl];exact zL hM hX hc h.2 ⟨_,rfl,by simpa using g2⟩ ⟨_,rfl,by simpa using pR h.1 g2⟩ g3
 ·exact h.elim
theorem Ix {r:Res}{fn:Func}(hΓ:Γ.chk P=true)(hM:∀b,¬M b)(hX:∀o,w0.fx o=none)(hc:Conc N B M w0 ρ st.fs a w)(h:fin Γ fn.results.toList st r):
  ∃v,(results fn a.tmps).run P w= .ok v w/\vL B w v r:=by
 obtain⟨st1,ρ1,g1,g2,_⟩:=kQ _ st _ ρ h hc fun _ _=>trivial;exact Lh hΓ hM hX g2 g1
theorem Fw {r:AV}{h1:List (Id×AO)}{fn:Func}(hΓ:Γ.chk P=true)(hF:∀o v,w0.fx o=some v->o.1=0)(hc:Conc N B M w0 ρ st.fs a w)(h:jc (jr st.h []) st (DR Γ fn.results.toList r h1)):
  ∃v ρ',(results fn a.tmps).run P w= .ok v w/\Conc 1 B M w0 ρ' (St.fs ⟨[(0,r)],h1.map (fun p=>(p.1,some p.2)),[1,0]⟩) ⟨#[v],w0.df⟩ w:=by
 obtain⟨st1,ρ1,h,hc,_⟩:=kQ _ st _ ρ h hc fun _ _=>trivial;unfold DR at h;split at h
 ·rename_i x hx;obtain⟨vs,g1,g2,g3⟩:=nG hΓ hc hx
  match vs,g2 with
  | [v],g2=>
   obtain⟨ρ2,h2⟩:=h.ok s_ hF (hc.alone (x:= .r x) g2.1 fun o ho=>g3 o (by simpa using(show o∈x.ids from ho)));refine⟨_,ρ2,kD g1,?_⟩
   simpa using h2
  | [],g2=>exact g2.elim
  | _::_::_,g2=>exact g2.2.elim
 ·rename_i xs K0 hx;obtain⟨vs,g1,g2,g3⟩:=nG hΓ hc hx
  have hl:¬vs.length=1:=by exact V62
  obtain⟨ρ2,h2⟩:=h.ok s_ hF (hc.alone (x:= .tup xs) (v:= .tuple vs.toArray) ⟨_,rfl,by simpa using g2⟩ g3);refine⟨_,ρ2,kD g1,?_⟩;rw[dif_neg hl];exact h2
 ·exact h.elim
theorem V69{p:Prop}(h:p:=by
 by_cases h1:t<i
 ·rw[b9 h1,b9 o_]
 ·rw[b8 h1,b8 o_];obtain⟨k,hk⟩:∃k,t-i=k+1:=⟨t-i-1,o_⟩;rw[hk,show t-(i+1)=k by omega]
  simp):p:=h
theorem rY:∀(ts:List TV) (i t:Nat),dw (wh i ts) t=if t<i then .unk else(match ts[t-i]? with|some x=>x.av|none=> .unk)
 | [],i,t=>by simp[wh,dw]
 | x::ts,i,t=>by
  rw[wh,dw]
  cases hb:Nat.beq t i with
  | true=>have:=t8 hb;subst this;simp
  | false=>
   have K0:t≠i:=fun e=>by subst e;simp at hb
   rw[cond_false,rY ts (i+1) t];exact V69
theorem TV.av_ids (t:TV):t.av.ids=[]:=by
 cases t with
 | c x=>rfl
 | agg xs=>
  show(xs.map AC.t).flatMap AC.ids=[]
  induction xs with
  | nil=>rfl
  | cons x xs ih=>simp[AC.ids]
theorem RTs.toT {ok:Nat->Prop}:∀{vs:List Value} {ts:List Tr},RTs w ok vs ts->RCs B ρ w ok vs (ts.map .t)
 | [],[],_=>trivial
 | _::_,_::_,h=>⟨h.1,RTs.toT h.2⟩
 | [],_::_,h=>h.elim
 | _::_,[],h=>h.elim
theorem RTV.toRV {ok:Nat->Prop}{v:Value}{t:TV}(h:RTV w ok v t):RV B ρ w ok v t.av:=by
 cases t with
 | c x=>exact h
 | agg xs=>obtain⟨us,e,h⟩:=h;exact⟨us,e,h.toT⟩
theorem RTVs.len {ok:Nat->Prop}:∀{vs:List Value} {ts:List TV},RTVs w ok vs ts->vs.length=ts.length
 | [],[],_=>rfl
 | _::vs,_::ts,h=>by simp[RTVs.len (vs:=vs) (ts:=ts) h.2]
 | [],_::_,h=>h.elim
 | _::_,[],h=>h.elim
theorem RTVs.get {ok:Nat->Prop}:∀{vs:List Value} {ts:List TV},RTVs w ok vs ts->∀(i:Nat) v t,vs[i]?=some v->ts[i]?=some t->RTV w ok v t
 | [],[],_,i,v,t,h,_=>by simp at h
 | _::_,_::_,h,0,v,t,h1,h2=>by simp at h1 h2;subst h1;subst h2;exact h.1
 | _::_,_::_,h,i+1,v,t,h1,h2=>RTVs.get h.2 i v t (by simpa using h1) (by simpa using h2)
 | [],_::_,h,_,_,_,_,_=>h.elim
 | _::_,[],h,_,_,_,_,_=>h.elim
theorem pN {ts:List TV}{vs:Array Value}{w:World}(h:RTVs w (fun b=>b<w.heap.size) vs.toList ts)(hN:ts.length<=N):
  Conc N w.heap.size (fun _=>False) ⟨w,fun _=>True,fun _=>none,[]⟩ ⟨fun _=>undef,fun _ _=>False,fun _=>True⟩ (st0 ts).fs {tmps:=vs++Array.replicate (N-vs.size) undef,defers:=[]} w:=by
 have hl:vs.size=ts.length:=by simpa using h.len
 refine⟨by simp;omega,rfl,fun t=>?_,fun o x ho=>(by cases ho),fun o o' x x' b ho=>(by cases ho),fun o x b ho=>(by cases ho),⟨rfl,rfl,rfl,d6 _,fun _ _ _=>rfl⟩,d6 _,fun _ _=>trivial,rfl,fun _ _ h=>(by cases h),fun t o ho=>?_,fun o x ho=>by cases ho⟩
 ·show RV _ _ _ _ _ (dw (wh 0 ts) t);rw[rY,b8 o_,x5]
  cases ht:ts[t]? with
  | none=>trivial
  | some x=>
   have J3:t<vs.size:=by
    rcases m6 t ts.length with h'|h'
    ·omega
    ·rw[d8 h']at ht;cases ht
   have e:(vs++Array.replicate (N-vs.size) undef).getD t undef=vs[t]:=by rw[s7,Array.getElem?_append_left J3,w7 J3];rfl
   simp only;rw[e];have:=h.get t vs[t] x (by simp[J3]) ht;refine RV.keep (RTV.toRV (B:=w.heap.size) (ρ:=⟨fun _=>undef,fun _ _=>False,fun _=>True⟩) this) (fun b hb=>⟨rfl,⟨hb,trivial⟩,fun o x ho=>by cases ho⟩) (fun o ho=>rfl)
 ·have ho:o∈(dw (wh 0 ts) t).ids:=ho;rw[rY,b8 o_,x5]at ho
  cases ht:ts[t]? with
  | none=>rw[ht]at ho;simp[AV.ids]at ho
  | some x=>rw[ht]at ho;simp only[TV.av_ids]at ho;cases ho
theorem nS {f:FuncId}{fn:Func}{c:Code}(hf:P.funcs[f]?=some fn)(hb:fn.body=some c)(hn:(fn.name== "runtime.NumGoroutine")=false):EW P f:=by intro args w;simp only[z8]at hn;simp[callFunc,hf,hb,hn]
theorem V13{p:Prop}(h:p:=by
 have key:fin Γ fn.results.toList J2 r->a'.defers=[]/\∃v,(results fn a'.tmps).run P w'= .ok v w'/\∃v',Ending.returned v= .returned v'/\Below w.heap.size w w'/\vL w.heap.size w' v' r:=fun Ov=>by
  obtain⟨v,h1,h2⟩:=Ix (P:=P) hΓ (fun _ h=>h) (fun _=>rfl) J6 Ov;exact⟨J6.defers,v,h1,v,rfl,⟨J6.keep.os,J6.keep.tape,J6.keep.output,J6.keep.size,fun k hk=>J6.keep.block k hk (fun h=>h)⟩,h2⟩
 cases e with
 | normal=>exact key hK
 | ret=>exact key hK
 | exit id=>exact hK.elim
 | pan v=>exact hK.elim):p:=h
theorem aG {f:FuncId}{fn:Func}{c:Code}{ts:List TV}{r:Res}(hΓ:Γ.chk P=true)(aK:P.follows .mixedOrders=true)(hf:P.funcs[f]?=some fn)(hb:fn.body=some c)(hn:(fn.name== "runtime.NumGoroutine")=false)
  (hN:Nat.ble ts.length fn.ntmps=true) (h:W true P Γ fn.ntmps c (Mh Γ fn.results.toList r) (st0 ts)):Spec P f ts r:=by
 refine⟨nS hf hb hn,fun w vs PW=>calls_of_wp hf hb ?_⟩;have hc:=pN (N:=fn.ntmps) PW (E2 hN);refine MK hΓ aK (fun _=>⟨fun _ h=>h,fun _=>rfl⟩) (fun _ _ h=>by cases h) c _ _ _ _ _ _ h hc fun e J2 ρ' a' w' hK J6=>?_;exact V13
def xM:Nat->List AV->List (Nat×AV)
 | _,[]=>[]
 | i,t::ts=>(i,t)::xM (i+1) ts
def stG (xs:List AV)(h0:List (Id×AO)):St:=⟨xM 0 xs,h0.map fun p=>(p.1,some p.2),[0]⟩
theorem pj:∀(ts:List AV) (i t:Nat),dw (xM i ts) t=if t<i then .unk else(match ts[t-i]? with|some x=>x|none=> .unk)
 | [],i,t=>by simp[xM,dw]
 | x::ts,i,t=>by
  rw[xM,dw]
  cases hb:Nat.beq t i with
  | true=>have:=t8 hb;subst this;simp
  | false=>
   have K0:t≠i:=fun e=>by subst e;simp at hb
   rw[cond_false,pj ts (i+1) t];exact V69
theorem RVs.len {ok:Nat->Prop}:∀{vs:List Value} {ts:List AV},RVs B ρ w ok vs ts->vs.length=ts.length
 | [],[],_=>rfl
 | _::vs,_::ts,h=>by simp[RVs.len (vs:=vs) (ts:=ts) h.2]
 | [],_::_,h=>h.elim
 | _::_,[],h=>h.elim
theorem RVs.get {ok:Nat->Prop}:∀{vs:List Value} {ts:List AV},RVs B ρ w ok vs ts->∀(i:Nat) v t,vs[i]?=some v->ts[i]?=some t->RV B ρ w ok v t
 | [],[],_,i,v,t,h,_=>by simp at h
 | _::_,_::_,h,0,v,t,h1,h2=>by simp at h1 h2;subst h1;subst h2;exact h.1
 | _::_,_::_,h,i+1,v,t,h1,h2=>RVs.get h.2 i v t (by simpa using h1) (by simpa using h2)
 | [],_::_,h,_,_,_,_,_=>h.elim
 | _::_,[],h,_,_,_,_,_=>h.elim
theorem uY (h0:List (Id×AO))(o:Id):co (h0.map fun p=>(p.1,some p.2)) o=lkH h0 o:=by
 induction h0 with
 | nil=>rfl
 | cons p l ih=>simp only[p7,co,lkH,ih]
def sr (xs:List AV)(h0:List (Id×AO))(r:AV)(h1:List (Id×AO)):Bool:=
 xs.all (fun x=>x.ids.all fun o=>Nat.beq o.1 0)&&h0.all (fun p=>Nat.beq p.1.1 0&&p.2.ids.all fun o=>Nat.beq o.1 0)
theorem tx {xs:List AV}{h0:List (Id×AO)}{vs:Array Value}{w:World}{ρ:Rho}(hn:sr xs h0 .unk []=true)(h:RVs w.heap.size ρ w (okB ρ (lkH h0) w) vs.toList xs)(hl:Lies w.heap.size ρ w h0)(Ow:∀b,(w.heap.size<=b\/Ms ρ h0 b)->ρ.al b)(hN:xs.length<=N):
  Conc N w.heap.size (Ms ρ h0) ⟨w,ρ.al,fun o=>if(lkH h0 o).isSome=true then some (ρ o)else none,[]⟩ ρ (stG xs h0).fs {tmps:=vs++Array.replicate (N-vs.size) undef,defers:=[]} w:=by
 have J0:vs.size=xs.length:=by simpa using h.len
 simp only[sr,c8,n7,H8]at hn;have hH:∀o,(stG xs h0).fs.H o=lkH h0 o:=fun o=>uY h0 o;have Rk:(stG xs h0).fs.H=lkH h0:=funext hH
 have hU:∀n,(stG xs h0).fs.U n↔n=0:=fun n=>by
  show used [0] n=true↔n=0;simp only[used]
  cases hb:Nat.beq n 0 with
  | true=>simpa using hb
  | false=>simp only[cond_false,y7,false_iff];intro e;subst e;simp at hb
 have OT:∀o x,lkH h0 o=some x->o.1=0/\∀o'∈x.ids,o'.1=0:=fun o x hx=>by
  have:=hn.2 _ (iI hx);exact⟨by simpa using this.1,fun o' L9=>by simpa using this.2 o' L9⟩
 refine⟨by simp;omega,rfl,fun t=>?_,fun o x ho=>?_,fun o o' x x' b ho L9=>?_,fun o x b ho he=>?_,⟨rfl,rfl,rfl,d6 _,fun _ _ _=>rfl⟩,d6 _,fun b hb=>Ow b hb,rfl,fun o v hv=>?_,fun t o ho=>?_,fun o x ho=>?_⟩
 ·show RV _ _ _ _ _ (dw (xM 0 xs) t);rw[pj,b8 o_,x5,Rk]
  cases ht:xs[t]? with
  | none=>trivial
  | some x=>
   have J3:t<vs.size:=by
    rcases m6 t xs.length with h'|h'
    ·omega
    ·rw[d8 h']at ht;cases ht
   have e:(vs++Array.replicate (N-vs.size) undef).getD t undef=vs[t]:=by rw[s7,Array.getElem?_append_left J3,w7 J3];rfl
   simp only;rw[e];exact h.get t vs[t] x (by simp[J3]) ht
 ·rw[hH]at ho;rw[Rk];exact hl.obj o x ho
 ·rw[hH]at ho L9;exact hl.sep o o' x x' b ho L9
 ·rw[hH]at ho;exact⟨hl.lt o x b ho he,.inr ⟨o,x,ho,he⟩⟩
 ·have hv:(if(lkH h0 o).isSome=true then some (ρ o)else none)=some v:=hv;split at hv
  ·rename_i hs;injection hv with hv;obtain⟨x,hx⟩:=F0.1 hs;exact⟨hv,(hU _).2 (OT o x hx).1⟩
  ·cases hv
 ·have ho:o∈(dw (xM 0 xs) t).ids:=ho;rw[pj,b8 o_,x5]at ho
  cases ht:xs[t]? with
  | none=>rw[ht]at ho;simp[AV.ids]at ho
  | some x=>rw[ht]at ho;exact(hU _).2 (by simpa using hn.1 x (d4 ht) o ho)
 ·rw[hH]at ho;obtain⟨g1,g2⟩:=OT o x ho;exact⟨(hU _).2 g1,fun o' L9=>(hU _).2 (g2 o' L9)⟩
theorem V49{p:Prop}(h:p:=by
 split at hv
 ·rename_i hs;obtain⟨x,hx⟩:=F0.1 hs;simp only[sr,c8,n7,H8]at Ot;simpa using(Ot.2 _ (iI hx)).1
 ·cases hv):p:=h
theorem V4{p:Prop}(h:p:=by
 have key:jc (jr J2.h []) J2 (DR Γ fn.results.toList r h1)->a'.defers=[]/\∃v,(results fn a'.tmps).run P w'= .ok v w'/\∃v' ρ2,Ending.returned v= .returned v'/\Keep w.heap.size (Ms ρ h0) w w'/\(∀o,(lkH h0 o).isSome=true->ρ2 o=ρ o)/\ρ2.al=ρ.al/\
   RV w.heap.size ρ2 w' (okB ρ2 (lkH h1) w') v' r/\Lies w.heap.size ρ2 w' h1/\∀o x b,lkH h1 o=some x->Own ρ2 o b->w.heap.size<=b\/Ms ρ h0 b:=fun Ov=>by
  obtain⟨v,ρ2,k1,k2⟩:=Fw (P:=P) hΓ hF J6 Ov;have hH:∀o,(St.fs ⟨[(0,r)],h1.map (fun p=>(p.1,some p.2)),[1,0]⟩).H o=lkH h1 o:=fun o=>uY h1 o;have Rk:(St.fs ⟨[(0,r)],h1.map (fun p=>(p.1,some p.2)),[1,0]⟩).H=lkH h1:=funext hH;refine⟨J6.defers,v,k1,v,ρ2,rfl,k2.keep,fun o ho=>?_,k2.cst,?_,⟨fun o x ho=>?_,fun o o' x x' b ho L9=>?_,fun o x b ho he=>?_⟩,fun o x b ho he=>?_⟩
  ·have:=k2.fix o (ρ o) (by show(if(lkH h0 o).isSome=true then some (ρ o)else none)=_;rw[b9 ho]);exact this.1
  ·have:=k2.slot 0;rw[Rk]at this;exact this
  ·have:=k2.obj o x (by rw[hH];exact ho);rw[Rk]at this;exact this
  ·exact k2.sep o o' x x' b (by rw[hH];exact ho) (by rw[hH];exact L9)
  ·exact(k2.rng o x b (by rw[hH];exact ho) he).1
  ·exact(k2.rng o x b (by rw[hH];exact ho) he).2
 cases e with
 | normal=>exact key hK
 | ret=>exact key hK
 | exit id=>exact hK.elim
 | pan v=>exact hK.elim):p:=h
theorem dM {f:FuncId}{fn:Func}{c:Code}{xs:List AV}{h0:List (Id×AO)}{r:AV}{h1:List (Id×AO)}(hΓ:Γ.chk P=true)(aK:P.follows .mixedOrders=true)(hf:P.funcs[f]?=some fn)(hb:fn.body=some c)(hn:(fn.name== "runtime.NumGoroutine")=false)
  (hN:Nat.ble xs.length fn.ntmps=true) (Ot:sr xs h0 .unk []=true) (h:W false P Γ fn.ntmps c (Mi Γ fn.results.toList r h1) (stG xs h0)):bf P f xs h0 r h1:=by
 refine⟨nS hf hb hn,fun w vs ρ PW hl Ow=>calls_of_wp hf hb ?_⟩;have hc:=tx (N:=fn.ntmps) Ot PW hl Ow (E2 hN)
 have hF:∀o v,(if(lkH h0 o).isSome=true then some (ρ o)else none)=some v->o.1=0:=fun o v hv=>by
  exact V49
 refine MK hΓ aK s_ hF c _ _ _ _ _ _ h hc fun e J2 ρ' a' w' hK J6=>?_;exact V4
end
def Ng:AV->Prop
 | .r x=>Bb x
 | .tup xs=>vk xs
 | _=>False
theorem HN {P:Program}{f:FuncId}{ts:List TV}{r:AV}{h1:List (Id×AO)}{r':Res}(h:bf P f (ts.map TV.av) [] r h1)(hu:(rW [1,0] r.ids&&usedH [1,0] (h1.map fun p=>(p.1,some p.2)))=true)(hf:Ng r)
  (hq:gG r ⟨[],h1.map fun p=>(p.1,some p.2),[1,0]⟩ r'):Spec P f ts r':=by
 refine⟨h.1,fun w vs PW=>?_⟩;have hM:∀b,¬Ms (⟨fun _=>undef,fun _ _=>False,fun _=>True⟩:Rho) [] b:=fun b hb=>by obtain⟨o,x,hx,_⟩:=hb;cases hx
 have P3:=pN (N:=ts.length) PW (d6 _)
 have VO:RVs w.heap.size ⟨fun _=>undef,fun _ _=>False,fun _=>True⟩ w (okB ⟨fun _=>undef,fun _ _=>False,fun _=>True⟩ (lkH []) w) vs.toList (ts.map TV.av):=by
  generalize vs.toList=l at PW;clear P3 h
  induction l generalizing ts with
  | nil=>cases ts with
   | nil=>trivial
   | cons _ _=>exact PW.elim
  | cons v l ih=>cases ts with
   | nil=>exact PW.elim
   | cons t ts=>exact⟨RV.keep (RTV.toRV (B:=w.heap.size) (ρ:=⟨fun _=>undef,fun _ _=>False,fun _=>True⟩) PW.1) (fun b hb=>⟨rfl,⟨hb,trivial⟩,fun o x ho=>by cases ho⟩) (fun o ho=>rfl),ih PW.2⟩
 refine(h.2 w vs ⟨fun _=>undef,fun _ _=>False,fun _=>True⟩ VO ⟨fun o x ho=>(by cases ho),fun o o' x x' b ho=>(by cases ho),fun o x b ho=>(by cases ho)⟩ (fun _ _=>trivial)).mono fun e w' he=>?_;obtain⟨v,ρ',e1,k,_,Ow,hv,hl,hb⟩:=he;refine⟨v,e1,⟨k.os,k.tape,k.output,k.size,fun q hq=>k.block q hq (hM q)⟩,?_⟩;simp only[c8]at hu;have hH:∀o,(St.fs ⟨[(0,r)],h1.map (fun p=>(p.1,some p.2)),[1,0]⟩).H o=lkH h1 o:=fun o=>uY h1 o;have Rk:(St.fs ⟨[(0,r)],h1.map (fun p=>(p.1,some p.2)),[1,0]⟩).H=lkH h1:=funext hH
 have hc:Conc 1 w.heap.size (Ms (⟨fun _=>undef,fun _ _=>False,fun _=>True⟩:Rho) []) ⟨w,ρ'.al,fun _=>none,[]⟩ ρ' (St.fs ⟨[(0,r)],h1.map (fun p=>(p.1,some p.2)),[1,0]⟩) ⟨#[v],[]⟩ w':=by
  refine⟨rfl,rfl,fun t=>?_,fun o x ho=>?_,fun o o' x x' b ho L9=>?_,fun o x b ho Oo=>?_,k,k.size,fun b _=>by rw[Ow];trivial,rfl,fun _ _ h=>(by cases h),fun t o ho=>?_,fun o x ho=>?_⟩
  ·rw[Rk];show RV _ _ _ _ _ (bif Nat.beq t 0 then r else .unk)
   cases t with
   | zero=>exact hv
   | succ t=>trivial
  ·rw[Rk]at *;exact hl.obj o x ho
  ·rw[Rk]at *;exact hl.sep o o' x x' b ho L9
  ·rw[Rk]at *;exact⟨hl.lt o x b ho Oo,hb o x b ho Oo⟩
  ·have ho:o∈(bif Nat.beq t 0 then r else .unk).ids:=ho
   cases t with
   | zero=>exact lu hu.1 o ho
   | succ t=>have:o∈AV.ids .unk:=ho;simp[AV.ids]at this
  ·exact rk hu.2 o x (jU ho)
 refine zL hM (fun _=>rfl) (st:=⟨[(0,r)],h1.map (fun p=>(p.1,some p.2)),[1,0]⟩) hc hq (by rw[Rk];exact hv) ?_ fun o ho=>lu hu.1 o ho;rw[Rk]
 cases r with
 | r x=>exact so hf hv
 | tup xs=>obtain⟨us,e,Xj⟩:=hv;exact⟨us,e,pR hf Xj⟩
 | el o sz i off=>exact hf.elim
 | ro fr row off=>exact hf.elim
 | unk=>exact hf.elim
end Go.Sim
namespace Go.Sim
open Go.RowKit Go.ChangeShapes Go.WideShapes Go.ChangeAt
def HD (okT:TypeId->Bool):Nat->List (Nat×Nat×TypeId)->Nat->Bool
 | o,[],sz=>Nat.beq o sz
 | o,(off,s,t)::r,sz=>Nat.beq off o&&okT t&&HD okT (o+s) r sz
def okT (Γ:Env):Nat->TypeId->Bool
 | 0,_=>false
 | n+1,t=>match Γ.get t with
  | none=>false
  | some ti=>match ti.kind,ti.bool||ti.str,ti.elem,ti.fields with
   | some _,_,_,_=>Nat.beq ti.size 1
   | none,true,_,_=>Nat.beq ti.size 1
   | none,false,some e,_=>Nat.beq ti.size 1&&okT Γ n e
   | none,false,none,f::fs=>HD (okT Γ n) 0 (f::fs) ti.size
   | none,false,none,[]=>false
def Al (T:TypeId->List Tr->Prop):List (Nat×Nat×TypeId)->List Tr->Prop
 | [],ts=>ts=[]
 |(_,_,t)::fs,ts=>∃xs rest,ts=xs++rest/\T t xs/\Al T fs rest
def ez (Γ:Env)(t:TypeId):Nat:=match Γ.get t with|some ti=>ti.size|none=>0
def pb (Γ:Env):Nat->TypeId->List Tr->Prop
 | 0,_,_=>False
 | n+1,t,ts=>match Γ.get t with
  | none=>False
  | some ti=>match ti.kind,ti.bool,ti.str,ti.elem with
   | some k,_,_,_=>∃m,ts=[.int k m]/\(Lit.int k m).wf=true
   | none,true,_,_=>∃b,ts=[.bool b]
   | none,false,true,_=>∃s:List UInt8,ts=[.str s]/\s.length<=maxLen
   | none,false,false,some e=>∃rows,ts=[.lst (ez Γ e) rows]/\rows.length<=maxLen/\∀r∈rows,pb Γ n e r
   | none,false,false,none=>Al (pb Γ n) ti.fields ts
def Az (Γ:Env)(n:Nat)(t:TypeId)(x:TV):Prop:=
 match Γ.get t with
 | none=>False
 | some ti=>match ti.agg with
  | true=>∃xs,x= .agg xs/\pb Γ n t xs
  | false=>∃y,x= .c y/\pb Γ n t [y]
def qp (Γ:Env)(n:Nat):List TypeId->List TV->Prop
 | [],[]=>True
 | t::ts,x::xs=>Az Γ n t x/\qp Γ n ts xs
 | _,_=>False
section
variable {H:Type} {enc:TypeId×Value->H} {P:Program} {Γ:Env} {w:World} {sp:Nat->Bool} {SE:Bool}
theorem Bo (s:ByteArray):s=⟨s.data.toList.toArray⟩:=by cases s;simp
theorem Ff (hΓ:Γ.chk P=true):∀(n:Nat) (t:TypeId) (fuel:Nat) (cs:List Value) (x:DataW H×List MemPlace),okT Γ n t=true->DataW.trod enc P w 0 sp SE fuel t cs=some x->
  ∃ts,RTs w (fun b=>b<w.heap.size) cs ts/\pb Γ n t ts/\ts.length=ez Γ t:=by
 intro n
 induction n with
 | zero=>intro t fuel cs x h;simp[okT]at h
 | succ n ih=>
  intro t fuel cs x J5 hx;simp only[okT]at J5
  cases hT:Γ.get t with
  | none=>rw[hT]at J5;simp at J5
  | some ti=>
   obtain⟨i,d,fit⟩:=Env.fit hΓ hT;rw[hT]at J5;simp only at J5;simp only[pb,hT,ez]
   cases d with
   | int k=>
    obtain⟨m,rfl,rfl,hw⟩:=DataW.trod_int fit.und hx;have hk:ti.kind=some k:=fit.kind.symm;simp only[hk,G3]at J5⊢
    exact⟨[.int k m],⟨.int k m,trivial⟩,⟨m,rfl,hw⟩,J5.symm⟩
   | bool=>
    obtain⟨b,rfl,rfl⟩:=DataW.trod_bool fit.und hx;have hk:ti.kind=none:=fit.kind.symm;have hb:ti.bool=true:=fit.bool.symm;simp only[hk,hb,Bool.true_or,G3]at J5⊢
    exact⟨[.bool b],⟨.bool b,trivial⟩,⟨b,rfl⟩,J5.symm⟩
   | string=>
    obtain⟨s,rfl,rfl,hs⟩:=DataW.trod_string fit.und hx;have hk:ti.kind=none:=fit.kind.symm;have hb:ti.bool=false:=fit.bool.symm;have N8:ti.str=true:=fit.str.symm;simp only[hk,hb,N8,Bool.or_true,G3]at J5⊢;refine⟨[.str s.data.toList],⟨?_,trivial⟩,⟨_,rfl,by simpa using hs⟩,J5.symm⟩;have:=RT.str (w:=w) (ok:=fun b=>b<w.heap.size) s.data.toList
    rwa [<-Bo s]at this
   | slice e=>
    have hk:ti.kind=none:=fit.kind.symm;have hb:ti.bool=false:=fit.bool.symm;have N8:ti.str=false:=fit.str.symm;have he:ti.elem=some e:=fit.elem.symm;simp only[hk,hb,N8,he,Bool.or_self,c8,G3]at J5⊢;obtain⟨WI,J5⟩:=J5;rcases DataW.trod_slice fit.und hx with⟨rfl,rfl⟩|⟨a,len,cap,elems,rest,m,rfl,rfl,rfl,_,J0,Wc,N1,QO,_,_⟩
    ·exact⟨[.lst (ez Γ e) []],⟨.emp _ _ _ (by simp[maxLen]),trivial⟩,⟨[],rfl,s_,s_⟩,WI.symm⟩
    ·have OD:P.cellsOf e=ez Γ e/\ez Γ e≠0:=by
      cases hE:Γ.get e with
      | none=>cases n<;>simp[okT,hE]at J5
      | some te=>obtain⟨ie,de,fite⟩:=Env.fit hΓ hE;simp only[Program.cellsOf,fite.info,x7,A0,ez,hE];exact⟨fite.size,fite.pos⟩
     have L2:∀j,j<len->∃us row,us.length=P.cellsOf e/\(∀p,p<P.cellsOf e->w.cell? (a.add (j*P.cellsOf e+p))=us[p]?)/\RTs w (fun b=>b<w.heap.size) us row/\pb Γ n e row/\row.length=ez Γ e:=by intro j hj;have h1:=QO j hj;have h2:j<elems.length:=o_;rw[i8 h2]at h1;obtain⟨us,g1,g2⟩:=Option.bind_eq_some_iff.1 h1;obtain⟨_,g3,g4⟩:=World.cells?_some g1;obtain⟨row,g5,g6,g7⟩:=ih e m us _ J5 g2;exact⟨us,row,g3,fun p hp=>by rw[<-rq];exact g4 p hp,g5,g6,g7⟩
     obtain⟨f,hf⟩:∃f:Nat->List Value×List Tr,∀j,j<len->(f j).1.length=P.cellsOf e/\(∀p,p<P.cellsOf e->w.cell? (a.add (j*P.cellsOf e+p))=(f j).1[p]?)/\RTs w (fun b=>b<w.heap.size) (f j).1 (f j).2/\pb Γ n e (f j).2/\(f j).2.length=ez Γ e:=by refine⟨fun j=>if h:j<len then(⟨(L2 j h).choose,(L2 j h).choose_spec.choose⟩)else([],[]),fun j hj=>?_⟩;simp only[dif_pos hj];exact(L2 j hj).choose_spec.choose_spec
     let rows:=(List.range len).map fun j=>(f j).2
     let us:=((List.range len).map fun j=>(f j).1).flatten
     have OY:∀r∈rows,r.length=ez Γ e/\pb Γ n e r:=by intro r hr;obtain⟨j,hj,rfl⟩:=p6.1 hr;have:=hf j (by simpa using hj);exact⟨this.2.2.2.2,this.2.2.2.1⟩
     have OE:∀k,k<=len->RTs w (fun b=>b<w.heap.size) ((List.range k).map fun j=>(f j).1).flatten ((List.range k).map fun j=>(f j).2).flatten/\((List.range k).map fun j=>(f j).1).flatten.length=k*P.cellsOf e/\
       ∀p,p<k*P.cellsOf e->w.cell? (a.add p)=(((List.range k).map fun j=>(f j).1).flatten)[p]?:=by
      intro k
      induction k with
      | zero=>intro _;exact⟨trivial,s_,fun p hp=>by simp at hp⟩
      | succ k ihk=>
       intro Pb;obtain⟨q1,q2,q3⟩:=ihk o_;obtain⟨r1,r2,r3,_,_⟩:=hf k o_;have e1:((List.range (k+1)).map fun j=>(f j).1).flatten=((List.range k).map fun j=>(f j).1).flatten++(f k).1:=by rw[F3];simp
       have e2:((List.range (k+1)).map fun j=>(f j).2).flatten=((List.range k).map fun j=>(f j).2).flatten++(f k).2:=by rw[F3];simp
       rw[e1,e2];refine⟨RTs.append q1 r3,by rw[c7,q2,r1,o9];omega,fun p hp=>?_⟩;rcases m6 p (k*P.cellsOf e)with J3|N2
       ·rw[j7 o_];exact q3 p J3
       ·rw[m5 o_,q2];have:=r2 (p-k*P.cellsOf e) (by rw[o9]at hp;omega);rwa [show k*P.cellsOf e+(p-k*P.cellsOf e)=p by omega]at this
     obtain⟨q1,q2,q3⟩:=OE len (d6 _);have Tw:rows.length=len:=by simp[rows]
     refine⟨[.lst (ez Γ e) rows],⟨?_,trivial⟩,⟨rows,rfl,by rw[Tw];omega,fun r hr=>(OY r hr).2⟩,WI.symm⟩
     cases B5 len with
     | inl h0=>
      have:rows=[]:=by simp[rows,h0]
      rw[this,h0]
      exact .emp _ _ _ Wc
     | inr OP=>
      refine .lst a len cap (ez Γ e) rows us Tw J0 Wc (fun r hr=>(OY r hr).1) ?_ q1.length (fun p v hv=>?_) (fun p v u hv hu=>q1.get p v u hv hu)
      ·have hp0:0<len*P.cellsOf e:=Nat.mul_pos OP (by rw[OD.1];omega);have:=q3 0 hp0;have h0:0<us.length:=by show 0<(((List.range len).map fun j=>(f j).1).flatten).length;omega
       have h2:w.cell? (a.add 0)=some us[0]:=by rw[this];exact i8 h0
       have:=World.block_lt_of_cell? w _ h2;rwa [iH]at this
      ·have hp:p<len*P.cellsOf e:=by
        rw[<-q2];rcases m6 p us.length with h'|h'
        ·exact h'
        ·rw[d8 h']at hv;cases hv
       rw[q3 p hp];exact hv
   | struct fs=>
    have hk:ti.kind=none:=fit.kind.symm;have hb:ti.bool=false:=fit.bool.symm;have N8:ti.str=false:=fit.str.symm;have he:ti.elem=none:=fit.elem.symm;simp only[hk,hb,N8,he,Bool.or_self]at J5⊢;obtain⟨xs,m,rfl,rfl,hl,RN,QV⟩:=DataW.trod_struct fit.und hx
    have Q1:cs.length=ti.size:=by rw[hl];simp only[Program.cellsOf,fit.info,x7,A0];exact fit.size
    have X8:HD (okT Γ n) 0 ti.fields ti.size=true:=by
     cases L8:ti.fields with
     | nil=>rw[L8]at J5;simp at J5
     | cons f fl=>rw[L8]at J5;exact J5
    have key:∀(l:List (Nat×Nat×TypeId)) (o:Nat),HD (okT Γ n) o l ti.size=true->(∀f∈l,∃y,DataW.trod enc P w 0 sp SE m f.2.2 ((cs.drop f.1).take f.2.1)=some y/\P.cellsOf f.2.2=f.2.1)->o<=ti.size->
      ∃ts,RTs w (fun b=>b<w.heap.size) (cs.drop o) ts/\Al (pb Γ n) l ts/\ts.length=ti.size-o:=by
     intro l
     induction l with
     | nil=>
      intro o h _ _;simp only[HD,G3]at h;have:cs.drop o=[]:=by rw[List.drop_eq_nil_iff];omega
      rw[this]
      exact⟨[],trivial,rfl,by simp;omega⟩
     | cons f l ihl=>
      obtain⟨off,s,ft⟩:=f;intro o h hr ho;simp only[HD,c8,G3]at h;obtain⟨⟨rfl,h2⟩,h3⟩:=h;obtain⟨y,hy,M6⟩:=hr (off,s,ft) s_;obtain⟨ts1,g1,g2,g3⟩:=ih ft m _ _ h2 hy;have hs:ts1.length=((cs.drop off).take s).length:=g1.length.symm
      have OD:ez Γ ft=s:=by
       cases hE:Γ.get ft with
       | none=>cases n<;>simp[okT,hE]at h2
       | some te=>obtain⟨ie,de,fite⟩:=Env.fit hΓ hE;simp only at M6;rw[<-M6];simp only[Program.cellsOf,fite.info,x7,A0,ez,hE];exact fite.size.symm
      have L3:off+s<=ti.size:=by
       simp only[j9,x8]at hs
       have OP:s≠0:=by
        cases hE:Γ.get ft with
        | none=>cases n<;>simp[okT,hE]at h2
        | some te=>obtain⟨ie,de,fite⟩:=Env.fit hΓ hE;rw[<-OD];simp only[ez,hE];exact fite.pos
       omega
      obtain⟨ts2,g4,g5,g6⟩:=ihl (off+s) h3 (fun f hf=>hr f (by simp[hf])) L3;refine⟨ts1++ts2,?_,⟨ts1,ts2,rfl,g2,g5⟩,by simp;omega⟩;have e:cs.drop off=(cs.drop off).take s++cs.drop (off+s):=by rw[<-H6,w5]
      rw[e];exact RTs.append g1 g4
    have QT:=fit.fields;simp only[kY,c8,i7]at QT
    obtain⟨ts,g1,g2,g3⟩:=key ti.fields 0 X8 (fun f hf=>by
     rw[<-QT.1]at hf;obtain⟨F,h1,rfl⟩:=p6.1 hf;obtain⟨i,hi⟩:=C3 h1;have UP:fs[i]?=some F:=by simpa using hi
     have J3:i<xs.length:=by
      rw[RN];rcases m6 i fs.size with h'|h'
      ·exact h'
      ·rw[G0 h']at UP;cases UP
     exact⟨xs[i],by rw[QV i F UP,i8 J3],rfl⟩) (v4 _)
    exact⟨ts,by simpa using g1,g2,by simpa using g3⟩
   | _=>have hk:ti.kind=none:=fit.kind.symm;have hb:ti.bool=false:=fit.bool.symm;have N8:ti.str=false:=fit.str.symm;have he:ti.elem=none:=fit.elem.symm;have hf:=fit.fields;simp only[kY,C7]at hf;simp[hk,hb,N8,he,hf]at J5
theorem wT (hΓ:Γ.chk P=true){r:Reach}{base n:Nat}:∀{ts:List TypeId} {vs:List Value} {ds:List (DataW H)} {ps:List MemPlace},ts.all (okT Γ n)=true->
  (∀(j:Nat) t v,ts[j]?=some t->vs[j]?=some v->Value.okWide P w r base t v)->DataW.TrodAll enc P w 0 sp SE ts vs ds ps->
  ∃xs,RTVs w (fun b=>b<w.heap.size) vs xs/\qp Γ n ts xs
 | [],vs,ds,ps,_,_,h=>by
  obtain⟨rfl,rfl,rfl⟩:=trodAll_nil h
  exact⟨[],trivial,trivial⟩
 | t::ts,vs,ds,ps,J5,hw,h=>by
  obtain⟨v,vs,d,ds,p,q,rfl,rfl,rfl,h1,h2⟩:=trodAll_cons h;simp only[G7,c8]at J5;obtain⟨xs,g1,g2⟩:=wT hΓ J5.2 (fun j t v h3 h4=>hw (j+1) t v (by simpa using h3) (by simpa using h4)) h2;obtain⟨fuel,hf⟩:=h1;obtain⟨ys,g3,g4,g5⟩:=Ff hΓ n t fuel _ _ J5.1 hf;have hv:=hw 0 t v rfl rfl
  cases hT:Γ.get t with
  | none=>cases n<;>simp[okT,hT]at J5
  | some ti=>
   obtain⟨i,d',fit⟩:=Env.fit hΓ hT;have Oi:=fit.agg
   cases ha:ti.agg with
   | true=>
    rw[ha]at Oi
    have:∃cs,v= .agg cs:=by
     simp only[Value.okWide,fit.und]at hv
     cases d'<;>simp[vE]at Oi
     ·obtain⟨cs,h,_⟩:=hv;exact⟨cs,h⟩
     ·obtain⟨cs,h,_⟩:=hv;exact⟨cs,h⟩
    obtain⟨cs,rfl⟩:=this
    exact⟨.agg ys::xs,⟨⟨cs,rfl,g3⟩,g1⟩,⟨by simp only[Az,hT,ha];exact⟨ys,rfl,g4⟩,g2⟩⟩
   | false=>
    rw[ha]at Oi
    have Oz:v.cells=#[v]:=by
     have hk:=fit.kind;have hb:=fit.bool;have N8:=fit.str;have he:=fit.elem
     cases d' with
     | int k=>obtain⟨m,rfl⟩:=okWide_int fit.und hv;rfl
     | bool=>obtain⟨m,rfl⟩:=okWide_bool fit.und hv;rfl
     | string=>obtain⟨m,rfl⟩:=okWide_string fit.und hv;rfl
     | slice e=>obtain⟨a,l,c,rfl⟩:=okWide_slice fit.und hv;rfl
     | struct fs=>simp[vE]at Oi
     | array m e=>simp[vE]at Oi
     | _=>
      exfalso;have hf:=fit.fields;simp only[kY,C7]at hf;have h1:=J5.1
      cases n with
      | zero=>simp[okT]at h1
      | succ n=>simp only[okT,hT]at h1;simp[<-hk,<-hb,<-N8,<-he,hf,jo,Bt,xZ,Db]at h1
    rw[Oz]at g3
    match ys,g3 with
    | [y],g3=>exact⟨.c y::xs,⟨g3.1,g1⟩,⟨by simp only[Az,hT,ha];exact⟨y,rfl,g4⟩,g2⟩⟩
    | [],g3=>exact g3.elim
    | _::_::_,g3=>exact g3.2.elim
theorem oQ (hl:laidOutB P=true){W W':World}{ZW:Nat->Bool}(hb:Below W.heap.size W W'):∀{ts:List TypeId} {vs:List Value} {ds:List (DataW H)} {ps:List MemPlace},
  ts.all (fun t=>P.readableRec t&&decide (t<P.types.size))=true->DataW.TrodAll enc P W 0 (fun _=>true) true ts vs ds ps->(∀p∈ps,p.block<W.heap.size)->(∀p∈ps,ZW p.block=true)->DataW.TrodAll enc P W' 0 ZW true ts vs ds ps
 | [],vs,ds,ps,_,h,_,_=>by
  obtain⟨rfl,rfl,rfl⟩:=trodAll_nil h
  rfl
 | t::ts,vs,ds,ps,hr,h,J3,hs=>by
  obtain⟨v,vs,d,ds,p,q,rfl,rfl,rfl,h1,h2⟩:=trodAll_cons h;simp only[G7,c8,i7]at hr
  exact⟨p,q,WideElems.Trod_stays hl hr.1.1 hr.1.2 h1 (fun x hx=>hb.same (J3 x (by simp[hx]))) (fun x hx=>hs x (by simp[hx])),
   oQ hl hb (by simpa using hr.2) h2 (fun x hx=>J3 x (by simp[hx])) (fun x hx=>hs x (by simp[hx])),rfl⟩
theorem GW (hl:laidOutB P=true){f:FuncId}{fn:Func}{s:ChangeSpec}{W:World}{args:Array Value}{ds:List (DataW H)}{gs:List (DataW H)}{before:List MemPlace}{tb:TypeId}
  (T0:fn.resultTypes=#[tb]) (htb:P.underlying tb=some .bool) (M0:s.vars=[]) (S1:fn.params.toList.all (fun t=>P.readableRec t&&decide (t<P.types.size))=true)
  (Ph:s.fn H ds={results:=[.lit (.bool true)],args:=ds}) {xs:List TV} (hx:RTVs W (fun b=>b<W.heap.size) args.toList xs) (hs:Sim.Spec P f xs (.r (.c (.t (.bool true)))))
  (hW:DataW.Whole enc P fn.params.toList s.vars false W args.toList ds gs before):
  Calls P f args W fun e W'=>∃v,e= .returned v/\s.post enc P fn false true false false W args v W':=by
 refine(hs.2 W args hx).mono fun e W' ⟨v,he,hb,hr⟩=>⟨v,he,?_⟩;obtain⟨ρ,okp,_,hv,_⟩:=hr;have O1:v= .bool true:=fH hv;subst O1;have YK:=hW;have J3:=hW.lt;rw[M0]at hW;obtain⟨p,q,hA,hV,SQ,hz,hn⟩:=hW;obtain⟨rfl,rfl⟩:=trodVars_none hV
 have Vx:∀(b:Nat) (sp:Nat->Bool) (hd:Bool),DataW.TrodAll enc P W' b sp hd fn.resultTypes.toList ((Value.bool true).resultList fn.resultTypes.size) (s.fn H (ds++[])).results []:=by intro b sp hd;rw[m9,Ph,T0];exact trodAll_cons_mk (shut_bool htb _) trodAll_mk0
 refine⟨ds,[],before,[],before,[],YK,Vx _ _ _,?_,?_,hb.frame _,fun h=>by cases h⟩
 ·rw[m9,Ph];rw[m9]at SQ;subst SQ;exact oQ hl hb S1 hA J3 (fun x hx=>by simpa using J3 x hx)
 ·rw[M0,m9,Ph];rfl
theorem ui:∀{ts:List TypeId} {vs:List Value} {ds:List (DataW H)} {ps:List MemPlace},DataW.TrodAll enc P w 0 sp SE ts vs ds ps->ds.length=ts.length
 | [],vs,ds,ps,h=>by
  obtain⟨rfl,rfl,rfl⟩:=trodAll_nil h
  rfl
 | t::ts,vs,ds,ps,h=>by
  obtain⟨v,vs,d,ds,p,q,rfl,rfl,rfl,h1,h2⟩:=trodAll_cons h;simp[ui h2]
end
theorem zT {Γ:Env}{n:Nat}{t:TypeId}{ts:List TypeId}{xs:List TV}(h:qp Γ n (t::ts) xs):∃x Xu,xs=x::Xu/\Az Γ n t x/\qp Γ n ts Xu:=by
 cases xs with
 | nil=>exact h.elim
 | cons x xs=>exact⟨x,xs,rfl,h.1,h.2⟩
theorem BE {Γ:Env}{n:Nat}{xs:List TV}(h:qp Γ n [] xs):xs=[]:=by
 cases xs with
 | nil=>rfl
 | cons x xs=>exact h.elim
theorem NM {α:Type}{l:List α}{x:TypeId}(h:l.length=#[x].toList.length):∃a,l=[a]:=by
 match l,h with
 | [a],_=>exact⟨a,rfl⟩
end Go.Sim
namespace Go.Sim
mutual
def aH (L:Int):Tr->Prop
 | .str s=>(s.length:Int)<=L
 | .lst _ rows=>(rows.length:Int)<=L/\gR L rows
 | .int _ _=>True
 | .bool _=>True
def aR (L:Int):List Tr->Prop
 | []=>True
 | c::cs=>aH L c/\aR L cs
def gR (L:Int):List (List Tr)->Prop
 | []=>True
 | r::rs=>aR L r/\gR L rs
end
theorem ua {L:Int}:∀{rows:List (List Tr)},gR L rows->∀r∈rows,aR L r
 | [],_,r,h=>by cases h
 | r0::rs,h,r,hr=>by
  rw[gR]at h;rcases d7.1 hr with rfl|hr
  ·exact h.1
  ·exact ua h.2 r hr
def EO:Tr->RC'
 | .lst sz rows=> .arr sz rows
 | .int k n=> .t (.int k n)
 | .bool b=> .t (.bool b)
 | .str s=> .t (.str s)
end Go.Sim
namespace Go.Sim
open Go.RowKit
def Ws (m:Bool)(P:Program)(Γ:Env)(N:Nat)(c:Code)(K:Out->St->Prop)(st:St):Prop:=
 Γ.chk P=true->P.follows .mixedOrders=true->∀(B:Nat) (M:Nat->Prop) (w0:Start) (ρ:Rho) (a:Act) (w:World) (Q:Exit->Act->World->Prop),
  (m=true->(∀b,¬M b)/\∀o,w0.fx o=none)->(∀o v,w0.fx o=some v->o.1=0)->Conc N B M w0 ρ st.fs a w->
  (∀e J2 ρ' a' w',K e J2->Conc N B M w0 ρ' J2.fs a' w'->Q e.at a' w')->c.wp P Q a w
theorem Ma:∃F:Bool->Program->Env->Nat->Code->(Out->St->Prop)->St->Prop,F=Ws:=⟨Ws,rfl⟩
noncomputable def Wo:Bool->Program->Env->Nat->Code->(Out->St->Prop)->St->Prop:=Classical.choose Ma
theorem lH:Wo=Ws:=r9 Ma
theorem Mn:∃F:Bool->St->St->Prop,F=LeqG:=⟨LeqG,rfl⟩
noncomputable def Lo:Bool->St->St->Prop:=Classical.choose Mn
theorem Gl:Lo=LeqG:=r9 Mn
attribute [irreducible] Wo Lo
section
variable {P:Program} {Γ:Env} {N:Nat} {m:Bool} {K:Out->St->Prop} {st J2:St} {c x y:Code}
theorem vi (h:W m P Γ N c K st):Wo m P Γ N c K st:=by rw[lH];intro hΓ aK B M w0 ρ a w Q hM hF hc hQ;exact MK hΓ aK hM hF c K st ρ a w Q h hc hQ
theorem W6 (h:LeqG m st J2):Lo m st J2:=by rw[Gl];exact h
theorem W1 (h:Wo m P Γ N x (fun e J2=>(match e with
   | .normal=>Wo m P Γ N y K J2
   | e=>K e J2)) st):Wo m P Γ N (.seq x y) K st:=by
 rw[lH]at *
 intro hΓ aK B M w0 ρ a w Q hM hF hc hQ;refine wp_seq (h hΓ aK B M w0 ρ a w _ hM hF hc fun e J2 ρ' a' w' hK J6=>?_)
 cases e with
 | normal=>exact hK hΓ aK B M w0 ρ' a' w' Q hM hF J6 hQ
 | exit id=>exact hQ (.exit id) _ _ _ _ hK J6
 | pan v=>exact hQ (.pan v) _ _ _ _ hK J6
 | ret=>exact hQ .ret _ _ _ _ hK J6
theorem ou (ι:Type)(S:ι->St)(h:Wo m P Γ N x (fun e J2=>(match e with
    | .normal=>∃i,Lo m J2 (S i)
    | e=>K e J2)) st) (h2:∀i,Wo m P Γ N y K (S i)):Wo m P Γ N (.seq x y) K st:=by
 rw[lH]at *
 rw[Gl]at h;intro hΓ aK B M w0 ρ a w Q hM hF hc hQ;refine wp_seq (h hΓ aK B M w0 ρ a w _ hM hF hc fun e J2 ρ' a' w' hK J6=>?_)
 cases e with
 | normal=>obtain⟨i,hi⟩:=hK;obtain⟨ρ'',RB⟩:=hi.ok hM hF J6;exact h2 i hΓ aK B M w0 ρ'' a' w' Q hM hF RB hQ
 | exit id=>exact hQ (.exit id) _ _ _ _ hK J6
 | pan v=>exact hQ (.pan v) _ _ _ _ hK J6
 | ret=>exact hQ .ret _ _ _ _ hK J6
theorem W2 {id:Nat}{ops:Array Oper}{draw:Bool}(h:Nt P Γ N ops.toList draw st (K .normal)):Wo m P Γ N (.region id ops draw) K st:=vi (c:= .region id ops draw) h
theorem W7 (h:K .normal st):Wo m P Γ N .skip K st:=vi (c:= .skip) h
theorem W8 {id:Nat}(h:K (.exit id) st):Wo m P Γ N (.exit id) K st:=vi (c:= .exit id) h
theorem W9 (h:K .ret st):Wo m P Γ N .ret K st:=vi (c:= .ret) h
theorem W3 {d:Operand}(h:match evL (dw st.fr) d with
   | .r (.c (.t (.bool b)))=>ifB b (Wo m P Γ N x K (yk st d true)) (Wo m P Γ N y K (yk st d false))
   | _=>False):Wo m P Γ N (.cond d x y) K st:=by
 rw[lH]at *
 intro hΓ aK B M w0 ρ a w Q hM hF hc hQ;split at h
 ·rename_i b hb;have hv:=(hc.eval d).1;rw[show evL st.fs.L d=tB b from hb]at hv;refine wp_cond (fH hv) ?_
  cases b with
  | true=>exact(show Ws m P Γ N x K (yk st d true) from h) hΓ aK B M w0 ρ a w Q hM hF (by rw[vj hb];exact hc) hQ
  | false=>exact(show Ws m P Γ N y K (yk st d false) from h) hΓ aK B M w0 ρ a w Q hM hF (by rw[vj hb];exact hc) hQ
 ·exact h.elim
theorem W4 {id:Nat}(h:Wo m P Γ N c (fun e J2=>(match e with
   | .exit id'=>(match Nat.beq id' id with
     | true=>K .normal J2
     | false=>K (.exit id') J2)
   | e=>K e J2)) st):Wo m P Γ N (.block id c) K st:=by
 rw[lH]at *
 intro hΓ aK B M w0 ρ a w Q hM hF hc hQ;refine wp_block (h hΓ aK B M w0 ρ a w _ hM hF hc fun e J2 ρ' a' w' hK J6=>?_);exact V14
theorem W5 (h:∃(ι:Type) (S:ι->St) (μ:ι->Nat) (i0:ι),Lo m st (S i0)/\∀i,Wo m P Γ N c (fun e J2=>(match e with
   | .normal=>∃j,Lo m J2 (S j)/\μ j<μ i
   | e=>K e J2)) (S i)):Wo m P Γ N (.loop c) K st:=by
  rw[lH,Gl]at *
  intro hΓ aK B M w0 ρ a w Q hM hF hc hQ
  have ih:∀(K:Out->St->Prop) (st:St) (ρ:Rho) (a:Act) (w:World) (Q:Exit->Act->World->Prop),Ws m P Γ N c K st->Conc N B M w0 ρ st.fs a w->
   (∀e J2 ρ' a' w',K e J2->Conc N B M w0 ρ' J2.fs a' w'->Q e.at a' w')->c.wp P Q a w:=fun K st ρ a w Q h hc hQ=>h hΓ aK B M w0 ρ a w Q hM hF hc hQ
  exact V1
@[reducible] def Wn (m:Bool) (P:Program) (Γ:Env) (N:Nat) (K:Out->St->Prop) (st:St):Code->Prop
 | .skip=>K .normal st
 | .region _ ops draw=>(match draw with
   | false=>me P Γ N ops.toList ops.toList st [] fun J2 _=>K .normal J2
   | true=>me P Γ N ops.toList ops.toList st [] fun J2 log=>tw ops.toList log.reverse=true/\K .normal J2)
 | .seq x y=>Wo m P Γ N x (fun e J2=>(match e with
   | .normal=>Wo m P Γ N y K J2
   | e=>K e J2)) st
 | .cond c x y=>(match evL (dw st.fr) c with
   | .r (.c (.t (.bool b)))=>ifB b (Wo m P Γ N x K (yk st c true)) (Wo m P Γ N y K (yk st c false))
   | _=>False)
 | .block id c=>Wo m P Γ N c (fun e J2=>(match e with
   | .exit id'=>(match Nat.beq id' id with
     | true=>K .normal J2
     | false=>K (.exit id') J2)
   | e=>K e J2)) st
 | .loop c=>∃(ι:Type) (S:ι->St) (μ:ι->Nat) (i0:ι),Lo m st (S i0)/\∀i,Wo m P Γ N c (fun e J2=>(match e with
   | .normal=>∃j,Lo m J2 (S j)/\μ j<μ i
   | e=>K e J2)) (S i)
 | .exit id=>K (.exit id) st
 | .ret=>K .ret st
 | _=>False
theorem Wx (h:Wn m P Γ N K st c):Wo m P Γ N c K st:=by
 cases c with
 | skip=>exact W7 h
 | region id ops draw=>
  refine W2 ?_
  cases draw with
  | false=>exact h
  | true=>exact .inl h
 | seq x y=>exact W1 h
 | cond d x y=>exact W3 h
 | block id c=>exact W4 h
 | loop c=>exact W5 h
 | exit id=>exact W8 h
 | ret=>exact W9 h
 | label=>exact h.elim
 | _=>exact h.elim
def Kc (H H':Id->Option AO)(L:Nat->AV):List (Nat×AV)->Prop
 | []=>True
 |(i,v)::r=>(v=L i\/∃c t,L i= .r (.c c)/\v= .r (.c (.t t))/\eR H c t/\∀q∈c.ids,H' q=none)/\Kc H H' L r
def ML (H:Id->Option AO):List (Id×Option AO)->Prop
 | []=>True
 |(q,x)::r=>(x=none\/x=H q)/\ML H r
theorem sI {H H':Id->Option AO}{L:Nat->AV}:∀{l:List (Nat×AV)} {i:Nat} {v:AV},Kc H H' L l->(i,v)∈l->v=L i\/∃c t,L i= .r (.c c)/\v= .r (.c (.t t))/\eR H c t/\∀q∈c.ids,H' q=none
 | [],_,_,_,h=>by cases h
 |(j,u)::r,i,v,h,hm=>by
  rcases d7.1 hm with e|hm
  ·injection e with e1 e2;subst e1;subst e2;exact h.1
  ·exact sI h.2 hm
theorem BJ {H:Id->Option AO}:∀{l:List (Id×Option AO)} {q:Id} {x:AO},ML H l->(q,some x)∈l->H q=some x
 | [],_,_,_,h=>by cases h
 |(p,u)::r,q,x,h,hm=>by
  rcases d7.1 hm with e|hm
  ·injection e with e1 e2;subst e1;subst e2;rcases h.1 with e|e
   ·cases e
   ·exact e.symm
  ·exact BJ h.2 hm
theorem jJ (J2:St)(h1:Kc (co st.h) (co J2.h) (dw st.fr) J2.fr)(h2:ML (co st.h) J2.h)(hu:J2.u=st.u)(h:Wo m P Γ N c K J2):Wo m P Γ N c K st:=by
 rw[lH]at *
 intro hΓ aK B M w0 ρ a w Q hM hF hc hQ;refine h hΓ aK B M w0 ρ a w Q hM hF ?_ hQ;have N4:∀q x,J2.fs.H q=some x->st.fs.H q=some x:=fun q x hq=>BJ h2 (jU hq);have J5:∀b,okB ρ st.fs.H w b->okB ρ J2.fs.H w b:=fun b hb=>⟨hb.1,fun o x ho=>hb.2 o x (N4 o x ho)⟩
 have Rc:∀t o,o∈(J2.fs.L t).ids->o∈(st.fs.L t).ids:=fun t o ho=>by
  rcases iR J2.fr t with e|hm
  ·rw[show J2.fs.L t=AV.unk from e]at ho;simp[AV.ids]at ho
  ·rcases sI h1 hm with e|⟨cc,tt,_,e2,_,_⟩
   ·exact(show J2.fs.L t=st.fs.L t from e)▸ho
   ·rw[show J2.fs.L t=_ from e2]at ho;simp[AV.ids,AR.ids,AC.ids]at ho
 refine⟨hc.size,hc.defers,fun t=>?_,fun o x ho=>?_,fun o o' x x' b ho L9=>hc.sep o o' x x' b (N4 o x ho) (N4 o' x' L9),fun o x b ho hb=>hc.rng o x b (N4 o x ho) hb,hc.keep,hc.base,hc.alw,hc.cst,fun o v hv=>⟨(hc.fix o v hv).1,by have:=(hc.fix o v hv).2;simpa [St.fs,hu]using this⟩,fun t o ho=>by have:=hc.usedL t o (Rc t o ho);simpa [St.fs,hu]using this,fun o x ho=>by have:=hc.usedH o x (N4 o x ho);simpa [St.fs,hu]using this⟩
 ·rcases iR J2.fr t with e|hm
  ·rw[show J2.fs.L t=AV.unk from e];trivial
  ·rcases sI h1 hm with e|⟨cc,tt,e1,e2,e3,e4⟩
   ·rw[show J2.fs.L t=st.fs.L t from e];exact(hc.slot t).keep (fun b hb=>⟨rfl,J5 b hb⟩) fun _ _=>rfl
   ·rw[show J2.fs.L t=_ from e2];have hs:=hc.slot t;rw[show st.fs.L t=_ from e1]at hs;refine jN hc J5 (fun q hq x b hx hb=>?_) hs e3;have hr:=hc.rng q x b hx hb
    exact⟨⟨hr.1,hc.alw b hr.2⟩,fun o y ho Oo=>by
     have K0:o≠q:=fun e=>by
      subst e;have:=e4 o hq;rw[show co J2.h o=some y from ho]at this
      cases this
     exact hc.sep o q y x b (N4 o y ho) hx K0 Oo hb⟩
 ·exact(hc.obj o x (N4 o x ho)).keep (fun b hb=>⟨rfl,J5 b hb⟩) (fun _ _=>rfl) rfl (fun _ h=>h) fun _ _=>rfl
end
theorem bF {P:Program}{Γ:Env}{f:FuncId}{fn:Func}{c:Code}{ts:List TV}{r:Res}(hΓ:Γ.chk P=true)(aK:P.follows .mixedOrders=true)(hf:P.funcs[f]?=some fn)(hb:fn.body=some c)(hn:(fn.name== "runtime.NumGoroutine")=false)
  (hN:Nat.ble ts.length fn.ntmps=true) (h:Wo true P Γ fn.ntmps c (Mh Γ fn.results.toList r) (st0 ts)):Spec P f ts r:=by
 rw[lH]at h;refine⟨nS hf hb hn,fun w vs PW=>calls_of_wp hf hb ?_⟩;have hc:=pN (N:=fn.ntmps) PW (E2 hN);refine h hΓ aK _ _ _ _ _ _ _ (fun _=>⟨fun _ h=>h,fun _=>rfl⟩) (fun _ _ h=>by cases h) hc fun e J2 ρ' a' w' hK J6=>?_;exact V13
theorem aw {P:Program}{Γ:Env}{f:FuncId}{fn:Func}{c:Code}{xs:List AV}{h0:List (Id×AO)}{r:AV}{h1:List (Id×AO)}(hΓ:Γ.chk P=true)(aK:P.follows .mixedOrders=true)(hf:P.funcs[f]?=some fn)(hb:fn.body=some c)(hn:(fn.name== "runtime.NumGoroutine")=false)
  (hN:Nat.ble xs.length fn.ntmps=true) (Ot:sr xs h0 .unk []=true) (h:Wo false P Γ fn.ntmps c (Mi Γ fn.results.toList r h1) (stG xs h0)):bf P f xs h0 r h1:=by
 rw[lH]at h;refine⟨nS hf hb hn,fun w vs ρ PW hl Ow=>calls_of_wp hf hb ?_⟩;have hc:=tx (N:=fn.ntmps) Ot PW hl Ow (E2 hN)
 have hF:∀o v,(if(lkH h0 o).isSome=true then some (ρ o)else none)=some v->o.1=0:=fun o v hv=>by
  exact V49
 refine h hΓ aK _ _ _ _ _ _ _ s_ hF hc fun e J2 ρ' a' w' hK J6=>?_;exact V4
def vwC (H H':Id->Option AO)(c d:AC):Prop:=d=c\/(∃n m,c= .nils n/\d= .nils m)\/∃t,d= .t t/\eR H c t/\∀q∈c.ids,H' q=none
def Hi (H H':Id->Option AO):List AC->List AC->Prop
 | [],[]=>True
 | c::cs,d::ds=>vwC H H' c d/\Hi H H' cs ds
 | _,_=>False
def Nj (H H':Id->Option AO)(L:Nat->AV):List (Nat×AV)->Prop
 | []=>True
 |(i,v)::r=>(v=L i\/(∃c d,L i= .r (.c c)/\v= .r (.c d)/\vwC H H' c d)\/∃cs ds,L i= .r (.agg cs)/\v= .r (.agg ds)/\Hi H H' cs ds)/\Nj H H' L r
def vwO (H H':Id->Option AO)(y x:Option AO):Prop:=x=y\/(∃cs ds,y=some (.box cs)/\x=some (.box ds)/\Hi H H' cs ds)\/
 ∃sz rows i off n row t,y=some (.dar sz rows (some (i,off,n)))/\rows[i]?=some row/\off<sz/\eR H (.own n) t/\H' n=none/\x=some (.dar sz (rows.set i (row.set off (.t t))) none)
def vwH (H H':Id->Option AO):List (Id×Option AO)->Prop
 | []=>True
 |(q,x)::r=>(x=none\/vwO H H' (H q) x)/\vwH H H' r
theorem xA {H H':Id->Option AO}{L:Nat->AV}:∀{l:List (Nat×AV)} {i:Nat} {v:AV},Nj H H' L l->(i,v)∈l->(v=L i\/(∃c d,L i= .r (.c c)/\v= .r (.c d)/\vwC H H' c d)\/∃cs ds,L i= .r (.agg cs)/\v= .r (.agg ds)/\Hi H H' cs ds)
 | [],_,_,_,h=>by cases h
 |(j,u)::r,i,v,h,hm=>by
  rcases d7.1 hm with e|hm
  ·injection e with e1 e2;subst e1;subst e2;exact h.1
  ·exact xA h.2 hm
theorem FU {H H':Id->Option AO}:∀{l:List (Id×Option AO)} {q:Id} {x:AO},vwH H H' l->(q,some x)∈l->vwO H H' (H q) (some x)
 | [],_,_,_,h=>by cases h
 |(p,u)::r,q,x,h,hm=>by
  rcases d7.1 hm with e|hm
  ·injection e with e1 e2;subst e1;subst e2;rcases h.1 with e|e
   ·cases e
   ·exact e
  ·exact FU h.2 hm
theorem Gh {H H':Id->Option AO}{c d:AC}(h:vwC H H' c d):∀o∈d.ids,o∈c.ids:=by
 rcases h with rfl|⟨n,m,rfl,rfl⟩|⟨t,rfl,_⟩
 ·exact fun _ h=>h
 ·intro o ho;simp[AC.ids]at ho
 ·intro o ho;simp[AC.ids]at ho
theorem wL {H H':Id->Option AO}:∀{cs ds:List AC},Hi H H' cs ds->∀o∈ds.flatMap AC.ids,o∈cs.flatMap AC.ids
 | [],[],_,_,h=>h
 | c::cs,d::ds,h,o,ho=>by
  simp only[u6,e7]at ho⊢
  exact ho.imp (Gh h.1 o) (wL h.2 o)
 | [],_::_,h,_,_=>h.elim
 | _::_,[],h,_,_=>h.elim
section
variable {P:Program} {Γ:Env} {N:Nat} {m:Bool} {K:Out->St->Prop} {st J2:St} {c x y:Code}
theorem wy (J2:St)(h1:Lo m st J2)(h:Wo m P Γ N c K J2):Wo m P Γ N c K st:=by
 rw[lH]at *
 rw[Gl]at h1;intro hΓ aK B M w0 ρ a w Q hM hF hc hQ;obtain⟨ρ',J6⟩:=h1.ok hM hF hc;exact h hΓ aK B M w0 ρ' a w Q hM hF J6 hQ
theorem wE (J2:St)(h1:Nj (co st.h) (co J2.h) (dw st.fr) J2.fr)(h2:vwH (co st.h) (co J2.h) J2.h)(hu:J2.u=st.u)(h:Wo m P Γ N c K J2):Wo m P Γ N c K st:=by
 rw[lH]at *
 intro hΓ aK B M w0 ρ a w Q hM hF hc hQ;refine h hΓ aK B M w0 ρ a w Q hM hF ?_ hQ;have hO:∀q x,J2.fs.H q=some x->vwO (co st.h) (co J2.h) (co st.h q) (some x):=fun q x hq=>FU h2 (jU hq)
 have N4:∀q x,J2.fs.H q=some x->∃y,st.fs.H q=some y:=fun q x hq=>by
  rcases hO q x hq with e|⟨cs,ds,e,_⟩|⟨_,_,_,_,_,_,_,e,_⟩
  ·exact⟨x,e.symm⟩
  ·exact⟨_,e⟩
  ·exact⟨_,e⟩
 have J5:∀b,okB ρ st.fs.H w b->okB ρ J2.fs.H w b:=fun b hb=>⟨hb.1,fun o x ho=>by obtain⟨y,hy⟩:=N4 o x ho;exact hb.2 o y hy⟩
 have Tl:∀q,co J2.h q=none->∀x b,st.fs.H q=some x->Own ρ q b->okB ρ J2.fs.H w b:=by
  intro q hq x b hx hb;have hr:=hc.rng q x b hx hb;refine⟨⟨hr.1,hc.alw b hr.2⟩,fun o y ho Oo=>?_⟩
  have K0:o≠q:=fun e=>by
   subst e;rw[show J2.fs.H o=none from hq]at ho
   cases ho
  obtain⟨y',Qp⟩:=N4 o y ho;exact hc.sep o q y' x b Qp hx K0 Oo hb
 have L0:∀{v:Value} {c d:AC},RC B ρ w (okB ρ st.fs.H w) v c->vwC (co st.h) (co J2.h) c d->RC B ρ w (okB ρ J2.fs.H w) v d:=by
  intro v c d hv XU;rcases XU with rfl|⟨n,m,rfl,rfl⟩|⟨t,rfl,e3,e4⟩
  ·exact hv.keep (fun b hb=>⟨rfl,J5 b hb⟩) fun _ _=>rfl
  ·exact hv
  ·exact jN hc J5 (fun q hq x b hx hb=>Tl q (e4 q hq) x b hx hb) hv e3
 have L6:∀{vs:List Value} {cs ds:List AC},RCs B ρ w (okB ρ st.fs.H w) vs cs->Hi (co st.h) (co J2.h) cs ds->RCs B ρ w (okB ρ J2.fs.H w) vs ds:=by
  intro vs
  induction vs with
  | nil=>
   intro cs ds h1 h2
   cases cs with
   | nil=>cases ds with
    | nil=>trivial
    | cons=>exact h2.elim
   | cons=>exact h1.elim
  | cons v vs ih=>
   intro cs ds h1 h2
   cases cs with
   | nil=>exact h1.elim
   | cons c cs=>cases ds with
    | nil=>exact h2.elim
    | cons d ds=>exact⟨L0 h1.1 h2.1,ih h1.2 h2.2⟩
 have Rc:∀t o,o∈(J2.fs.L t).ids->o∈(st.fs.L t).ids:=fun t o ho=>by
  rcases iR J2.fr t with e|hm
  ·rw[show J2.fs.L t=AV.unk from e]at ho;simp[AV.ids]at ho
  ·rcases xA h1 hm with e|⟨c,d,e1,e2,e3⟩|⟨cs,ds,e1,e2,e3⟩
   ·exact(show J2.fs.L t=st.fs.L t from e)▸ho
   ·rw[show J2.fs.L t=_ from e2]at ho;rw[show st.fs.L t=_ from e1];exact Gh e3 o ho
   ·rw[show J2.fs.L t=_ from e2]at ho;rw[show st.fs.L t=_ from e1];exact wL e3 o ho
 refine⟨hc.size,hc.defers,fun t=>?_,fun o x ho=>?_,fun o o' x x' b ho L9=>by obtain⟨y,hy⟩:=N4 o x ho;obtain⟨y',Qp⟩:=N4 o' x' L9;exact hc.sep o o' y y' b hy Qp,fun o x b ho hb=>by obtain⟨y,hy⟩:=N4 o x ho;exact hc.rng o y b hy hb,hc.keep,hc.base,hc.alw,hc.cst,fun o v hv=>⟨(hc.fix o v hv).1,by have:=(hc.fix o v hv).2;simpa [St.fs,hu]using this⟩,fun t o ho=>by have:=hc.usedL t o (Rc t o ho);simpa [St.fs,hu]using this,fun o x ho=>?_⟩
 ·rcases iR J2.fr t with e|hm
  ·rw[show J2.fs.L t=AV.unk from e];trivial
  ·rcases xA h1 hm with e|⟨c,d,e1,e2,e3⟩|⟨cs,ds,e1,e2,e3⟩
   ·rw[show J2.fs.L t=st.fs.L t from e];exact(hc.slot t).keep (fun b hb=>⟨rfl,J5 b hb⟩) fun _ _=>rfl
   ·rw[show J2.fs.L t=_ from e2];have hs:=hc.slot t;rw[show st.fs.L t=_ from e1]at hs;exact L0 hs e3
   ·rw[show J2.fs.L t=_ from e2];have hs:=hc.slot t;rw[show st.fs.L t=_ from e1]at hs;obtain⟨us,hv,hs⟩:=hs;exact⟨us,hv,L6 hs e3⟩
 ·rcases hO o x ho with e|⟨cs,ds,e1,e2,e3⟩|⟨sz,rows,i,off,n,row,t,e1,e2,e3,e4,e5,e6⟩
  ·exact(hc.obj o x e.symm).keep (fun b hb=>⟨rfl,J5 b hb⟩) (fun _ _=>rfl) rfl (fun _ h=>h) fun _ _=>rfl
  ·injection e2 with e2;subst e2;obtain⟨b,cur,t,fz,g1,g2,g3,g4⟩:=hc.obj o _ e1;exact⟨b,cur,t,fz,g1,g2,g3,L6 g4 e3⟩
  ·injection e6 with e6;subst e6;obtain⟨On,g⟩:=hc.obj o _ e1
   have L2:∀r∈rows.set i (row.set off (DC.t t)),r.length=sz:=fun r hr=>by
    rcases u5 hr with h'|h'
    ·exact On r h'
    ·rw[h',o8];exact On row (d4 e2)
   refine⟨L2,?_⟩;rcases g with⟨_,_,g⟩|⟨b,cap,cur,e,fz,Fp,g1,g2,g3,g4,g5,g6,g7,g8,g9⟩
   ·cases g
   ·refine .inr ⟨b,cap,cur,e,fz,Fp,by rw[o8];exact g1,g2,g3,by rw[o8];exact g4,g5,g6,g7,g8,?_⟩
    have L8:=kE (off:=off) (row:=row) (row':=row.set off (DC.t t)) (ts:=[DC.t t]) (sz:=sz) (by have:=On row (d4 e2);simp;omega) (by
     rw[List.set_eq_take_append_cons_drop,b9 (by have:=On row (d4 e2);omega)];simp) rows i On e2
    have hi:i<rows.length:=by
     rcases m6 i rows.length with h'|h'
     ·exact h'
     ·rw[d8 h']at e2;cases e2
    have Un:=aU sz rows On;have L3:(i+1)*sz<=rows.length*sz:=l6 _ hi;have hm:(i+1)*sz=i*sz+sz:=by rw[o9];omega
    have J0:i*sz+off+[DC.t t].length<=rows.flatten.length:=by rw[Un];simp;omega
    refine⟨?_,fun p v d hv hd=>?_⟩
    ·rw[o8,L8];have:=g9.1;simp only[c7,j9,x8]at this⊢;omega
    ·rw[o8]at hv;simp only[cz];rw[L8,xD J0]at hd;have h9:=g9.2 p v;by_cases q1:p=i*sz+off
     ·rw[b8 o_,b9 (by simp;omega)]at hd;have q2:p-(i*sz+off)=0:=o_;rw[q2,e9]at hd;injection hd with hd;subst hd;obtain⟨d0,SL⟩:∃d0,rows.flatten[p]?=some d0:=⟨_,i8 (by rw[q1];simp at J0;omega)⟩;have:=h9 d0 hv SL;simp only[cz,b9 q1]at this;rw[this.1]
      have Pf:∃A n' c',ρ n= .slice A n' c':=by
       simp only[eR]at e4;split at e4
       ·rename_i fr M3 rows' hq;obtain⟨_,g⟩:=hc.obj n _ hq;rcases g with⟨g,_⟩|⟨_,_,_,_,_,g,_⟩
        ·exact⟨_,_,_,g⟩
        ·exact⟨_,_,_,g⟩
       ·rename_i M3 rows' hq;obtain⟨_,g⟩:=hc.obj n _ hq;rcases g with⟨g,_⟩|⟨_,_,_,_,_,_,g,_⟩
        ·exact⟨_,_,_,g⟩
        ·exact⟨_,_,_,g⟩
       ·exact e4.elim
      exact jN (c:= .own n) (v:=ρ n) hc J5 (fun q hq x b hx hb=>by
       simp only[AC.ids,d7,l8,or_false]at hq;subst hq
       exact Tl _ e5 x b hx hb) ⟨Pf,rfl⟩ e4
     ·have Qi:rows.flatten[p]?=some d:=by
       split at hd
       ·exact hd
       ·rw[b8 (by simp;omega)]at hd;exact hd
      have:=h9 d hv Qi;simp only[cz,b8 q1]at this;exact RD.keep this (fun b hb=>⟨rfl,J5 b hb⟩) fun _ h=>⟨rfl,h⟩
 ·rcases hO o x ho with e|⟨cs,ds,e1,e2,e3⟩|⟨sz,rows,i,off,n,row,t,e1,e2,e3,e4,e5,e6⟩
  ·have:=hc.usedH o x e.symm;simpa [St.fs,hu]using this
  ·injection e2 with e2;subst e2;obtain⟨k1,k2⟩:=hc.usedH o _ e1;refine⟨by simpa [St.fs,hu]using k1,fun o' L9=>?_⟩;have:=k2 o' (wL e3 o' L9);simpa [St.fs,hu]using this
  ·injection e6 with e6;subst e6;obtain⟨k1,k2⟩:=hc.usedH o _ e1;exact⟨by simpa [St.fs,hu]using k1,fun o' L9=>by simp[AO.ids]at L9⟩
def gvR:List (List DC)->List (List DC)->Prop
 | [],[]=>True
 | r::rs,t::ts=>(r.length=t.length/\∀(p:Nat) (c d:DC),r[p]?=some c->t[p]?=some d->d=c\/d=DC.t c.tr\/∃a b,c.tr= .lst a []/\d=DC.t (.lst b []))/\gvR rs ts
 | _,_=>False
theorem od:∀{rs ts:List (List DC)},gvR rs ts->rs.length=ts.length
 | [],[],_=>rfl
 | _::_,_::_,h=>by rw[d5,d5,od h.2]
 | [],_::_,h=>h.elim
 | _::_,[],h=>h.elim
theorem BT {sz:Nat}:∀{rs ts:List (List DC)},gvR rs ts->(∀r∈rs,r.length=sz)->∀r∈ts,r.length=sz
 | [],[],_,_,_,h=>by cases h
 | r::rs,t::ts,h,hu,x,hx=>by
  rcases d7.1 hx with rfl|hx
  ·rw[<-h.1.1];exact hu r s_
  ·exact BT h.2 (fun r hr=>hu r (by simp[hr])) x hx
 | [],_::_,h,_,_,_=>h.elim
 | _::_,[],h,_,_,_=>h.elim
theorem V27{p:Prop}(h:p:=by
 refine⟨by simp only[t6,c7,h.1.1,h1],fun p c d hc hd=>?_⟩;rw[t6,G8]at hc hd;rw[h.1.1]at hc;split at hc
 ·rename_i hp;rw[b9 hp]at hd;exact h.1.2 p c d hc hd
 ·rename_i hp;rw[b8 hp]at hd;exact h2 _ c d hc hd):p:=h
theorem Ch:∀{rs ts:List (List DC)},gvR rs ts->rs.flatten.length=ts.flatten.length/\∀(p:Nat) (c d:DC),rs.flatten[p]?=some c->ts.flatten[p]?=some d->d=c\/d=DC.t c.tr\/∃a b,c.tr= .lst a []/\d=DC.t (.lst b [])
 | [],[],_=>⟨rfl,fun p c d h=>by simp at h⟩
 | r::rs,t::ts,h=>by
  obtain⟨h1,h2⟩:=Ch h.2
  exact V27
 | [],_::_,h=>h.elim
 | _::_,[],h=>h.elim
theorem RT.empty {w:World}{ok:Nat->Prop}{v:Value}{a b:Nat}(h:RT w ok v (.lst a [])):RT w ok v (.lst b []):=by
 cases h with
 | emp A c sz hc=>exact .emp _ _ _ hc
 | lst ad n c sz rows us hn hc hm hu J5 hl L0 OI=>
  have:n=0:=by simpa using hn.symm
  subst this;exact .emp _ _ _ hm
theorem V53{p:Prop}(h:p:=by
 have:p<rows'.flatten.length:=by
  rcases m6 p rows'.flatten.length with h'|h'
  ·exact h'
  ·rw[d8 h']at hd;cases hd
 exact⟨_,i8 o_⟩):p:=h
theorem HK (o:Id){sz:Nat}{rows rows':List (List DC)}(ho:co st.h o=some (.dar sz rows none))(hg:gvR rows rows')(h:Wo m P Γ N c K ⟨st.fr,(o,some (.dar sz rows' none))::st.h,st.u⟩):Wo m P Γ N c K st:=by
 rw[lH]at *
 intro hΓ aK B M w0 ρ a w Q hM hF hc hQ
 have K0:∀q,q≠o->co ((o,some (AO.dar sz rows' none))::st.h) q=co st.h q:=fun q hq=>by
  have:fE q o=false:=by cases hb:fE q o with|false=>rfl|true=>exact absurd (idEq_iff.1 hb) hq
  simp[co,this]
 have QG:co ((o,some (AO.dar sz rows' none))::st.h) o=some (.dar sz rows' none):=by have:fE o o=true:=idEq_iff.2 rfl;simp[co,this]
 obtain⟨hu,g⟩:=hc.obj o _ ho
 have key:∃ρ':Rho,ρ'.val=ρ.val/\ρ'.al=ρ.al/\(∀q,q≠o->∀b,ρ'.fp q b↔ρ.fp q b)/\(∀b,ρ'.fp o b->ρ.fp o b)/\∀ok':Nat->Prop,(∀b,okB ρ st.fs.H w b->ok' b)->(∀b,ρ.fp o b->blk (ρ o)≠some b->¬ρ'.fp o b->ok' b)->RO B ρ' w ok' o (.dar sz rows' none):=by
  rcases g with⟨g1,g2,g3⟩|⟨b,cap,cur,e,fz,Fp,g1,g2,g3,g4,g5,g6,g7,g8,g9⟩
  ·subst g2
   have:rows'=[]:=by have:=od hg;exact z6.1 this.symm
   subst this;exact⟨ρ,rfl,rfl,fun _ _ _=>Iff.rfl,fun _ h=>h,fun ok' _ _=>⟨fun r hr=>by simp at hr,.inl ⟨g1,rfl,rfl⟩⟩⟩
  ·obtain⟨f1,f2⟩:=Ch hg
   refine⟨⟨ρ.val,fun q c=>if q=o then(∃p x,rows'.flatten[p]?=some (.d x)/\Fp p c)else ρ.fp q c,ρ.al⟩,rfl,rfl,fun q hq b=>by simp only[b8 hq],fun c PY=>by
    simp only[if_true]at PY;obtain⟨p,_,_,hp⟩:=PY
    exact(g7 p c hp).1,fun ok' hk N7=>⟨BT hg hu,.inr ⟨b,cap,cur,e,fz,fun p c=>(∃x,rows'.flatten[p]?=some (.d x))/\Fp p c,by rw[<-od hg];exact g1,g2,g3,by rw[<-od hg];exact g4,g5,g6,fun p c OR=>?_,fun p q c SQ h1 h2=>g8 p q c SQ h1.2 h2.2,?_,fun p v d hv hd=>?_⟩⟩⟩
   ·refine⟨?_,(g7 p c OR.2).2⟩;simp only[if_true];obtain⟨⟨x,hx⟩,h2⟩:=OR;exact⟨p,x,hx,h2⟩
   ·rw[<-f1,<-od hg];exact g9.1
   ·rw[<-od hg]at hv;simp only[cz]
    obtain⟨c0,P3⟩:∃c0,rows.flatten[p]?=some c0:=by exact V53
    have:=g9.2 p v c0 hv P3;simp only[cz]at this
    have QO:(∀x,c0= .d x->d≠.d x)->RT w ok' v c0.tr:=by
     intro K0
     cases c0 with
     | t x=>exact RT.keep this fun b' N3=>⟨rfl,hk b' N3⟩
     | d x=>
      refine DT.toRT this fun b' N3=>N7 b' (g7 p b' N3).1 (fun Py=>?_) fun hf=>?_
      ·rw[g1]at Py;injection Py with Py;exact(g7 p b' N3).2 Py.symm
      ·simp only[if_true]at hf;obtain⟨q,y,hq,Sy⟩:=hf;by_cases SQ:p=q
       ·subst SQ;rw[hd]at hq;injection hq with hq;subst hq;rcases f2 p _ _ P3 hd with e|e|⟨_,_,_,e⟩
        ·exact K0 x rfl e
        ·cases e
        ·cases e
       ·exact g8 p q b' SQ N3 Sy
    rcases f2 p c0 d P3 hd with rfl|rfl|⟨a1,b1,ea,rfl⟩
    ·cases d with
     | t x=>exact RT.keep this fun b' N3=>⟨rfl,hk b' N3⟩
     | d x=>exact DT.keep this fun b' N3=>⟨rfl,⟨x,hd⟩,N3⟩
    ·exact QO fun x _ e=>by cases e
    ·have:=QO fun x _ e=>by cases e
     rw[ea]at this;exact RT.empty this
 obtain⟨ρ',r1,r2,r3,r4,r5⟩:=key;have hv:∀q,ρ' q=ρ q:=fun q=>by show ρ'.val q=ρ.val q;rw[r1]
 have L4:∀q b,Own ρ' q b->Own ρ q b:=fun q b hb=>by
  rcases hb with hb|hb
  ·exact .inl (by rw[<-hv q];exact hb)
  ·by_cases hq:q=o
   ·subst hq;exact .inr (r4 b hb)
   ·exact .inr ((r3 q hq b).1 hb)
 refine h hΓ aK B M w0 ρ' a w Q hM hF ?_ hQ
 have N4:∀q x,co ((o,some (AO.dar sz rows' none))::st.h) q=some x->∃y,co st.h q=some y:=fun q x hx=>by
  by_cases hq:q=o
  ·subst hq;exact⟨_,ho⟩
  ·rw[K0 q hq]at hx;exact⟨x,hx⟩
 have J5:∀b,okB ρ st.fs.H w b->okB ρ' (co ((o,some (AO.dar sz rows' none))::st.h)) w b:=fun b hb=>⟨⟨hb.1.1,by rw[r2];exact hb.1.2⟩,fun q x hx Oo=>by obtain⟨y,hy⟩:=N4 q x hx;exact hb.2 q y hy (L4 q b Oo)⟩
 refine⟨hc.size,hc.defers,fun t=>(hc.slot t).keep (fun b hb=>⟨rfl,J5 b hb⟩) fun q _=>hv q,fun q x hx=>?_,fun q q' x x' b hx P1 YL hb N3=>by
   obtain⟨y,hy⟩:=N4 q x hx;obtain⟨y',Qp⟩:=N4 q' x' P1
   exact hc.sep q q' y y' b hy Qp YL (L4 q b hb) (L4 q' b N3),fun q x b hx hb=>by obtain⟨y,hy⟩:=N4 q x hx;exact hc.rng q y b hy (L4 q b hb),hc.keep,hc.base,fun b hb=>by rw[r2];exact hc.alw b hb,by rw[r2];exact hc.cst,fun q v hq=>⟨by rw[hv];exact(hc.fix q v hq).1,(hc.fix q v hq).2⟩,hc.usedL,fun q x hx=>?_⟩
 ·by_cases hq:q=o
  ·subst hq;have P1:=hx;rw[show(St.fs ⟨st.fr,(q,some (AO.dar sz rows' none))::st.h,st.u⟩).H q=co ((q,some (AO.dar sz rows' none))::st.h) q from rfl,QG]at P1;injection P1 with P1;subst P1;refine r5 _ J5 fun b hb Py PR=>⟨⟨(hc.rng q _ b ho (.inr hb)).1,by rw[r2];exact hc.alw b (hc.rng q _ b ho (.inr hb)).2⟩,fun q' x' YH Oo=>?_⟩;by_cases K9:q'=q
   ·subst K9;rcases Oo with Oo|Oo
    ·exact Py (by rw[<-hv q'];exact Oo)
    ·exact PR Oo
   ·obtain⟨y',Qp⟩:=N4 q' x' YH;exact hc.sep q' q y' _ b Qp ho K9 (L4 q' b Oo) (.inr hb)
  ·have P1:co st.h q=some x:=by rw[<-K0 q hq];exact hx
   exact(hc.obj q x P1).keep (fun b hb=>⟨rfl,J5 b hb⟩) (fun _ _=>hv _) (hv q) (fun b hb=>(r3 q hq b).2 hb) fun _ _=>rfl
 ·by_cases hq:q=o
  ·subst hq;have P1:=hx;rw[show(St.fs ⟨st.fr,(q,some (AO.dar sz rows' none))::st.h,st.u⟩).H q=co ((q,some (AO.dar sz rows' none))::st.h) q from rfl,QG]at P1;injection P1 with P1;subst P1;exact⟨(hc.usedH q _ ho).1,fun o' L9=>by simp[AO.ids]at L9⟩
  ·have P1:co st.h q=some x:=by rw[<-K0 q hq];exact hx
   exact hc.usedH q x P1
end
def emE (c d:Tr):Prop:=d=c\/∃a b,c= .lst a []/\d= .lst b []
def emR:List (List Tr)->List (List Tr)->Prop
 | [],[]=>True
 | r::rs,t::ts=>(r.length=t.length/\∀(p:Nat) (c d:Tr),r[p]?=some c->t[p]?=some d->emE c d)/\emR rs ts
 | _,_=>False
theorem zM:∀{rs ts:List (List Tr)},emR rs ts->rs.length=ts.length
 | [],[],_=>rfl
 | _::_,_::_,h=>by rw[d5,d5,zM h.2]
 | [],_::_,h=>h.elim
 | _::_,[],h=>h.elim
theorem Dk {sz:Nat}:∀{rs ts:List (List Tr)},emR rs ts->(∀r∈rs,r.length=sz)->∀r∈ts,r.length=sz
 | [],[],_,_,_,h=>by cases h
 | r::rs,t::ts,h,hu,x,hx=>by
  rcases d7.1 hx with rfl|hx
  ·rw[<-h.1.1];exact hu r s_
  ·exact Dk h.2 (fun r hr=>hu r (by simp[hr])) x hx
 | [],_::_,h,_,_,_=>h.elim
 | _::_,[],h,_,_,_=>h.elim
theorem Ck:∀{rs ts:List (List Tr)},emR rs ts->rs.flatten.length=ts.flatten.length/\∀(p:Nat) (c d:Tr),rs.flatten[p]?=some c->ts.flatten[p]?=some d->emE c d
 | [],[],_=>⟨rfl,fun p c d h=>by simp at h⟩
 | r::rs,t::ts,h=>by
  obtain⟨h1,h2⟩:=Ck h.2
  exact V27
 | [],_::_,h=>h.elim
 | _::_,[],h=>h.elim
theorem RT.rows {w:World}{ok:Nat->Prop}{v:Value}{sz:Nat}{rows rows':List (List Tr)}(h:RT w ok v (.lst sz rows))(hg:emR rows rows'):RT w ok v (.lst sz rows'):=by
 cases h with
 | emp A c sz hc=>
  have:rows'=[]:=z6.1 (zM hg).symm;subst this
  exact .emp _ _ _ hc
 | lst ad n c sz rows us hn hc hm hu J5 hl L0 OI=>
  obtain⟨f1,f2⟩:=Ck hg;refine .lst ad n c sz rows' us ((zM hg).symm.trans hn) hc hm (Dk hg hu) J5 (hl.trans f1) L0 fun p v d hv hd=>?_
  obtain⟨c0,P3⟩:∃c0,rows.flatten[p]?=some c0:=by exact V53
  have:=OI p v c0 hv P3;rcases f2 p c0 d P3 hd with rfl|⟨a,b,rfl,rfl⟩
  ·exact this
  ·exact RT.empty this
section
variable {P:Program} {Γ:Env} {N:Nat} {m:Bool} {K:Out->St->Prop} {st:St} {c:Code}
theorem uo (i:Nat){sz:Nat}{rows rows':List (List Tr)}(hi:dw st.fr i= .r (.c (.t (.lst sz rows))))(hg:emR rows rows')(h:Wo m P Γ N c K ⟨(i,.r (.c (.t (.lst sz rows'))))::st.fr,st.h,st.u⟩):Wo m P Γ N c K st:=by
 rw[lH]at *
 intro hΓ aK B M w0 ρ a w Q hM hF hc hQ;refine h hΓ aK B M w0 ρ a w Q hM hF ?_ hQ
 have SD:∀t,t≠i->dw ((i,AV.r (.c (.t (.lst sz rows'))))::st.fr) t=dw st.fr t:=fun t ht=>by
  have:Nat.beq t i=false:=by cases hb:Nat.beq t i with|false=>rfl|true=>exact absurd (t8 hb) ht
  simp[dw,this]
 have UJ:dw ((i,AV.r (.c (.t (.lst sz rows'))))::st.fr) i= .r (.c (.t (.lst sz rows'))):=by simp[dw]
 refine⟨hc.size,hc.defers,fun t=>?_,hc.obj,hc.sep,hc.rng,hc.keep,hc.base,hc.alw,hc.cst,hc.fix,fun t o ho=>?_,hc.usedH⟩
 ·by_cases ht:t=i
  ·subst ht;have hs:=hc.slot t;rw[show st.fs.L t=_ from hi]at hs;show RV _ _ _ _ _ (dw _ t);rw[UJ];exact RT.rows hs hg
  ·show RV _ _ _ _ _ (dw _ t);rw[SD t ht];exact hc.slot t
 ·have ho:o∈(dw ((i,AV.r (.c (.t (.lst sz rows'))))::st.fr) t).ids:=ho;by_cases ht:t=i
  ·subst ht;rw[UJ]at ho;simp[AV.ids,AR.ids,AC.ids]at ho
  ·rw[SD t ht]at ho;exact hc.usedL t o ho
end
section
variable {P:Program} {Γ:Env} {N:Nat} {m:Bool} {K:Out->St->Prop} {st:St} {ops:List Oper}
end
section
variable {N B:Nat} {M:Nat->Prop} {w0:Start} {ρ:Rho} {s:F_} {a:Act} {w:World}
end
section
variable {P:Program} {ops:Array Oper} {Q:Exit->Act->List Frame->World->Prop} {a:Act} {cs:List Frame} {w:World}
end
theorem Conc.frame {N N' B:Nat}{M:Nat->Prop}{w0:Start}{ρ:Rho}{s:F_}{a a':Act}{w:World}(hc:Conc N B M w0 ρ s a w)(L':Nat->AV)(OD:a'.tmps.size=N')(hs:∀t,RV B ρ w (okB ρ s.H w) (a'.tmps.getD t undef) (L' t))(hi:∀t o,o∈(L' t).ids->s.U o.1):
  Conc N' B M ⟨w0.w,w0.al,w0.fx,a'.defers⟩ ρ ⟨L',s.H,s.U⟩ a' w:=
 ⟨OD,rfl,hs,hc.obj,hc.sep,hc.rng,hc.keep,hc.base,hc.alw,hc.cst,hc.fix,hi,hc.usedH⟩
section
variable {P:Program} {Γ:Env} {N B:Nat} {M:Nat->Prop} {w0:Start} {ρ:Rho} {a:Act} {w:World}
end
end Go.Sim
