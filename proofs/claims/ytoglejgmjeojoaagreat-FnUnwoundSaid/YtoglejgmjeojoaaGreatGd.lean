import Derived.Test.YtoglejgmjeojoaaGreatGc
namespace Go.Sim
open Go.RowKit
abbrev Ren:=List (Id×Option (Id×Option Nat))
def gW:Ren->Id->Option (Option (Id×Option Nat))
 | [],_=>none
 |(i,x)::r,o=>bif fj o i then some x else gW r o
def Iv:Option (Id×Option Nat)->Option (Id×Option Nat)->Prop
 | none,none=>True
 | some (a,none),some (b,none)=>fj a b=true
 | some (a,some k),some (b,some k')=>fj a b=true/\k=k'
 | _,_=>False
def tie (r:Ren)(o:Id)(x:Option (Id×Option Nat))(K:Ren->Prop):Prop:=
 match gW r o with|some y=>Iv y x/\K r|none=>K ((o,x)::r)
def leC (r:Ren):AC->AC->(Ren->Prop)->Prop
 | .t x,.t y,K=>x=y/\K r
 | .f x,.t y,K=>x=y/\K r
 | .f x,.f y,K=>x=y/\K r
 | .nils _,.t y,K=>(∃sz,y= .lst sz [])/\K r
 | .nils _,.f y,K=>(∃sz,y= .lst sz [])/\K r
 | .nils _,.nils _,K=>K r
 | .nils _,.own o',K=>tie r o' none K
 | .nilp,.nilp,K=>K r
 | .own o,.own o',K=>tie r o' (some (o,none)) K
 | .sub o k,.sub o' k',K=>k=k'/\tie r o' (some (o,none)) K
 | .sub o k,.own o',K=>tie r o' (some (o,some k)) K
 | .ptr o n,.ptr o' n',K=>n=n'/\tie r o' (some (o,none)) K
 | .mpv o,.mpv o',K=>tie r o' (some (o,none)) K
 | _,.opq,K=>K r
 | _,_,_=>False
abbrev Ip (r:Ren):List AC->List AC->(Ren->Prop)->Prop
 | [],[],K=>K r
 | x::xs,y::ys,K=>leC r x y fun r=>Ip r xs ys K
 | _,_,_=>False
def leR (r:Ren):AR->AR->(Ren->Prop)->Prop
 | .c x,.c y,K=>leC r x y K
 | .agg xs,.agg ys,K=>Ip r xs ys K
 | _,_,_=>False
abbrev Kz (r:Ren):List AR->List AR->(Ren->Prop)->Prop
 | [],[],K=>K r
 | x::xs,y::ys,K=>leR r x y fun r=>Kz r xs ys K
 | _,_,_=>False
def leV (r:Ren)(x:AV):AV->(Ren->Prop)->Prop
 | .unk,K=>K r
 | .r y,K=>(match x with
   | .r x=>leR r x y K
   | _=>False)
 | .tup ys,K=>(match x with
   | .tup xs=>Kz r xs ys K
   | _=>False)
 | .el o' MS i' QZ,K=>(match x with
   | .el o sz i off=>sz=MS/\i=i'/\off=QZ/\tie r o' (some (o,none)) K
   | _=>False)
 | .ro fr' row' QZ,K=>(match x with
   | .ro fr row off=>fr=fr'/\row=row'/\off=QZ/\K r
   | _=>False)
abbrev Kl (fr:List (Nat×AV)):List (Nat×AV)->Ren->(Ren->Prop)->Prop
 | [],r,K=>K r
 |(t,y)::rest,r,K=>leV r (di fr t) y fun r=>Kl fr rest r K
def leB (m fr fr':Bool)(rows:List (List Tr)):Prop:=
 match fr' with
 | false=>True
 | true=>(match fr with
   | true=>True
   | false=>m=true/\flat rows)
def leO (m:Bool)(r:Ren)(cutAt:Option Nat):AO->AO->(Ren->Prop)->Prop
 | .arr fr sz rows,.arr fr' MS rows',K=>(match cutAt with
   | none=>sz=MS/\rows=rows'/\leB m fr fr' rows'/\K r
   | some k=>k<=rows.length/\sz=MS/\rows.take k=rows'/\leB m fr fr' rows'/\K r)
 | .box xs,.box ys,K=>(match cutAt with
   | none=>Ip r xs ys K
   | some _=>False)
 | .dar sz rows none,.dar MS rows' none,K=>(match cutAt with
   | none=>sz=MS/\rows=rows'/\K r
   | some k=>k<=rows.length/\sz=MS/\rows.take k=rows'/\K r)
 | .arr _ sz rows,.dar MS rows' none,K=>(match cutAt with
   | none=>sz=MS/\flat rows/\aK rows=rows'/\K r
   | some _=>False)
 | .dar sz rows none,.arr fr' MS rows',K=>(match cutAt with
   | none=>sz=MS/\rows=aK rows'/\(!fr'||m)=true/\K r
   | some _=>False)
 | .mp kk es,.mp U9 NY,K=>(match cutAt with
   | none=>kk=U9/\es=NY/\K r
   | some _=>False)
 | _,_,_=>False
abbrev leH (m:Bool)(h:List (Id×Option AO)):List (Id×Option AO)->Ren->(Ren->Prop)->Prop
 | [],r,K=>K r
 |(_,none)::rest,r,K=>leH m h rest r K
 |(o',some x)::rest,r,K=>(match gW r o' with
   | some none=>(match x with
    | .arr _ _ rows=>rows=[]/\leH m h rest r K
    | .dar _ rows none=>rows=[]/\leH m h rest r K
    | _=>False)
   | some (some (o,c))=>(match cf h o with
    | some y=>leO m r c y x fun r=>leH m h rest r K
    | none=>False)
   | none=>False)
def wC (o:Id):Ren->Bool
 | []=>false
 |(_,some (o',_))::r=>fj o o'||wC o r
 |(_,none)::r=>wC o r
def uC:Ren->Bool
 | []=>true
 |(_,some (o,_))::r=>!wC o r&&uC r
 |(_,none)::r=>uC r
def uW (u:List Nat):List Id->Bool
 | []=>true
 | o::l=>used u o.1&&uW u l
def ze (u:List Nat):List (Nat×AV)->Bool
 | []=>true
 |(_,v)::l=>uW u v.ids&&ze u l
def usedH (u:List Nat):List (Id×Option AO)->Bool
 | []=>true
 |(o,some x)::l=>used u o.1&&(uW u x.ids&&usedH u l)
 |(_,none)::l=>usedH u l
def pOk (r:Ren):Bool:=r.all fun p=>!(Nat.beq p.1.1 0)||(match p.2 with
 | some (o,none)=>fj o p.1
 | _=>false)
def ER (m:Bool):List (Id×Option AO)->Ren
 | []=>[]
 |(o,some _)::l=>(match !m&&Nat.beq o.1 0 with
   | true=>(o,some (o,none))::ER m l
   | false=>ER m l)
 |(_,none)::l=>ER m l
def Leq (m:Bool)(st My:St):Prop:=
 ((ze My.u My.fr&&usedH My.u My.h)&&(m||used My.u 0))=true/\Kl st.fr My.fr (ER m My.h) fun r=>leH m st.h My.h r fun r=>(uC r&&(m||pOk r))=true
def iY:List (Id×Option AO)->List Id->List Id
 | [],_=>[]
 |(o,x)::l,seen=>(match kg o seen with
   | true=>iY l seen
   | false=>(match x with
    | some (.dar _ _ (some _))=>o::iY l (o::seen)
    | _=>iY l (o::seen)))
abbrev iB:List Id->St->(St->Prop)->Prop
 | [],st,K=>K st
 | o::l,st,K=>pI (cf st.h) (.el o 0 0 0) fun _ us _=>vH us st.h fun h=>iB l ⟨st.fr,h,st.u⟩ K
def LeqG (m:Bool)(st My:St):Prop:=iB (iY st.h []) st fun st=>Leq m st My
inductive Out where
 | normal
 | exit (id:Nat)
 | ret
 | pan (v:Value)
def Out.at:Out->Exit
 | .normal=> .normal
 | .exit id=> .exit id
 | .ret=> .ret
 | .pan v=> .panic [{v,recovered:=false}]
def wQ (st:St)(c:Operand)(b:Bool):St:=
 match c with|.tmp t=>lit st t b|_=>st
def Lr (P:Program)(Γ:Env)(N:Nat)(ops:List Oper)(draw:Bool)(st:St)(K:St->Prop):Prop:=
 match draw with
 | false=>lD P Γ N ops ops st [] fun My _=>K My
 | true=>(lD P Γ N ops ops st [] fun My log=>sS ops log.reverse=true/\K My)\/∃xi xj:Nat,JT P Γ N ops xi xj st K
def W (m:Bool)(P:Program)(Γ:Env)(N:Nat):Code->(Out->St->Prop)->St->Prop
 | .skip,K,st=>K .normal st
 | .label _,K,st=>K .normal st
 | .region _ ops draw,K,st=>Lr P Γ N ops.toList draw st (K .normal)
 | .seq x y,K,st=>W m P Γ N x (fun e My=>(match e with
   | .normal=>W m P Γ N y K My
   | e=>K e My)) st\/
   ∃(ι:Type) (S:ι->St),W m P Γ N x (fun e My=>(match e with
    | .normal=>∃i,LeqG m My (S i)
    | e=>K e My)) st/\∀i,W m P Γ N y K (S i)
 | .cond c x y,K,st=>(match evL (di st.fr) c with
   | .r (.c (.t (.bool b)))=>ifB b (W m P Γ N x K (wQ st c true)) (W m P Γ N y K (wQ st c false))
   | _=>False)
 | .block id c,K,st=>W m P Γ N c (fun e My=>(match e with
   | .exit id'=>(match Nat.beq id' id with
     | true=>K .normal My
     | false=>K (.exit id') My)
   | e=>K e My)) st
 | .loop c,K,st=>∃(ι:Type) (S:ι->St) (μ:ι->Nat) (i0:ι),LeqG m st (S i0)/\∀i,W m P Γ N c (fun e My=>(match e with
   | .normal=>∃j,LeqG m My (S j)/\μ j<μ i
   | e=>K e My)) (S i)
 | .exit id,K,st=>K (.exit id) st
 | .ret,K,st=>K .ret st
 | _,_,_=>False
theorem aB {A:Prop}{Q:Nat->Nat->Prop}(h:A):A\/∃xi xj:Nat,Q xi xj:=Or.inl h
theorem DZ {A:Prop}{Q:Nat->Nat->Prop}(xi xj:Nat)(h:Q xi xj):A\/∃xi xj:Nat,Q xi xj:=Or.inr ⟨xi,xj,h⟩
section
variable {P:Program} {Γ:Env} {N B:Nat} {M:Nat->Prop} {w0:Start} {w:World} {ρ:Rho} {st My:St} {a:Act} {m:Bool}
def Ext (r r':Ren):Prop:=∀o x,gW r o=some x->gW r' o=some x
theorem Ext.refl (r:Ren):Ext r r:=fun _ _ h=>h
theorem Ext.trans {r r' r'':Ren}(h:Ext r r')(h':Ext r' r''):Ext r r'':=fun o x hx=>h' o x (h o x hx)
theorem HT {r:Ren}{o:Id}{x:Option (Id×Option Nat)}(h:gW r o=none):Ext r ((o,x)::r):=by
 intro o' x' h';rw[gW]
 cases hb:fj o' o with
 | true=>rw[idEq_iff.1 hb,h]at h';cases h'
 | false=>exact h'
def vrv (ρ:Id->Value):Option (Id×Option Nat)->Value
 | some (o,none)=>ρ o
 | some (o,some k)=>(match ρ o with
   | .slice A _ c=> .slice A k c
   | v=>v)
 | none=> .slice none 0 0
def vr (ρ:Id->Value)(r:Ren)(o:Id):Value:=
 match gW r o with|some x=>vrv ρ x|none=>ρ o
theorem sF {ρ:Id->Value}{r:Ren}{o:Id}{x:Option (Id×Option Nat)}(h:gW r o=some x):vr ρ r o=vrv ρ x:=by unfold vr;rw[h]
theorem Ge {x y:Option (Id×Option Nat)}(h:Iv x y):x=y:=by
 unfold Iv at h;split at h
 ·rfl
 ·rw[idEq_iff.1 h]
 ·rw[idEq_iff.1 h.1,h.2]
 ·exact h.elim
theorem pd {r:Ren}{o:Id}{x:Option (Id×Option Nat)}{K:Ren->Prop}(h:tie r o x K):∃r',Ext r r'/\gW r' o=some x/\K r':=by
 unfold tie at h;split at h
 ·rename_i y hy;exact⟨r,.refl r,by rw[hy,Ge h.1],h.2⟩
 ·rename_i hy;exact⟨_,HT hy,by rw[gW,idEq_iff.2 rfl];rfl,h⟩
def Lb (r:Ren)(x y:AC):Prop:=∀{B:Nat} {ρ ρ':Rho} {w:World} {ok ok':Nat->Prop} {v:Value},(∀o,ρ' o=vr ρ r o)->(∀b,ok b->ok' b)->RC B ρ w ok v x->RC B ρ' w ok' v y
def Hc (r:Ren)(x y:List AC):Prop:=∀{B:Nat} {ρ ρ':Rho} {w:World} {ok ok':Nat->Prop} {v:List Value},(∀o,ρ' o=vr ρ r o)->(∀b,ok b->ok' b)->RCs B ρ w ok v x->RCs B ρ' w ok' v y
def Lg (r:Ren)(x y:AR):Prop:=∀{B:Nat} {ρ ρ':Rho} {w:World} {ok ok':Nat->Prop} {v:Value},(∀o,ρ' o=vr ρ r o)->(∀b,ok b->ok' b)->RR B ρ w ok v x->RR B ρ' w ok' v y
def KH (r:Ren)(x y:List AR):Prop:=∀{B:Nat} {ρ ρ':Rho} {w:World} {ok ok':Nat->Prop} {v:List Value},(∀o,ρ' o=vr ρ r o)->(∀b,ok b->ok' b)->RRs B ρ w ok v x->RRs B ρ' w ok' v y
def Kb (r:Ren)(x y:AV):Prop:=∀{B:Nat} {ρ ρ':Rho} {w:World} {ok ok':Nat->Prop} {v:Value},(∀o,ρ' o=vr ρ r o)->(∀b,ok b->ok' b)->RV B ρ w ok v x->RV B ρ' w ok' v y
theorem RT.up {w:World}{ok ok':Nat->Prop}{v:Value}{t:Tr}(h:RT w ok v t)(hk:∀b,ok b->ok' b):RT w ok' v t:=h.keep fun b hb=>⟨rfl,hk b hb⟩
theorem V55{p:Prop}(h:p:=by
 obtain⟨r',h1,h2,h3⟩:=pd h;refine⟨r',h1,fun f hf B ρ ρ' w ok ok' v hρ hk hv=>?_,h3⟩;have e:=hf _ _ h2;have e':=(hρ _).trans (sF (ρ:=ρ) e);simp only[vrv]at e';simp only[RC,e']at hv⊢
 exact hv):p:=h
theorem V46{p:Prop}(h:p:=by
 obtain⟨Pr,h⟩:=h;subst Pr;obtain⟨r',h1,h2,h3⟩:=pd h;refine⟨r',h1,fun f hf B ρ ρ' w ok ok' v hρ hk hv=>?_,h3⟩;have e:=hf _ _ h2;have e':=(hρ _).trans (sF (ρ:=ρ) e);simp only[vrv]at e';simp only[RC,e']at hv⊢
 exact hv):p:=h
theorem Hs {r:Ren}{x y:AC}{K:Ren->Prop}(h:leC r x y K):∃r',Ext r r'/\(∀f,Ext r' f->Lb f x y)/\K r':=by
 cases x<;>cases y<;>simp only[leC]at h
 case t.t=>exact⟨r,.refl r,fun f _ B ρ ρ' w ok ok' v hρ hk hv=>by rw[<-h.1];exact RT.up hv hk,h.2⟩
 case f.t=>exact⟨r,.refl r,fun f _ B ρ ρ' w ok ok' v hρ hk hv=>by rw[<-h.1];exact RT.up hv fun b hb=>hk b hb.1,h.2⟩
 case f.f=>exact⟨r,.refl r,fun f _ B ρ ρ' w ok ok' v hρ hk hv=>by rw[<-h.1];exact RT.up hv fun b hb=>⟨hk b hb.1,hb.2⟩,h.2⟩
 case nils.t=>obtain⟨⟨sz,rfl⟩,h⟩:=h;exact⟨r,.refl r,fun f _ B ρ ρ' w ok ok' v hρ hk hv=>by rw[show v=_ from hv];exact .emp _ _ _ (by simp[maxLen]),h⟩
 case nils.f=>obtain⟨⟨sz,rfl⟩,h⟩:=h;exact⟨r,.refl r,fun f _ B ρ ρ' w ok ok' v hρ hk hv=>by rw[show v=_ from hv];exact .emp _ _ _ (by simp[maxLen]),h⟩
 case nils.nils=>exact⟨r,.refl r,fun f _ B ρ ρ' w ok ok' v hρ hk hv=>hv,h⟩
 case nilp.nilp=>exact⟨r,.refl r,fun f _ B ρ ρ' w ok ok' v hρ hk hv=>hv,h⟩
 case t.opq|f.opq|nils.opq|nilp.opq|own.opq|sub.opq|ptr.opq|opq.opq|mpv.opq=>exact⟨r,.refl r,fun f _ B ρ ρ' w ok ok' v hρ hk hv=>⟨RC.one hv,RC.cells1 hv⟩,h⟩
 case nils.own=>obtain⟨r',h1,h2,h3⟩:=pd h;refine⟨r',h1,fun f hf B ρ ρ' w ok ok' v hρ hk hv=>?_,h3⟩;have e:=hf _ _ h2;have e':=(hρ _).trans (sF (ρ:=ρ) e);simp only[vrv]at e';simp only[RC,e']at hv⊢;exact⟨⟨_,_,_,rfl⟩,hv⟩
 case own.own=>exact V55
 case sub.own=>obtain⟨r',h1,h2,h3⟩:=pd h;refine⟨r',h1,fun f hf B ρ ρ' w ok ok' v hρ hk hv=>?_,h3⟩;have e:=hf _ _ h2;have e':=(hρ _).trans (sF (ρ:=ρ) e);simp only[vrv]at e';simp only[RC,e']at hv⊢;obtain⟨A,n,c,g1,g2,g3⟩:=hv;rw[g1];exact⟨⟨_,_,_,rfl⟩,g2⟩
 case sub.sub=>exact V46
 case mpv.mpv=>exact V55
 case ptr.ptr=>exact V46
theorem V65{p:Prop}(h:p:=by
 refine⟨r2,h1.trans h4,fun f hf B ρ ρ' w ok ok' v hρ hk hv=>?_,h6⟩
 cases v with
 | nil=>exact hv.elim
 | cons v vs=>exact⟨h2 f (h4.trans hf) hρ hk hv.1,h5 f hf hρ hk hv.2⟩):p:=h
theorem yF:∀{xs ys:List AC} {r:Ren} {K:Ren->Prop},Ip r xs ys K->∃r',Ext r r'/\(∀f,Ext r' f->Hc f xs ys)/\K r'
 | [],[],r,K,h=>⟨r,.refl r,fun f _ B ρ ρ' w ok ok' v hρ hk hv=>by cases v<;>simp[RCs]at hv⊢,h⟩
 | x::xs,y::ys,r,K,h=>by
  obtain⟨r1,h1,h2,h3⟩:=Hs h;obtain⟨r2,h4,h5,h6⟩:=yF h3
  exact V65
 | [],_::_,_,_,h=>h.elim
 | _::_,[],_,_,h=>h.elim
theorem Ig {r:Ren}{x y:AR}{K:Ren->Prop}(h:leR r x y K):∃r',Ext r r'/\(∀f,Ext r' f->Lg f x y)/\K r':=by
 cases x<;>cases y<;>simp only[leR]at h
 case c.c=>exact Hs h
 case agg.agg=>obtain⟨r1,h1,h2,h3⟩:=yF h;exact⟨r1,h1,fun f hf B ρ ρ' w ok ok' v hρ hk hv=>let ⟨us,e,hu⟩:=hv;⟨us,e,h2 f hf hρ hk hu⟩,h3⟩
theorem DH:∀{xs ys:List AR} {r:Ren} {K:Ren->Prop},Kz r xs ys K->∃r',Ext r r'/\(∀f,Ext r' f->KH f xs ys)/\K r'
 | [],[],r,K,h=>⟨r,.refl r,fun f _ B ρ ρ' w ok ok' v hρ hk hv=>by cases v<;>simp[RRs]at hv⊢,h⟩
 | x::xs,y::ys,r,K,h=>by
  obtain⟨r1,h1,h2,h3⟩:=Ig h;obtain⟨r2,h4,h5,h6⟩:=DH h3
  exact V65
 | [],_::_,_,_,h=>h.elim
 | _::_,[],_,_,h=>h.elim
theorem Km {r:Ren}{x y:AV}{K:Ren->Prop}(h:leV r x y K):∃r',Ext r r'/\(∀f,Ext r' f->Kb f x y)/\K r':=by
 cases y with
 | unk=>exact⟨r,.refl r,fun f _ B ρ ρ' w ok ok' v hρ hk hv=>trivial,h⟩
 | r y=>
  cases x<;>simp only[leV]at h
  exact Ig h
 | tup ys=>
  cases x<;>simp only[leV]at h
  obtain⟨r1,h1,h2,h3⟩:=DH h
  exact⟨r1,h1,fun f hf B ρ ρ' w ok ok' v hρ hk hv=>let ⟨us,e,hu⟩:=hv;⟨us,e,h2 f hf hρ hk hu⟩,h3⟩
 | el o' sz i off=>
  cases x<;>simp only[leV]at h
  obtain⟨rfl,rfl,rfl,h⟩:=h;obtain⟨r',h1,h2,h3⟩:=pd h;refine⟨r',h1,fun f hf B ρ ρ' w ok ok' v hρ hk hv=>?_,h3⟩;have e:=hf _ _ h2;have e':=(hρ _).trans (sF (ρ:=ρ) e);simp only[vrv]at e';simp only[RV,e']at hv⊢
  exact hv
 | ro fr row off=>
  cases x<;>simp only[leV]at h
  obtain⟨rfl,rfl,rfl,h⟩:=h;refine⟨r,.refl r,fun f hf B ρ ρ' w ok ok' v hρ hk hv=>?_,h⟩;exact RV.keep (ρ:=ρ) (ρ':=ρ') (w:=w) (w':=w) (x:= .ro _ _ _) hv (fun b hb=>⟨rfl,hk b hb⟩) aaK
theorem EQ {fr:List (Nat×AV)}:∀{l:List (Nat×AV)} {r:Ren} {K:Ren->Prop},Kl fr l r K->∃r',Ext r r'/\(∀f,Ext r' f->∀t y,(t,y)∈l->Kb f (di fr t) y)/\K r'
 | [],r,K,h=>⟨r,.refl r,fun _ _ t y hm=>(by cases hm),h⟩
 |(t,y)::l,r,K,h=>by
  obtain⟨r1,h1,h2,h3⟩:=Km h;obtain⟨r2,h4,h5,h6⟩:=EQ h3;refine⟨r2,h1.trans h4,fun f hf t' y' hm=>?_,h6⟩;rcases d6.1 hm with he|hm
  ·injection he with e1 e2;subst e1;subst e2;exact fun hρ hk hv=>h2 f (h4.trans hf) hρ hk hv
  ·exact fun hρ hk hv=>h5 f hf t' y' hm hρ hk hv
def Kq (m:Bool)(f:Ren)(h:List (Id×Option AO))(o':Id)(x:AO):Prop:=
 (gW f o'=some none/\((∃fr sz,x= .arr fr sz [])\/∃sz,x= .dar sz [] none))\/
 ∃o c y,gW f o'=some (some (o,c))/\cf h o=some y/\
  (
   (c=none/\∃xs ys,y= .box xs/\x= .box ys/\Hc f xs ys)\/
   (∃fr sz rows fr' rows',y= .arr fr sz rows/\x= .arr fr' sz rows'/\leB m fr fr' rows'/\((c=none/\rows'=rows)\/∃k,c=some k/\k<=rows.length/\rows'=rows.take k))\/
   (∃sz rows rows',y= .dar sz rows none/\x= .dar sz rows' none/\((c=none/\rows'=rows)\/∃k,c=some k/\k<=rows.length/\rows'=rows.take k))\/
   (c=none/\∃fr sz rows,y= .arr fr sz rows/\flat rows/\x= .dar sz (aK rows) none)\/
   (c=none/\∃sz rows fr,y= .dar sz (aK rows) none/\x= .arr fr sz rows/\(fr=true->m=true))\/
   (c=none/\∃kk es,y= .mp kk es/\x= .mp kk es))
theorem Dg {h:List (Id×Option AO)}:∀{l:List (Id×Option AO)} {r:Ren} {K:Ren->Prop},leH m h l r K->∃r',Ext r r'/\(∀f,Ext r' f->∀o x,(o,some x)∈l->Kq m f h o x)/\K r'
 | [],r,K,hh=>⟨r,.refl r,fun _ _ o x hm=>(by cases hm),hh⟩
 |(o',none)::l,r,K,hh=>by
  obtain⟨r1,h1,h2,h3⟩:=Dg (l:=l) hh;refine⟨r1,h1,fun f hf o x hm=>?_,h3⟩;rcases d6.1 hm with he|hm
  ·injection he with e1 e2;cases e2
  ·exact h2 f hf o x hm
 |(o',some z)::l,r,K,hh=>by
  have one:∀{r0:Ren},Ext r r0->leH m h l r0 K->(∀f,Ext r0 f->Kq m f h o' z)->∃r',Ext r r'/\(∀f,Ext r' f->∀o x,(o,some x)∈(o',some z)::l->Kq m f h o x)/\K r':=by
   intro r0 h0 hh hz;obtain⟨r1,h1,h2,h3⟩:=Dg (l:=l) hh;refine⟨r1,h0.trans h1,fun f hf o x hm=>?_,h3⟩;rcases d6.1 hm with he|hm
   ·injection he with e1 e2;injection e2 with e2;subst e1;subst e2;exact hz f (h1.trans hf)
   ·exact h2 f hf o x hm
  unfold leH at hh;split at hh
  ·rename_i hr;split at hh
   ·rename_i fr sz rows;obtain⟨rfl,hh⟩:=hh;exact one (.refl r) hh fun f hf=> .inl ⟨hf _ _ hr,.inl ⟨_,_,rfl⟩⟩
   ·rename_i sz rows;obtain⟨rfl,hh⟩:=hh;exact one (.refl r) hh fun f hf=> .inl ⟨hf _ _ hr,.inr ⟨_,rfl⟩⟩
   ·exact hh.elim
  ·rename_i o0 c hr;split at hh
   ·rename_i y hy;unfold leO at hh;split at hh
    ·rename_i fr sz rows fr' MS rows'
     have key:sz=MS/\leB m fr fr' rows'/\((c=none/\rows'=rows)\/∃k,c=some k/\k<=rows.length/\rows'=rows.take k)/\leH m h l r K:=by cases c with|none=>obtain⟨a1,a2,a3,a4⟩:=(show _/\_/\_/\_ from hh);exact⟨a1,a3,.inl ⟨rfl,a2.symm⟩,a4⟩|some k=>obtain⟨a0,a1,a2,a3,a4⟩:=(show _/\_/\_/\_/\_ from hh);exact⟨a1,a3,.inr ⟨k,rfl,a0,a2.symm⟩,a4⟩
     obtain⟨rfl,k1,k2,hh⟩:=key;exact one (.refl r) hh fun f hf=> .inr ⟨o0,c,_,hf _ _ hr,hy,.inr (.inl ⟨fr,sz,rows,fr',rows',rfl,rfl,k1,k2⟩)⟩
    ·rename_i xs ys
     cases c with
     | some _=>exact hh.elim
     | none=>obtain⟨r1,h1,h2,h3⟩:=yF (show Ip r xs ys _ from hh);exact one h1 h3 fun f hf=> .inr ⟨o0,none,_,(h1.trans hf) _ _ hr,hy,.inl ⟨rfl,xs,ys,rfl,rfl,fun hρ hk hv=>h2 f hf hρ hk hv⟩⟩
    ·rename_i sz rows MS rows'
     have key:sz=MS/\((c=none/\rows'=rows)\/∃k,c=some k/\k<=rows.length/\rows'=rows.take k)/\leH m h l r K:=by cases c with|none=>obtain⟨a1,a2,a4⟩:=(show _/\_/\_ from hh);exact⟨a1,.inl ⟨rfl,a2.symm⟩,a4⟩|some k=>obtain⟨a0,a1,a2,a4⟩:=(show _/\_/\_/\_ from hh);exact⟨a1,.inr ⟨k,rfl,a0,a2.symm⟩,a4⟩
     obtain⟨rfl,k2,hh⟩:=key;exact one (.refl r) hh fun f hf=> .inr ⟨o0,c,_,hf _ _ hr,hy,.inr (.inr (.inl ⟨sz,rows,rows',rfl,rfl,k2⟩))⟩
    ·rename_i fr sz rows MS rows'
     cases c with
     | some _=>exact hh.elim
     | none=>obtain⟨rfl,a2,rfl,a4⟩:=(show _/\_/\_/\_ from hh);exact one (.refl r) a4 fun f hf=> .inr ⟨o0,none,_,hf _ _ hr,hy,.inr (.inr (.inr (.inl ⟨rfl,fr,sz,rows,rfl,a2,rfl⟩)))⟩
    ·rename_i sz rows fr' MS rows'
     cases c with
     | some _=>exact hh.elim
     | none=>obtain⟨rfl,rfl,a3,a4⟩:=(show _/\_/\_/\_ from hh);exact one (.refl r) a4 fun f hf=> .inr ⟨o0,none,_,hf _ _ hr,hy,.inr (.inr (.inr (.inr (.inl ⟨rfl,sz,rows',fr',rfl,rfl,fun e=>by subst e;simpa using a3⟩))))⟩
    ·rename_i kk es U9 NY
     cases c with
     | some _=>exact hh.elim
     | none=>obtain⟨rfl,rfl,a4⟩:=(show _/\_/\_ from hh);exact one (.refl r) a4 fun f hf=> .inr ⟨o0,none,_,hf _ _ hr,hy,.inr (.inr (.inr (.inr (.inr ⟨rfl,kk,es,rfl,rfl⟩))))⟩
    ·exact hh.elim
   ·exact hh.elim
  ·exact hh.elim
theorem kR:∀{h:List (Id×Option AO)} {o:Id} {x:AO},cf h o=some x->(o,some x)∈h
 | [],_,_,h=>by simp[cf]at h
 |(i,y)::r,o,x,h=>by
  rw[cf]at h
  cases hb:fj o i with|true=>rw[hb]at h;have:=idEq_iff.1 hb;subst this;simp only[cond_true]at h;rw[h];simp|false=>rw[hb]at h;exact z9 _ (kR h)
theorem iv:∀(fr:List (Nat×AV)) (t:Nat),di fr t= .unk\/(t,di fr t)∈fr
 | [],_=> .inl rfl
 |(i,y)::r,t=>by
  rw[di]
  cases hb:Nat.beq t i with|true=>have:=r9 hb;subst this;right;simp|false=>exact(iv r t).imp id (z9 _)
theorem vj:∀{r:Ren} {o' o:Id} {c:Option Nat},gW r o'=some (some (o,c))->wC o r=true
 | [],_,_,_,h=>by simp[gW]at h
 |(i,x)::r,o',o,c,h=>by
  rw[gW]at h
  cases hb:fj o' i with
  | true=>
   rw[hb]at h;simp only[cond_true,Option.some.injEq]at h;subst h
   simp[wC,idEq_iff.2 rfl]
  | false=>
   rw[hb]at h;have:=vj (r:=r) h
   cases x<;>simp[wC,this]
theorem rZ:∀{r:Ren} {o1 o2 o:Id} {c1 c2:Option Nat},uC r=true->gW r o1=some (some (o,c1))->gW r o2=some (some (o,c2))->o1=o2
 | [],_,_,_,_,_,_,h,_=>by simp[gW]at h
 |(i,x)::r,o1,o2,o,c1,c2,hr,h1,h2=>by
  rw[gW]at h1 h2
  have PC:uC r=true:=by cases x with|none=>exact hr|some p=>simp only[uC,b9]at hr;exact hr.2
  have MR:∀c,x=some (o,c)->wC o r=false:=fun c hx=>by
   subst hx;simp only[uC,b9,u9]at hr;exact hr.1
  cases Nk:fj o1 i with
  | true=>
   rw[Nk]at h1;simp only[cond_true,Option.some.injEq]at h1
   cases Nc:fj o2 i with
   | true=>exact(idEq_iff.1 Nk).trans (idEq_iff.1 Nc).symm
   | false=>
    rw[Nc]at h2;have:=vj (r:=r) h2;rw[MR c1 h1]at this
    cases this
  | false=>
   rw[Nk]at h1
   cases Nc:fj o2 i with
   | true=>
    rw[Nc]at h2;simp only[cond_true,Option.some.injEq]at h2;have:=vj (r:=r) h1;rw[MR c2 h2]at this
    cases this
   | false=>rw[Nc]at h2;exact rZ PC h1 h2
theorem rn {u:List Nat}:∀{l:List Id},uW u l=true->∀o∈l,used u o.1=true
 | [],_,o,ho=>by cases ho
 | i::l,h,o,ho=>by
  simp only[uW,b9]at h;rcases d6.1 ho with rfl|ho
  ·exact h.1
  ·exact rn h.2 o ho
theorem xQ {u:List Nat}:∀{l:List (Nat×AV)},ze u l=true->∀t v,(t,v)∈l->∀o∈v.ids,used u o.1=true
 | [],_,t,v,hm=>by cases hm
 |(i,x)::l,h,t,v,hm=>by
  simp only[ze,b9]at h;rcases d6.1 hm with he|hm
  ·injection he with e1 e2;subst e2;exact rn h.1
  ·exact xQ h.2 t v hm
theorem wl {u:List Nat}:∀{l:List (Id×Option AO)},usedH u l=true->∀o x,(o,some x)∈l->used u o.1=true/\∀o'∈x.ids,used u o'.1=true
 | [],_,t,v,hm=>by cases hm
 |(i,none)::l,h,o,x,hm=>by
  rcases d6.1 hm with he|hm
  ·injection he with e1 e2;cases e2
  ·exact wl (l:=l) h o x hm
 |(i,some y)::l,h,o,x,hm=>by
  simp only[usedH,b9]at h;rcases d6.1 hm with he|hm
  ·injection he with e1 e2;injection e2 with e2;subst e1;subst e2;exact⟨h.1,rn h.2.1⟩
  ·exact wl h.2.2 o x hm
theorem RT.flat {w:World}{ok ok':Nat->Prop}{v:Value}{t:Tr}(h:RT w ok v t)(hf:∀sz rs,t≠.lst sz rs):RT w ok' v t:=by cases h with|int k n=>exact .int k n|bool b=>exact .bool b|str s=>exact .str s|emp _ _ sz=>exact absurd rfl (hf _ _)|lst=>exact absurd rfl (hf _ _)
theorem RTs.flat {w:World}{ok ok':Nat->Prop}:∀{vs:List Value} {ts:List Tr},RTs w ok vs ts->(∀t∈ts,∀sz rs,t≠.lst sz rs)->RTs w ok' vs ts
 | [],[],_,_=>trivial
 | _::_,_::_,h,hf=>⟨h.1.flat (hf _ s_),RTs.flat h.2 fun t ht=>hf t (by simp[ht])⟩
 | [],_::_,h,_=>h.elim
 | _::_,[],h,_=>h.elim
theorem lh {α:Type}{sz:Nat}:∀{rows:List (List α)} (k:Nat),(∀r∈rows,r.length=sz)->k<=rows.length->(rows.take k).flatten=rows.flatten.take (k*sz)
 | _,0,_,_=>s_
 | [],_+1,_,h=>by simp at h
 | r::rows,k+1,hu,h=>by
  have hr:=hu r s_;rw[q8,r8,r8,lh k (fun r hr=>hu r aau) aad,I2,hr];rw[gt (l:=r) (by rw[hr,p8];omega)];congr 2;rw[p8];omega
theorem zS:∀{r:Ren} {o:Id} {x:Option (Id×Option Nat)},gW r o=some x->(o,x)∈r
 | [],_,_,h=>by simp[gW]at h
 |(i,y)::r,o,x,h=>by
  rw[gW]at h
  cases hb:fj o i with|true=>rw[hb]at h;have:=idEq_iff.1 hb;subst this;simp only[cond_true,Option.some.injEq]at h;subst h;simp|false=>rw[hb]at h;exact z9 _ (zS h)
theorem RDs.take {ρ ρ':Rho}{w:World}{ok ok':Nat->Prop}{sz n:Nat}{Fp:Nat->Nat->Prop}{us:List Value}{cs:List DC}(h:RDs ρ w ok sz none Fp us cs)(hk:∀b,ok b->ok' b):RDs ρ' w ok' sz none Fp (us.take n) (cs.take n):=by
 refine⟨by rw[l6,l6,h.1],fun p v c hv hc=>?_⟩;rw[n3]at hv hc;split at hv
 ·rename_i hp;rw[c7 hp]at hc;have:=h.2 p v c hv hc;simp only[cp]at this⊢;exact this.keep (fun b hb=>⟨rfl,hk b hb⟩) fun b hb=>⟨rfl,hb⟩
 ·cases hv
theorem V93{p:Prop}(h:p:=by
 rw[H0,l6,y6 MZ];congr 1
 exact(y6 (l9 _ MZ)).symm):p:=h
theorem Leq.ok' (hM:m=true->(∀b,¬M b)/\∀o,w0.fx o=none)(hF:∀o v,w0.fx o=some v->o.1=0)(h:Leq m st My)(hc:Conc N B M w0 ρ st.fs a w):∃ρ',Conc N B M w0 ρ' My.fs a w/\
  (∀b,okB ρ st.fs.H w b->okB ρ' My.fs.H w b)/\
  ∀(t:Nat) (v:Value) (ok ok':Nat->Prop),(∀b,ok b->ok' b)->RV B ρ w ok v (di st.fr t)->RV B ρ' w ok' v (di My.fr t):=by
 obtain⟨hu,h⟩:=h;rw[b9,b9]at hu;obtain⟨hu,XK⟩:=hu;obtain⟨r1,_,hL,h⟩:=EQ h;obtain⟨f,h1,hH,UY⟩:=Dg h;rw[b9]at UY;obtain⟨hr,hP⟩:=UY;have hL:=hL f h1;have hH:=hH f (.refl f)
 let ρ':Rho:=⟨vr ρ f,fun o c=>(∃sz rows hole,My.fs.H o=some (.dar sz rows hole))/\∃q k,gW f o=some (some (q,k))/\ρ.fp q c,ρ.al⟩
 have hρ:∀o,ρ' o=vr ρ f o:=fun _=>rfl;have N0:∀{o:Id} {x:Option (Id×Option Nat)},gW f o=some x->ρ' o=vrv ρ x:=fun e=>sF e;refine⟨ρ',?_⟩
 have old:∀o x b,My.fs.H o=some x->Own ρ' o b->∃q y c,gW f o=some (some (q,c))/\st.fs.H q=some y/\Own ρ q b:=by
  intro o x b ho hb;rcases hH o x (kR ho)with⟨g1,_⟩|⟨q,c,y,g1,g2,_⟩
  ·rcases hb with hb|⟨_,q,k,e,_⟩
   ·rw[N0 g1]at hb;simp[vrv,blk]at hb
   ·rw[g1]at e;cases e
  ·refine⟨q,y,c,g1,g2,?_⟩;rcases hb with hb|⟨_,q',k,e,hf⟩
   ·left;rw[N0 g1]at hb
    cases c with
    | none=>exact hb
    | some k=>
     simp only[vrv]at hb;split at hb
     ·rename_i A n cc e;rw[e]
      cases A<;>exact hb
     ·exact hb
   ·rw[g1]at e;injection e with e;injection e with e;injection e with e1 e2;subst e1;exact .inr hf
 have hk:∀b,okB ρ st.fs.H w b->okB ρ' My.fs.H w b:=by intro b hb;refine⟨hb.1,fun o x ho he=>?_⟩;obtain⟨q,y,_,_,g2,g3⟩:=old o x b ho he;exact hb.2 q y g2 g3
 refine⟨?_,hk,fun t v ok ok' MC hv=>?_⟩
 rotate_left
 ·rcases iv My.fr t with e|hm
  ·rw[e];trivial
  ·exact hL t _ hm hρ MC hv
 refine⟨hc.size,hc.defers,fun t=>?_,fun o x ho=>?_,fun o o' x x' b ho MX MF he Np=>?_,fun o x b ho he=>?_,hc.keep,hc.base,hc.alw,hc.cst,fun o v hv=>?_,fun t o ho=>?_,fun o x ho=>?_⟩
 ·rcases iv My.fr t with e|hm
  ·show RV _ _ _ _ _ (di My.fr t);rw[e];trivial
  ·exact hL t _ hm hρ hk (hc.slot t)
 ·rcases hH o x (kR ho)with⟨g1,⟨fr,sz,rfl⟩|⟨sz,rfl⟩⟩|⟨q,c,y,g1,g2,g3⟩
  ·exact⟨fun r hr=>(by cases hr),.inl ⟨N0 g1,rfl⟩⟩
  ·exact⟨fun r hr=>(by cases hr),.inl ⟨N0 g1,rfl,rfl⟩⟩
  ·have M3:=hc.obj q y g2;have MP:=N0 g1;rcases g3 with⟨rfl,xs,ys,rfl,rfl,g4⟩|⟨fr,sz,rows,fr',rows',rfl,rfl,g4,g5⟩|⟨sz,rows,rows',rfl,rfl,g5⟩|⟨rfl,fr,sz,rows,rfl,MN,rfl⟩|⟨rfl,sz,rows,fr,rfl,rfl,Ni⟩|⟨rfl,kk,es,rfl,rfl⟩
   ·obtain⟨b,cur,t,fz,k1,k2,k3,k4⟩:=M3;exact⟨b,cur,t,fz,by rw[MP];exact k1,k2,k3,g4 hρ hk k4⟩
   ·obtain⟨Re,M3⟩:=M3
    have M0:∀r∈rows',r∈rows:=by
     rcases g5 with⟨_,rfl⟩|⟨k,_,_,rfl⟩
     ·exact fun r h=>h
     ·exact fun r h=>t8 h
    refine⟨fun r hr=>Re r (M0 r hr),?_⟩;rcases M3 with⟨k1,k2⟩|⟨b,cap,cur,e,fz,k1,k2,k3,k4,k5,k6,k7,k8⟩
    ·subst k2;left;rcases g5 with⟨rfl,rfl⟩|⟨k,rfl,MZ,rfl⟩
     ·exact⟨by rw[MP];exact k1,rfl⟩
     ·simp only[i8,Nat.le_zero]at MZ;subst MZ;exact⟨by rw[MP];simp only[vrv,k1],s_⟩
    ·right;have hB:m=true->B<=b:=fun hm=>((hc.rng q _ b g2 (.inl (by rw[k1];rfl))).2).resolve_right ((hM hm).1 b)
     have tup:∀{l:List Value},RTs w (okF B (okB ρ st.fs.H w) fr) l rows'.flatten->RTs w (okF B (okB ρ' My.fs.H w) fr') l rows'.flatten:=by
      intro l hl
      cases fr' with
      | false=>exact hl.keep fun b hb=>⟨rfl,hk b hb.1,fun e=>by cases e⟩
      | true=>
       cases fr with
       | true=>exact hl.keep fun b hb=>⟨rfl,hk b hb.1,hb.2⟩
       | false=>refine hl.flat fun t ht=>?_;obtain⟨row,h1,h2⟩:=E4.1 ht;exact g4.2 row h1 t h2
     have Ni:fr'=true->B<=b:=by
      intro e;subst e
      cases fr with|true=>exact k8 rfl|false=>exact hB g4.1
     rcases g5 with⟨rfl,rfl⟩|⟨k,rfl,MZ,rfl⟩
     ·exact⟨b,cap,cur,e,fz,by rw[MP];exact k1,k2,k3,k4,k5,k6,tup k7,Ni⟩
     ·refine⟨b,cap,cur,e,fz,?_,k2,k3,?_,k5,k6,tup ?_,Ni⟩
      ·rw[MP];simp only[vrv,k1,l6,y6 MZ]
      ·simp only[l6];omega
      ·rw[lh k Re MZ]
       have:cur.toList.take ((rows.take k).length*sz)=(cur.toList.take (rows.length*sz)).take (k*sz):=by exact V93
       rw[this];exact k7.take _
   ·obtain⟨Re,M3⟩:=M3
    have M0:∀r∈rows',r∈rows:=by
     rcases g5 with⟨_,rfl⟩|⟨k,_,_,rfl⟩
     ·exact fun r h=>h
     ·exact fun r h=>t8 h
    refine⟨fun r hr=>Re r (M0 r hr),?_⟩;rcases M3 with⟨k1,k2,_⟩|⟨b,cap,cur,e,fz,Fp,k1,k2,k3,k4,k5,k6,k7,k8,k9⟩
    ·subst k2;left;rcases g5 with⟨rfl,rfl⟩|⟨k,rfl,MZ,rfl⟩
     ·exact⟨by rw[MP];exact k1,rfl,rfl⟩
     ·simp only[i8,Nat.le_zero]at MZ;subst MZ;exact⟨by rw[MP];simp only[vrv,k1],s_,rfl⟩
    ·right;have NQ:∀p d,Fp p d->ρ'.fp o d/\d≠b:=fun p d hd=>⟨⟨⟨_,_,_,ho⟩,q,c,g1,(k7 p d hd).1⟩,(k7 p d hd).2⟩;rcases g5 with⟨rfl,rfl⟩|⟨k,rfl,MZ,rfl⟩
     ·exact⟨b,cap,cur,e,fz,Fp,by rw[MP];exact k1,k2,k3,k4,k5,k6,NQ,k8,k9.keep (fun c MB=>⟨rfl,hk c MB⟩) (fun p c MB=>⟨rfl,MB⟩) fun _ _ _ e=>by cases e⟩
     ·refine⟨b,cap,cur,e,fz,Fp,?_,k2,k3,?_,k5,k6,NQ,k8,?_⟩
      ·rw[MP];simp only[vrv,k1,l6,y6 MZ]
      ·simp only[l6];omega
      ·rw[lh k Re MZ]
       have:cur.toList.take ((rows.take k).length*sz)=(cur.toList.take (rows.length*sz)).take (k*sz):=by exact V93
       rw[this];exact k9.take hk
   ·exact(CT hc g2 MN).toDar MP fun d hd MF=>hd.elim (fun e=>absurd e MF) fun hd=>⟨⟨_,_,_,ho⟩,q,none,g1,hd⟩
   ·obtain⟨Re,M3⟩:=M3;refine⟨fun r hr=>?_,?_⟩
    ·have:=Re (r.map .d) (n7.2 ⟨r,hr,rfl⟩);simpa using this
    have Mw:(aK rows).length=rows.length:=(by simp[aK]);rcases M3 with⟨k1,k2,_⟩|⟨b,cap,cur,e,fz,Fp,k1,k2,k3,k4,k5,k6,k7,k8,k9⟩
    ·left;exact⟨by rw[MP];exact k1,by simpa [aK]using k2⟩
    ·right;rw[Mw]at k1 k4 k9;rw[lz]at k9;have Ux:∀d,Own ρ q d->fr=true->B<=d:=fun d hd e=>((hc.rng q _ d g2 hd).2).resolve_right ((hM (Ni e)).1 d);have hb:Own ρ q b:= .inl (by rw[k1];rfl)
     have hin:∀p d,Fp p d->okF B (okB ρ' My.fs.H w) fr d:=fun p d hd=>by
      obtain⟨ST,Za⟩:=k7 p d hd;have M8:=hc.rng q _ d g2 (.inr ST);refine⟨⟨⟨M8.1,hc.alw d M8.2⟩,fun o2 x2 XE Ou=>?_⟩,Ux d (.inr ST)⟩;obtain⟨q2,y2,c2,e1,e2,e3⟩:=old o2 x2 d XE Ou;by_cases e:q2=q
      ·subst e;have:=rZ hr e1 g1;subst this;rcases Ou with Ou|⟨⟨_,_,_,Ou⟩,_⟩
       ·rw[MP]at Ou;simp only[vrv,k1,blk]at Ou;injection Ou with Ou;exact Za Ou.symm
       ·rw[ho]at Ou;injection Ou with Ou;cases Ou
      ·exact hc.sep q2 q y2 _ d e2 g2 e e3 (.inr ST)
     refine⟨b,cap,cur,e,fz,by rw[MP];exact k1,k2,k3,k4,k5,k6,RTs.of (by rw[k9.1,e7]) fun p v t hv ht=>?_,Ux b hb⟩;have:=k9.2 p v (.d t) hv (by rw[p6,ht];rfl);simp only[cp]at this;exact DT.toRT this (hin p)
   ·obtain⟨b,ents,clock,k1,k2,k3⟩:=M3;exact⟨b,ents,clock,by rw[MP];exact k1,k2,k3⟩
 ·obtain⟨q,y,c,g1,g2,g3⟩:=old o x b ho he;obtain⟨q',y',c',g4,g5,g6⟩:=old o' x' b MX Np;by_cases e:q=q'
  ·subst e;exact MF (rZ hr g1 g4)
  ·exact hc.sep q q' y y' b g2 g5 e g3 g6
 ·obtain⟨q,y,c,g1,g2,g3⟩:=old o x b ho he;exact hc.rng q y b g2 g3
 ·cases m with
  | true=>rw[(hM rfl).2 o]at hv;cases hv
  | false=>
   have h0:=hF o v hv;simp only[C7]at hP XK;refine⟨?_,by show used My.u o.1=true;rw[h0];exact XK⟩;have e:=(hc.Mq o v hv).1;rw[hρ];unfold vr
   cases hg:gW f o with
   | none=>exact e
   | some x=>
    have:=o8.1 hP _ (zS hg);simp only[h0,Nat.beq_refl,Bool.not_true,C7]at this;split at this
    ·rename_i o1;rw[idEq_iff]at this;subst this;exact e
    ·cases this
 ·rcases iv My.fr t with e|hm
  ·simp only[St.fs]at ho;rw[e]at ho;simp[AV.ids]at ho
  ·exact xQ hu.1 t _ hm o ho
 ·exact wl hu.2 o x (kR ho)
theorem Leq.ok (hM:m=true->(∀b,¬M b)/\∀o,w0.fx o=none)(hF:∀o v,w0.fx o=some v->o.1=0)(h:Leq m st My)(hc:Conc N B M w0 ρ st.fs a w):∃ρ',Conc N B M w0 ρ' My.fs a w:=
 let ⟨ρ',h,_⟩:=h.ok' hM hF hc
 ⟨ρ',h⟩
theorem jL:∀(l:List Id) (st:St) (K:St->Prop) (ρ:Rho),iB l st K->Conc N B M w0 ρ st.fs a w->(∀o∈l,True)->∃st1 ρ1,K st1/\Conc N B M w0 ρ1 st1.fs a w/\st1.fr=st.fr
 | [],st,K,ρ,h,hc,_=>⟨st,ρ,h,hc,rfl⟩
 | o::l,st,K,ρ,h,hc,_=>by
  obtain⟨H',us,R,h1,h2⟩:=oH h;rw[rY]at h1;obtain⟨⟨ρ1,N7⟩,_⟩:=h2 hc fun _ _=>rfl;have Pu:(⟨st.fs.L,bP st.fs.H us,st.fs.U⟩:F_)=(⟨st.fr,so us st.h,st.u⟩:St).fs:=F_.ext' (fun _=>rfl) (fun o=>(nK us st.h o).symm) fun _=>Iff.rfl;rw[Pu]at N7;obtain⟨st1,ρ2,g1,g2,g3⟩:=jL l _ K ρ1 h1 N7 fun _ _=>trivial;exact⟨st1,ρ2,g1,g2,g3⟩
theorem LeqG.ok (hM:m=true->(∀b,¬M b)/\∀o,w0.fx o=none)(hF:∀o v,w0.fx o=some v->o.1=0)(h:LeqG m st My)(hc:Conc N B M w0 ρ st.fs a w):∃ρ',Conc N B M w0 ρ' My.fs a w:=by obtain⟨st1,ρ1,g1,g2,_⟩:=jL _ st _ ρ h hc fun _ _=>trivial;exact g1.ok hM hF g2
theorem uk {st:St}{c:Operand}{b:Bool}(h:evL (di st.fr) c=tB b):(wQ st c b).fs=st.fs:=by
 unfold wQ;split
 ·exact vX h
 ·rfl
theorem V14{p:Prop}(h:p:=by
 cases e with
 | normal=>exact hQ .normal _ _ _ _ hK MB
 | ret=>exact hQ .ret _ _ _ _ hK MB
 | pan v=>exact hQ (.pan v) _ _ _ _ hK MB
 | exit id'=>
  show if id'=id then _ else _
  by_cases he:id'=id
  ·rw[c7 he];subst he;simp only[Nat.beq_refl]at hK;exact hQ .normal _ _ _ _ hK MB
  ·rw[b8 he];have:Nat.beq id' id=false:=(by cases hb:Nat.beq id' id with|false=>rfl|true=>exact absurd (r9 hb) he);simp only[this]at hK
   exact hQ (.exit id') _ _ _ _ hK MB):p:=h
theorem V2{p:Prop}(h:p:=by
 obtain⟨ι,S,μ,i0,h0,hS⟩:=h;obtain⟨ρ0,OP⟩:=h0.ok hM hF hc
 have key:∀n i (ρ:Rho) (a:Act) (w:World),μ i<=n->Conc N B M w0 ρ (S i).fs a w->∀(b:Frame) (k:List Item) (cs:List Frame),
   ∃e a' w',Q e a' w'/\Arrives P (lone (b.at a (.code c:: .inLoop c::k)) cs w) b k cs e a' w':=by
  intro n
  induction n with
  | zero=>
   intro i ρ a w hi hc b k cs
   obtain⟨e,a1,w1,hq,NK⟩:=ih _ (S i) ρ a w (fun e a' w'=>match e with|.normal=>False|e=>Q e a' w') (hS i) hc (fun e My ρ' a' w' hK MB=>by
    cases e with
    | normal=>obtain⟨j,_,hj⟩:=hK;exact absurd hj o_
    | exit id=>exact hQ (.exit id) _ _ _ _ hK MB
    | pan v=>exact hQ (.pan v) _ _ _ _ hK MB
    | ret=>exact hQ .ret _ _ _ _ hK MB) b (.inLoop c::k) cs
   cases e with|normal=>exact hq.elim|exit id=>exact⟨_,a1,w1,hq,.pass (x:= .inLoop c) rfl (fun _ _=> .inl s_) NK⟩|goto l=>exact⟨_,a1,w1,hq,.pass (x:= .inLoop c) rfl (fun _ _=> .inl s_) NK⟩|ret=>exact⟨_,a1,w1,hq,.pass (x:= .inLoop c) rfl (fun _ _=> .inl s_) NK⟩|panic ch=>exact⟨_,a1,w1,hq,.pass (x:= .inLoop c) rfl (fun _ _=> .inl s_) NK⟩|outgrown=>exact⟨_,a1,w1,hq,.pass (x:= .inLoop c) rfl (fun _ _=> .inl s_) NK⟩
  | succ n ihn=>
   intro i ρ a w hi hc b k cs
   obtain⟨e,a1,w1,hq,NK⟩:=ih _ (S i) ρ a w (fun e a' w'=>match e with|.normal=>∃j ρ',μ j<=n/\Conc N B M w0 ρ' (S j).fs a' w'|e=>Q e a' w') (hS i) hc (fun e My ρ' a' w' hK MB=>by
    cases e with
    | normal=>obtain⟨j,Ve,PT⟩:=hK;obtain⟨ρ'',Qg⟩:=Ve.ok hM hF MB;exact⟨j,ρ'',o_,Qg⟩
    | exit id=>exact hQ (.exit id) _ _ _ _ hK MB
    | pan v=>exact hQ (.pan v) _ _ _ _ hK MB
    | ret=>exact hQ .ret _ _ _ _ hK MB) b (.inLoop c::k) cs
   cases e with
   | normal=>
    obtain⟨j,ρ',hj,MB⟩:=hq;obtain⟨e2,a2,w2,Sl,Uj⟩:=ihn j ρ' a1 w1 hj MB b k cs
    exact⟨e2,a2,w2,Sl,.of_steps (Steps.trans NK (.one step_inLoop)) Uj⟩
   | exit id=>exact⟨_,a1,w1,hq,.pass (x:= .inLoop c) rfl (fun _ _=> .inl s_) NK⟩
   | goto l=>exact⟨_,a1,w1,hq,.pass (x:= .inLoop c) rfl (fun _ _=> .inl s_) NK⟩
   | ret=>exact⟨_,a1,w1,hq,.pass (x:= .inLoop c) rfl (fun _ _=> .inl s_) NK⟩
   | panic ch=>exact⟨_,a1,w1,hq,.pass (x:= .inLoop c) rfl (fun _ _=> .inl s_) NK⟩
   | outgrown=>exact⟨_,a1,w1,hq,.pass (x:= .inLoop c) rfl (fun _ _=> .inl s_) NK⟩
 intro b k cs;obtain⟨e,a',w',hq,NK⟩:=key (μ i0) i0 ρ0 a w (d8 _) OP b k cs
 exact⟨e,a',w',hq,.of_steps (.one step_loop) NK⟩):p:=h
theorem KJ (hΓ:Γ.chk P=true)(aG:P.follows .mixedOrders=true)(hM:m=true->(∀b,¬M b)/\∀o,w0.fx o=none)(hF:∀o v,w0.fx o=some v->o.1=0):
  ∀(c:Code) (K:Out->St->Prop) (st:St) (ρ:Rho) (a:Act) (w:World) (Q:Exit->Act->World->Prop),W m P Γ N c K st->Conc N B M w0 ρ st.fs a w->
   (∀e My ρ' a' w',K e My->Conc N B M w0 ρ' My.fs a' w'->Q e.at a' w')->c.wp P Q a w:=by
 intro c
 induction c with
 | skip=>intro K st ρ a w Q h hc hQ;exact wp_skip (hQ .normal _ _ _ _ h hc)
 | label l=>intro K st ρ a w Q h hc hQ;exact wp_label (hQ .normal _ _ _ _ h hc)
 | exit id=>intro K st ρ a w Q h hc hQ;exact wp_exit (hQ (.exit id) _ _ _ _ h hc)
 | ret=>intro K st ρ a w Q h hc hQ;exact wp_ret (hQ .ret _ _ _ _ h hc)
 | goto l=>intro K st ρ a w Q h;exact h.elim
 | refuse y=>intro K st ρ a w Q h;exact h.elim
 | scope b _=>intro K st ρ a w Q h;exact h.elim
 | rangeFunc f ps x y _ _=>intro K st ρ a w Q h;exact h.elim
 | region id ops draw=>
  intro K st ρ a w Q h hc hQ
  cases draw with
  | false=>
   obtain⟨es,My,h1,h2,h3,h4⟩:=tX hΓ ops.toList st [] _ h;refine wp_region_list ?_;have:=qY (P:=P) (N:=N) (ops:=ops.toList) (B:=B) (M:=M) (w0:=w0) (Q:=Q) ops.toList es st.fs ρ a w h2 hc fun ρ' a' w' MB=>hQ .normal My ρ' a' w' h4 (by rw[h3];exact MB)
   simpa using this
  | true=>
   have NB:∀i o,ops.toList[i]?=some o->(Array.replicate ops.size false).getD i true=true->∀j∈cJ o,(Array.replicate ops.size false).getD j true=true:=fun i o ho hl=>by
    have hi:i<ops.size:=by
     rcases m7 i ops.size with h'|h'
     ·exact h'
     ·rw[e9 (by simpa using h')]at ho;cases ho
    simp[r7,hi]at hl
   have MB:∀es:List (Bool×Eff),Conc N B M w0 ρ (sel st.fs ops.toList es (fun i=>(Array.replicate ops.size false).getD i true) 0) a {w with drawn:=w.drawn+1}:=by
    intro es
    rw[ml _ _ _ _ _ fun i _ hi=>by
     have:i<ops.size:=by simpa using hi
     simp[r7,this]]
    exact hc.step (fun _=>False) [] (Turn.drew _ w) hc.size hc.defers (fun _ _=>rfl) (fun _ _ _ _=>rfl) rfl (fun _ _=>rfl) (fun _ h=>h) (fun _ _ h=>h) (fun _ _ _ _ _ _ h=>h) (fun _ _ _ h=>h)
     (fun o x b h=>by cases h) (fun o o' x x' b h=>by cases h) (fun _ o x h=>by cases h) (fun _ t=> .inl ⟨rfl,rfl⟩)
   refine wp_region_any aG ?_;rcases h with h|⟨xi,xj,h⟩
   ·obtain⟨es,My,h1,h2,h3,h4,h5⟩:=tX hΓ ops.toList st [] _ h;simp only[m6,List.reverse_reverse]at h4
    have:=Fc (P:=P) (N:=N) (ops:=ops.toList) (B:=B) (M:=M) (w0:=w0) (Q:=Q) st.fs es h1 h2 h4 (fun ρ' a' w' MB=>hQ .normal My ρ' a' w' h5 (by rw[h3];exact MB))
     ops.size (Array.replicate ops.size false) ρ a _ s_ s_ NB (MB es)
    simpa using this
   ·obtain⟨es,My,h1,h2,Mz,h4,⟨oi,oj,bj,ei,ej,g1,g2,g3,g4,g5⟩,h3,h5⟩:=HM hΓ h
    have:=CW (P:=P) (N:=N) (ops:=ops.toList) (B:=B) (M:=M) (w0:=w0) (Q:=Q) st.fs es h1 h2 Mz h4 g1 g2 g3 g4 g5 (fun ρ' a' w' MB=>hQ .normal My ρ' a' w' h5 (by rw[h3];exact MB))
     ops.size (Array.replicate ops.size false) ρ a _ s_ s_ NB (MB es)
    simpa using this
 | seq x y ihx ihy=>
  intro K st ρ a w Q h hc hQ;rcases h with h|⟨ι,S,h,h2⟩
  ·refine wp_seq (ihx _ st ρ a w _ h hc fun e My ρ' a' w' hK MB=>?_)
   cases e with|normal=>exact ihy K My ρ' a' w' Q hK MB hQ|exit id=>exact hQ (.exit id) _ _ _ _ hK MB|pan v=>exact hQ (.pan v) _ _ _ _ hK MB|ret=>exact hQ .ret _ _ _ _ hK MB
  ·refine wp_seq (ihx _ st ρ a w _ h hc fun e My ρ' a' w' hK MB=>?_)
   cases e with|normal=>obtain⟨i,hi⟩:=hK;obtain⟨ρ'',Qg⟩:=hi.ok hM hF MB;exact ihy K (S i) ρ'' a' w' Q (h2 i) Qg hQ|exit id=>exact hQ (.exit id) _ _ _ _ hK MB|pan v=>exact hQ (.pan v) _ _ _ _ hK MB|ret=>exact hQ .ret _ _ _ _ hK MB
 | cond c x y ihx ihy=>
  intro K st ρ a w Q h hc hQ;rw[W]at h;split at h
  ·rename_i b hb;have hv:=(hc.eval c).1;rw[show evL st.fs.L c=tB b from hb]at hv;refine wp_cond (fD hv) ?_
   cases b with|true=>exact ihx K _ ρ a w Q h aaH hQ|false=>exact ihy K _ ρ a w Q h aaH hQ
  ·exact h.elim
 | block id c ih=>
  intro K st ρ a w Q h hc hQ;refine wp_block (ih _ st ρ a w _ h hc fun e My ρ' a' w' hK MB=>?_)
  exact V14
 | loop c ih=>intro K st ρ a w Q h hc hQ;exact V2
end
def TV.av:TV->AV
 | .c x=> .r (.c (.t x))
 | .agg xs=> .r (.agg (xs.map .t))
def wK:Nat->List TV->List (Nat×AV)
 | _,[]=>[]
 | i,t::ts=>(i,t.av)::wK (i+1) ts
def st0 (ts:List TV):St:=⟨wK 0 ts,[],[]⟩
def Dz:AC->Prop
 | .t x=>(match x with
   | .lst _ _=>False
   | _=>True)
 | _=>True
def zm:List AC->Prop
 | []=>True
 | c::cs=>Dz c/\zm cs
def Dq:AR->Prop
 | .c x=>Dz x
 | .agg cs=>zm cs
def zi:List AR->Prop
 | []=>True
 | c::cs=>Dq c/\zi cs
def pZ:List (Id×AO)->Bool
 | []=>true
 |(o,_)::l=>!(l.any fun p=>fj o p.1)&&pZ l
def IJ (Γ:Env)(st:St):ResultVar->Option AR
 | .tmp t=>(match di st.fr t with
   | .r x=>some x
   | _=>none)
 | .cell a T=>(match di st.fr a,Γ.get T with
   | .r (.c (.ptr o 0)),some ti=>(match cf st.h o with
    | some (.box cells)=>(match ti.agg,Nat.beq cells.length ti.size,cells with
      | true,true,cs=>some (.agg cs)
      | false,true,[c]=>some (.c c)
      | _,_,_=>none)
    | _=>none)
   | _,_=>none)
def xl (Γ:Env)(st:St):List ResultVar->Option (List AR)
 | []=>some []
 | rv::rvs=>(match IJ Γ st rv,xl Γ st rvs with
   | some x,some xs=>some (x::xs)
   | _,_=>none)
def Jp (v:AV)(st:St)(r:Res):Prop:=pZ (r.os 0)=true/\Leq true ⟨[(0,v)],st.h,st.u⟩ ⟨[(0,r.av 0)],r.us 0,[0]⟩
def KN (Γ:Env)(rvs:List ResultVar)(r:Res)(st:St):Prop:=
 match xl Γ st rvs with|some [x]=>Dq x/\Jp (.r x) st r|some xs=>zi xs/\Jp (.tup xs) st r|none=>False
def fin (Γ:Env)(rvs:List ResultVar)(st:St)(r:Res):Prop:=iB (iY st.h []) st (KN Γ rvs r)
def JV (Γ:Env)(rvs:List ResultVar)(r:Res):Out->St->Prop
 | .exit _,_=>False
 | .pan _,_=>False
 | _,st=>fin Γ rvs st r
def Aq (Γ:Env)(rvs:List ResultVar)(r:AV)(h1:List (Id×AO))(st:St):Prop:=
 match xl Γ st rvs with|some [x]=>Leq false ⟨[(0,.r x)],st.h,st.u⟩ ⟨[(0,r)],h1.map (fun p=>(p.1,some p.2)),[1,0]⟩|some xs=>Leq false ⟨[(0,.tup xs)],st.h,st.u⟩ ⟨[(0,r)],h1.map (fun p=>(p.1,some p.2)),[1,0]⟩|none=>False
def JR (Γ:Env)(rvs:List ResultVar)(r:AV)(h1:List (Id×AO)):Out->St->Prop
 | .exit _,_=>False
 | .pan _,_=>False
 | _,st=>iB (iY st.h []) st (Aq Γ rvs r h1)
structure Obl (p:Prop):Prop where
 out:p
theorem uS {P:Program}{f:FuncId}{H:Id->Option AO}{xs:List AV}{ts:List TV}{r:Res}{K:List TV->Res->Prop}(h:Sim.Spec P f ts r)(h1:ey H xs ts)(h2:K ts r):∃ts r,ey H xs ts/\Sim.Spec P f ts r/\K ts r:=
 ⟨ts,r,h1,h,h2⟩
theorem Ae {P:Program}{f:FuncId}{nm:Nat}{args:List AV}{H:Id->Option AO}{K:Eff->Prop}{X:Prop}{xs:List AV}{h0:List (Id×AO)}{r:AV}{h1:List (Id×AO)}(h:bA P f xs h0 r h1)
  (h2:Hh H [] [] args xs fun θ bw=>maO H θ bw h0 fun θ bw=>(okI θ bw h0&&okJ h0 r h1&&(bw.isEmpty||(GA r&&ur h1)))=true/\K ⟨r.re θ nm,usG θ nm h1,some nm,(θ.map (·.2))++(bw++args.flatMap AV.ids)⟩):X\/GT P f nm args H K:=
 .inr ⟨xs,h0,r,h1,h,h2⟩
theorem ai {p q:Prop}(h:p)(k:q):p/\q:=And.intro h k
theorem oi {p q:Prop}(h:Obl p)(k:q):p/\q:=And.intro h.out k
theorem fi {b:Bool}{X Y:Prop}(h1:b=true->X)(h2:b=false->Y):ifB b X Y:=Fa h1 h2
theorem ci {P:Program}{f:FuncId}{H:Id->Option AO}{xs:List AV}{ts:List TV}{r:Res}{K:List TV->Res->Prop}(h:Sim.Spec P f ts r)(h1:ey H xs ts)(h2:K ts r):∃ts r,ey H xs ts/\Sim.Spec P f ts r/\K ts r:=uS h h1 h2
theorem cl {P:Program}{f:FuncId}{H:Id->Option AO}{xs:List AV}{ts:List TV}{r:Res}{K:List TV->Res->Prop}{X:Prop}(h:Sim.Spec P f ts r)(h2:K ts r)(h1:ey H xs ts:=by first|((repeat' (first|exact trivial|refine And.intro ?_ ?_|exact rfl));done)|fail):(∃ts r,ey H xs ts/\Sim.Spec P f ts r/\K ts r)\/X:= .inl ⟨ts,r,h1,h,h2⟩
theorem cg {P:Program}{f:FuncId}{nm:Nat}{args:List AV}{H:Id->Option AO}{K:Eff->Prop}{X:Prop}{xs:List AV}{h0:List (Id×AO)}{r:AV}{h1:List (Id×AO)}(h:bA P f xs h0 r h1)
  (h2:Hh H [] [] args xs fun θ bw=>maO H θ bw h0 fun θ bw=>(okI θ bw h0&&okJ h0 r h1&&(bw.isEmpty||(GA r&&ur h1)))=true/\K ⟨r.re θ nm,usG θ nm h1,some nm,(θ.map (·.2))++(bw++args.flatMap AV.ids)⟩):X\/GT P f nm args H K:=Ae h h2
theorem Wm {α:Type}{p:α->Prop}{a:α}{l:List α}(h:p a)(t:∀x∈l,p x):∀x∈a::l,p x:=List.forall_mem_cons.2 ⟨h,t⟩
theorem KO {p:Prop}(h:p:=by first|((with_reducible show sS _ _=true);kernel_rfl)|((with_reducible show um _ _=true);kernel_rfl)|rfl|exact trivial|((repeat' (first|exact trivial|refine And.intro ?_ ?_));done)|decide|((repeat' (first|exact G5 _|refine Wm rfl ?_));done)|(refine And.intro ?_ ?_<;>simp only[e7,c8,d5,i8]<;>omega)|fail):p:=h
theorem KP {p:Prop}(h:p:=by first|((with_reducible show sS _ _=true);kernel_rfl)|((with_reducible show um _ _=true);kernel_rfl)|rfl|exact trivial|((repeat' (first|exact trivial|refine And.intro ?_ ?_));done)|decide|((repeat' (first|exact G5 _|refine Wm rfl ?_));done)|fail):p:=h
theorem KR {p:Prop}(h:p:=by first|((with_reducible show sS _ _=true);kernel_rfl)|((with_reducible show lj _ _ _ _=true);kernel_rfl)|((with_reducible show GB _ _ _ _ _ _);(conv=>whnf);rfl)|rfl|exact trivial|((repeat' (first|exact trivial|refine And.intro ?_ ?_));done)|decide|((repeat' (first|exact G5 _|refine Wm rfl ?_));done)|fail):p:=h
theorem KW {k:IntKind}{a b:Int}(h:a=b:=by first|rfl|(simp(disch:=omega)only[c6];done)|((try simp(disch:=omega)only[c6]);omega)):Tr.int k a=Tr.int k b:=congrArg (Tr.int k) h
theorem KX {p:Prop}(h:False:=by simp only[p9,j5]at *;omega):p:=h.elim
theorem KK {p:Prop}(h:False:=by simp only[w8,B4,ne_eq,j5,p9]at *;omega):p:=h.elim
section
variable {P:Program} {Γ:Env} {N B:Nat} {M:Nat->Prop} {w0:Start} {w:World} {ρ:Rho} {st My:St} {a:Act}
theorem xf {ok:Nat->Prop}{v:Value}{x:AC}(h:Dz x)(hv:RC B ρ w ok v x):RC B ρ w (okF B ok true) v x:=by
 cases x with
 | t x=>cases x with|lst=>exact h.elim|int k n=>exact RT.flat hv s_|bool b=>exact RT.flat hv s_|str b=>exact RT.flat hv s_
 | f x=>exact RT.up (show RT w (okF B ok true) v x from hv) fun b hb=>⟨hb,hb.2⟩
 | nils sz=>exact hv
 | nilp=>exact hv
 | own o=>exact hv
 | sub o k=>exact hv
 | ptr o k=>exact hv
 | opq=>exact hv
 | mpv o=>exact hv
theorem vV {ok:Nat->Prop}:∀{vs:List Value} {xs:List AC},zm xs->RCs B ρ w ok vs xs->RCs B ρ w (okF B ok true) vs xs
 | [],[],_,_=>trivial
 | _::_,_::_,h,hv=>⟨xf h.1 hv.1,vV h.2 hv.2⟩
 | [],_::_,_,h=>h.elim
 | _::_,[],_,h=>h.elim
theorem yr {ok:Nat->Prop}{v:Value}{x:AR}(h:Dq x)(hv:RR B ρ w ok v x):RR B ρ w (okF B ok true) v x:=by cases x with|c x=>exact xf h hv|agg cs=>obtain⟨us,e,hu⟩:=hv;exact⟨us,e,vV h hu⟩
theorem ve {ok:Nat->Prop}:∀{vs:List Value} {xs:List AR},zi xs->RRs B ρ w ok vs xs->RRs B ρ w (okF B ok true) vs xs
 | [],[],_,_=>trivial
 | _::_,_::_,h,hv=>⟨yr h.1 hv.1,ve h.2 hv.2⟩
 | [],_::_,_,h=>h.elim
 | _::_,[],_,h=>h.elim
theorem pB:∀{l:List (Id×AO)} {o:Id} {x:AO},pZ l=true->(o,x)∈l->cf (l.map fun p=>(p.1,some p.2)) o=some x
 | [],_,_,_,h=>by cases h
 |(i,y)::l,o,x,h,hm=>by
  simp only[pZ,b9,u9,F5]at h;rw[p7,cf];rcases d6.1 hm with he|O6
  ·injection he with e1 e2;subst e1;subst e2;rw[idEq_iff.2 rfl];rfl
  ·cases hb:fj o i with|true=>have:=idEq_iff.1 hb;subst this;exact absurd (idEq_iff.2 rfl) (h.1 (o,x) O6)|false=>exact pB h.2 O6
theorem Conc.alone (hc:Conc N B M w0 ρ st.fs a w){v:Value}{x:AV}(hv:RV B ρ w (okB ρ st.fs.H w) v x)(hi:∀o∈x.ids,st.fs.U o.1):Conc 1 B M w0 ρ (St.fs ⟨[(0,x)],st.h,st.u⟩) ⟨#[v],w0.df⟩ w:=by
 refine⟨rfl,rfl,fun t=>?_,hc.obj,hc.sep,hc.rng,hc.keep,hc.base,hc.alw,hc.cst,hc.Mq,fun t o ho=>?_,hc.usedH⟩
 ·show RV _ _ _ _ _ (bif Nat.beq t 0 then x else .unk)
  cases t with|zero=>exact hv|succ t=>trivial
 ·have ho:o∈(bif Nat.beq t 0 then x else .unk).ids:=ho
  cases t with|zero=>exact hi o ho|succ t=>have:o∈AV.ids .unk:=ho;simp[AV.ids]at this
theorem EU {r:Res}{v:Value}{x:AV}(hM:∀b,¬M b)(hX:∀o,w0.fx o=none)(hc:Conc N B M w0 ρ st.fs a w)(h:Jp x st r)(hv:RV B ρ w (okB ρ st.fs.H w) v x)(NI:RV B ρ w (okF B (okB ρ st.fs.H w) true) v x)(hi:∀o∈x.ids,st.fs.U o.1):vh B w v r:=by
 obtain⟨h1,h2⟩:=h;obtain⟨ρ',MB,hk,hS⟩:=h2.ok' (M:=M) (fun _=>⟨hM,hX⟩) (fun o v hv=>by rw[hX]at hv;cases hv) (hc.alone hv hi);have cf:∀o y,(o,y)∈r.os 0->(St.fs ⟨[(0,r.av 0)],r.us 0,[0]⟩).H o=some y:=fun o y hm=>pB h1 hm;refine⟨ρ',okF B (okB ρ' (St.fs ⟨[(0,r.av 0)],r.us 0,[0]⟩).H w) true,fun b hb=>⟨hb.1.1.1,hb.2 rfl⟩,?_,fun o y hm=>?_,fun o o' y y' hm P8 MF b hb ML=>MB.sep o o' y y' b (cf o y hm) (cf o' y' P8) MF (.inl hb) (.inl ML)⟩
 ·exact hS 0 v _ _ (fun b hb=>⟨hk b hb.1,hb.2⟩) NI
 ·have ho:=cf o y hm;obtain⟨sz,rows,rfl⟩:=yY hm;refine⟨?_,fun b hb=>?_⟩
  ·obtain⟨hu,Pw⟩:=MB.obj o _ ho;refine⟨hu,?_⟩;rcases Pw with h|⟨b,cap,cur,e,fz,k1,k2,k3,k4,k5,k6,k7,k8⟩
   ·exact .inl h
   ·exact .inr ⟨b,cap,cur,e,fz,k1,k2,k3,k4,k5,k6,k7.keep fun b hb=>⟨rfl,hb,hb.2⟩,k8⟩
  ·have:=MB.rng o _ b ho (.inl hb);refine⟨this.2.resolve_right (hM b),this.1,fun MC=>MC.1.2 o _ ho (.inl hb)⟩
abbrev wh (tmps:Array Value)(rv:ResultVar):Sem Value:=match rv with
 | .tmp t=>pure (tmps.getD t undef)
 | .cell a t=>do loadVar t (←asAddr (tmps.getD a undef))
theorem IP (hΓ:Γ.chk P=true)(hc:Conc N B M w0 ρ st.fs a w){rv:ResultVar}{x:AR}(h:IJ Γ st rv=some x):
  ∃v,(wh a.tmps rv).run P w= .ok v w/\RR B ρ w (okB ρ st.fs.H w) v x/\∀o∈x.ids,st.fs.U o.1:=by
 cases rv with
 | tmp t=>
  simp only[IJ]at h;split at h
  ·rename_i y hy;injection h with h;subst h;have hs:=hc.slot t;rw[show st.fs.L t= .r y from hy]at hs;exact⟨_,rfl,hs,fun o ho=>hc.usedL t o (by rw[show st.fs.L t= .r y from hy];exact ho)⟩
  ·cases h
 | cell t T=>
  simp only[IJ]at h;split at h
  ·rename_i o ti hl hT;split at h
   ·rename_i cells hh;obtain⟨i,d,fit⟩:=Env.fit hΓ hT;obtain⟨b,us,t',fz,g1,g2,g3,g4,g5⟩:=hc.box (q:=o) hh;have hs:=hc.slot t;rw[show st.fs.L t= .r (.c (.ptr o 0)) from hl]at hs;obtain⟨b',e1,e2⟩:=hs;rw[g1]at e1;injection e1 with e1;injection e1 with e1;injection e1 with e1;subst e1;have PG:∀o'∈cells.flatMap AC.ids,st.fs.U o'.1:=(hc.usedH o _ hh).2;have Pd:(asAddr (a.tmps.getD t undef)).run P w= .ok (⟨b,0,none⟩:Addr) w:=(by rw[e2];rfl);split at h
    ·rename_i cs ha hb;injection h with h;subst h;have Mw:us.toList.length=ti.size:=(by rw[g4.length];simpa using hb);have h1:=run_loadCells_list (P:=P) w ⟨b,0,none⟩ us.toList g5;rw[Mw,<-fit.size]at h1;refine⟨.agg us.toList.toArray,?_,⟨_,rfl,by simpa using g4⟩,PG⟩;simp only[wh,m8,Pd,i9];simp[loadVar,jj fit.und,fit.agg,ha,cn fit.info,h1]
    ·rename_i c ha hb;injection h with h;subst h;obtain⟨u,hu,R6⟩:=g4.get 0 c rfl;have MI:=g5 0 u hu;rw[fS]at MI;refine⟨u,?_,R6,fun o ho=>PG o (by simpa using(show o∈c.ids from ho))⟩;simp only[wh,m8,Pd,i9];simp[loadVar,jj fit.und,fit.agg,ha,run_load,MI]
    ·cases h
   ·cases h
  ·cases h
theorem mL (hΓ:Γ.chk P=true)(hc:Conc N B M w0 ρ st.fs a w):∀{rvs:List ResultVar} {xs:List AR},xl Γ st rvs=some xs->
  ∃vs,(rvs.mapM (wh a.tmps)).run P w= .ok vs w/\RRs B ρ w (okB ρ st.fs.H w) vs xs/\∀o∈xs.flatMap AR.ids,st.fs.U o.1
 | [],xs,h=>by
  simp only[xl,Option.some.injEq]at h;subst h
  exact⟨[],s_,trivial,s_⟩
 | rv::rvs,xs,h=>by
  simp only[xl]at h;split at h
  ·rename_i x Xd h1 h2;injection h with h;subst h;obtain⟨v,g1,g2,g3⟩:=IP hΓ hc h1;obtain⟨vs,g4,g5,g6⟩:=mL hΓ hc h2;refine⟨v::vs,?_,⟨g2,g5⟩,fun o ho=>?_⟩
   ·rw[List.mapM_cons,m8,g1,i9,m8,g4,i9,o9]
   ·simp only[u7,d9]at ho;exact ho.elim (g3 o) (g6 o)
  ·cases h
theorem ka {fn:Func}{a:Act}{vs:List Value}(OY:(fn.results.toList.mapM (wh a.tmps)).run P w= .ok vs w):(results fn a.tmps).run P w= .ok (if h:vs.length=1 then vs[0]else .tuple vs.toArray) w:=by unfold results;rw[show fn.results=fn.results.toList.toArray by simp];simp only[List.mapM_toArray,bind_map_left,m8];refine(congrArg (fun x=>Result.andThen x _) OY).trans ?_;simp only[i9,o9,B0,List.getElem_toArray]
theorem V67{p:Prop}(h:p:=by
 intro hl;obtain⟨v,rfl⟩:=List.length_eq_one_iff.1 hl
 match xs,g2,MF with
 | [x],_,MF=>exact MF x rfl
 | [],g2,_=>exact g2.elim
 | _::_::_,g2,_=>exact g2.2.elim):p:=h
theorem IA {r:Res}{fn:Func}(hΓ:Γ.chk P=true)(hM:∀b,¬M b)(hX:∀o,w0.fx o=none)(hc:Conc N B M w0 ρ st.fs a w)(h:KN Γ fn.results.toList r st):
  ∃v,(results fn a.tmps).run P w= .ok v w/\vh B w v r:=by
 unfold KN at h;split at h
 ·rename_i x hx;obtain⟨vs,g1,g2,g3⟩:=mL hΓ hc hx
  match vs,g2 with
  | [v],g2=>
   refine⟨_,ka g1,?_⟩;simp only[d5,i8,u5,dite_true,List.getElem_cons_zero]
   exact EU hM hX hc h.2 g2.1 (yr h.1 g2.1) fun o ho=>g3 o (by simpa using(show o∈x.ids from ho))
  | [],g2=>exact g2.elim
  | _::_::_,g2=>exact g2.2.elim
 ·rename_i xs MF hx;obtain⟨vs,g1,g2,g3⟩:=mL hΓ hc hx;refine⟨_,ka g1,?_⟩
  have hl:¬vs.length=1:=by exact V67
  rw[dif_neg hl];exact EU hM hX hc h.2 ⟨_,rfl,by simpa using g2⟩ ⟨_,rfl,by simpa using ve h.1 g2⟩ g3
 ·exact h.elim
theorem Hd {r:Res}{fn:Func}(hΓ:Γ.chk P=true)(hM:∀b,¬M b)(hX:∀o,w0.fx o=none)(hc:Conc N B M w0 ρ st.fs a w)(h:fin Γ fn.results.toList st r):
  ∃v,(results fn a.tmps).run P w= .ok v w/\vh B w v r:=by
 obtain⟨st1,ρ1,g1,g2,_⟩:=jL _ st _ ρ h hc fun _ _=>trivial;exact IA hΓ hM hX g2 g1
theorem Em {r:AV}{h1:List (Id×AO)}{fn:Func}(hΓ:Γ.chk P=true)(hF:∀o v,w0.fx o=some v->o.1=0)(hc:Conc N B M w0 ρ st.fs a w)(h:iB (iY st.h []) st (Aq Γ fn.results.toList r h1)):
  ∃v ρ',(results fn a.tmps).run P w= .ok v w/\Conc 1 B M w0 ρ' (St.fs ⟨[(0,r)],h1.map (fun p=>(p.1,some p.2)),[1,0]⟩) ⟨#[v],w0.df⟩ w:=by
 obtain⟨st1,ρ1,h,hc,_⟩:=jL _ st _ ρ h hc fun _ _=>trivial;unfold Aq at h;split at h
 ·rename_i x hx;obtain⟨vs,g1,g2,g3⟩:=mL hΓ hc hx
  match vs,g2 with
  | [v],g2=>
   obtain⟨ρ2,h2⟩:=h.ok s_ hF (hc.alone (x:= .r x) g2.1 fun o ho=>g3 o (by simpa using(show o∈x.ids from ho)));refine⟨_,ρ2,ka g1,?_⟩
   simpa using h2
  | [],g2=>exact g2.elim
  | _::_::_,g2=>exact g2.2.elim
 ·rename_i xs MF hx;obtain⟨vs,g1,g2,g3⟩:=mL hΓ hc hx
  have hl:¬vs.length=1:=by exact V67
  obtain⟨ρ2,h2⟩:=h.ok s_ hF (hc.alone (x:= .tup xs) (v:= .tuple vs.toArray) ⟨_,rfl,by simpa using g2⟩ g3);refine⟨_,ρ2,ka g1,?_⟩;rw[dif_neg hl];exact h2
 ·exact h.elim
theorem V71{p:Prop}(h:p:=by
 by_cases h1:t<i
 ·rw[c7 h1,c7 o_]
 ·rw[b8 h1,b8 o_];obtain⟨k,hk⟩:∃k,t-i=k+1:=⟨t-i-1,o_⟩;rw[hk,show t-(i+1)=k by omega]
  simp):p:=h
theorem rJ:∀(ts:List TV) (i t:Nat),di (wK i ts) t=if t<i then .unk else(match ts[t-i]? with|some x=>x.av|none=> .unk)
 | [],i,t=>by simp[wK,di]
 | x::ts,i,t=>by
  rw[wK,di]
  cases hb:Nat.beq t i with
  | true=>have:=r9 hb;subst this;simp
  | false=>
   have MF:t≠i:=fun e=>by subst e;simp at hb
   rw[cond_false,rJ ts (i+1) t];exact V71
theorem TV.av_ids (t:TV):t.av.ids=[]:=by
 cases t with
 | c x=>rfl
 | agg xs=>
  show(xs.map AC.t).flatMap AC.ids=[]
  induction xs with
  | nil=>rfl
  | cons x xs ih=>simp[AC.ids]
theorem RTs.toT {ok:Nat->Prop}:∀{vs:List Value} {ts:List Tr},RTs w ok vs ts->RCs B ρ w ok vs (ts.map .t)
 | [],[],_=>trivial
 | _::_,_::_,h=>⟨h.1,RTs.toT h.2⟩
 | [],_::_,h=>h.elim
 | _::_,[],h=>h.elim
theorem RTV.toRV {ok:Nat->Prop}{v:Value}{t:TV}(h:RTV w ok v t):RV B ρ w ok v t.av:=by cases t with|c x=>exact h|agg xs=>obtain⟨us,e,h⟩:=h;exact⟨us,e,h.toT⟩
theorem RTVs.len {ok:Nat->Prop}:∀{vs:List Value} {ts:List TV},RTVs w ok vs ts->vs.length=ts.length
 | [],[],_=>rfl
 | _::vs,_::ts,h=>by simp[RTVs.len (vs:=vs) (ts:=ts) h.2]
 | [],_::_,h=>h.elim
 | _::_,[],h=>h.elim
theorem RTVs.get {ok:Nat->Prop}:∀{vs:List Value} {ts:List TV},RTVs w ok vs ts->∀(i:Nat) v t,vs[i]?=some v->ts[i]?=some t->RTV w ok v t
 | [],[],_,i,v,t,h,_=>by simp at h
 | _::_,_::_,h,0,v,t,h1,h2=>by simp at h1 h2;subst h1;subst h2;exact h.1
 | _::_,_::_,h,i+1,v,t,h1,h2=>RTVs.get h.2 i v t aai aaf
 | [],_::_,h,_,_,_,_,_=>h.elim
 | _::_,[],h,_,_,_,_,_=>h.elim
theorem vI {ts:List TV}{vs:Array Value}{w:World}(h:RTVs w (fun b=>b<w.heap.size) vs.toList ts)(hN:ts.length<=N):
  Conc N w.heap.size (fun _=>False) ⟨w,fun _=>True,fun _=>none,[]⟩ ⟨fun _=>undef,fun _ _=>False,fun _=>True⟩ (st0 ts).fs {tmps:=vs++Array.replicate (N-vs.size) undef,defers:=[]} w:=by
 have hl:vs.size=ts.length:=by simpa using h.len
 refine⟨by simp;omega,rfl,fun t=>?_,fun o x ho=>(by cases ho),fun o o' x x' b ho=>(by cases ho),fun o x b ho=>(by cases ho),⟨rfl,rfl,rfl,d8 _,fun _ _ _=>rfl⟩,d8 _,fun _ _=>trivial,rfl,fun _ _ h=>(by cases h),fun t o ho=>?_,fun o x ho=>by cases ho⟩
 ·show RV _ _ _ _ _ (di (wK 0 ts) t);rw[rJ,b8 o_,y0]
  cases ht:ts[t]? with
  | none=>trivial
  | some x=>
   have Mz:t<vs.size:=by
    rcases m7 t ts.length with h'|h'
    ·omega
    ·rw[e9 h']at ht;cases ht
   have e:(vs++Array.replicate (N-vs.size) undef).getD t undef=vs[t]:=by rw[r7,Array.getElem?_append_left Mz,w7 Mz];rfl
   simp only;rw[e];have:=h.get t vs[t] x (by simp[Mz]) ht;refine RV.keep (RTV.toRV (B:=w.heap.size) (ρ:=⟨fun _=>undef,fun _ _=>False,fun _=>True⟩) this) (fun b hb=>⟨rfl,⟨hb,trivial⟩,fun o x ho=>by cases ho⟩) (fun o ho=>rfl)
 ·have ho:o∈(di (wK 0 ts) t).ids:=ho;rw[rJ,b8 o_,y0]at ho
  cases ht:ts[t]? with
  | none=>rw[ht]at ho;simp[AV.ids]at ho
  | some x=>rw[ht]at ho;simp only[TV.av_ids]at ho;cases ho
theorem nG {f:FuncId}{fn:Func}{c:Code}(hf:P.funcs[f]?=some fn)(hb:fn.body=some c)(hn:(fn.name== "runtime.NumGoroutine")=false):Cu P f:=by intro args w;simp only[B4]at hn;simp[callFunc,hf,hb,hn]
theorem V12{p:Prop}(h:p:=by
 have key:fin Γ fn.results.toList My r->a'.defers=[]/\∃v,(results fn a'.tmps).run P w'= .ok v w'/\∃v',Ending.returned v= .returned v'/\Below w.heap.size w w'/\vh w.heap.size w' v' r:=fun Ng=>by
  obtain⟨v,h1,h2⟩:=Hd (P:=P) hΓ (fun _ h=>h) (fun _=>rfl) MB Ng;exact⟨MB.defers,v,h1,v,rfl,⟨MB.keep.os,MB.keep.tape,MB.keep.output,MB.keep.size,fun k hk=>MB.keep.block k hk (fun h=>h)⟩,h2⟩
 cases e with
 | normal=>exact key hK
 | ret=>exact key hK
 | exit id=>exact hK.elim
 | pan v=>exact hK.elim):p:=h
theorem ak {f:FuncId}{fn:Func}{c:Code}{ts:List TV}{r:Res}(hΓ:Γ.chk P=true)(aG:P.follows .mixedOrders=true)(hf:P.funcs[f]?=some fn)(hb:fn.body=some c)(hn:(fn.name== "runtime.NumGoroutine")=false)
  (hN:Nat.ble ts.length fn.ntmps=true) (h:W true P Γ fn.ntmps c (JV Γ fn.results.toList r) (st0 ts)):Spec P f ts r:=by
 refine⟨nG hf hb hn,fun w vs OY=>calls_of_wp hf hb ?_⟩;have hc:=vI (N:=fn.ntmps) OY (D8 hN);refine KJ hΓ aG (fun _=>⟨fun _ h=>h,fun _=>rfl⟩) (fun _ _ h=>by cases h) c _ _ _ _ _ _ h hc fun e My ρ' a' w' hK MB=>?_;exact V12
def uo:Nat->List AV->List (Nat×AV)
 | _,[]=>[]
 | i,t::ts=>(i,t)::uo (i+1) ts
def stG (xs:List AV)(h0:List (Id×AO)):St:=⟨uo 0 xs,h0.map fun p=>(p.1,some p.2),[0]⟩
theorem oW:∀(ts:List AV) (i t:Nat),di (uo i ts) t=if t<i then .unk else(match ts[t-i]? with|some x=>x|none=> .unk)
 | [],i,t=>by simp[uo,di]
 | x::ts,i,t=>by
  rw[uo,di]
  cases hb:Nat.beq t i with
  | true=>have:=r9 hb;subst this;simp
  | false=>
   have MF:t≠i:=fun e=>by subst e;simp at hb
   rw[cond_false,oW ts (i+1) t];exact V71
theorem RVs.len {ok:Nat->Prop}:∀{vs:List Value} {ts:List AV},RVs B ρ w ok vs ts->vs.length=ts.length
 | [],[],_=>rfl
 | _::vs,_::ts,h=>by simp[RVs.len (vs:=vs) (ts:=ts) h.2]
 | [],_::_,h=>h.elim
 | _::_,[],h=>h.elim
theorem RVs.get {ok:Nat->Prop}:∀{vs:List Value} {ts:List AV},RVs B ρ w ok vs ts->∀(i:Nat) v t,vs[i]?=some v->ts[i]?=some t->RV B ρ w ok v t
 | [],[],_,i,v,t,h,_=>by simp at h
 | _::_,_::_,h,0,v,t,h1,h2=>by simp at h1 h2;subst h1;subst h2;exact h.1
 | _::_,_::_,h,i+1,v,t,h1,h2=>RVs.get h.2 i v t aai aaf
 | [],_::_,h,_,_,_,_,_=>h.elim
 | _::_,[],h,_,_,_,_,_=>h.elim
theorem zb (h0:List (Id×AO))(o:Id):cf (h0.map fun p=>(p.1,some p.2)) o=lkH h0 o:=by
 induction h0 with
 | nil=>rfl
 | cons p l ih=>simp only[p7,cf,lkH,ih]
def qT (xs:List AV)(h0:List (Id×AO))(r:AV)(h1:List (Id×AO)):Bool:=
 xs.all (fun x=>x.ids.all fun o=>Nat.beq o.1 0)&&h0.all (fun p=>Nat.beq p.1.1 0&&p.2.ids.all fun o=>Nat.beq o.1 0)
theorem tm {xs:List AV}{h0:List (Id×AO)}{vs:Array Value}{w:World}{ρ:Rho}(hn:qT xs h0 .unk []=true)(h:RVs w.heap.size ρ w (okB ρ (lkH h0) w) vs.toList xs)(hl:Lies w.heap.size ρ w h0)(M5:∀b,(w.heap.size<=b\/Ms ρ h0 b)->ρ.al b)(hN:xs.length<=N):
  Conc N w.heap.size (Ms ρ h0) ⟨w,ρ.al,fun o=>if(lkH h0 o).isSome=true then some (ρ o)else none,[]⟩ ρ (stG xs h0).fs {tmps:=vs++Array.replicate (N-vs.size) undef,defers:=[]} w:=by
 have Mw:vs.size=xs.length:=by simpa using h.len
 simp only[qT,b9,o8,H3]at hn;have hH:∀o,(stG xs h0).fs.H o=lkH h0 o:=fun o=>zb h0 o;have TK:(stG xs h0).fs.H=lkH h0:=funext hH
 have hU:∀n,(stG xs h0).fs.U n↔n=0:=fun n=>by
  show used [0] n=true↔n=0;simp only[used]
  cases hb:Nat.beq n 0 with|true=>simpa using hb|false=>simp only[cond_false,A2,false_iff];intro e;subst e;simp at hb
 have Pz:∀o x,lkH h0 o=some x->o.1=0/\∀o'∈x.ids,o'.1=0:=fun o x hx=>by
  have:=hn.2 _ (ig hx);exact⟨by simpa using this.1,fun o' MX=>by simpa using this.2 o' MX⟩
 refine⟨by simp;omega,rfl,fun t=>?_,fun o x ho=>?_,fun o o' x x' b ho MX=>?_,fun o x b ho he=>?_,⟨rfl,rfl,rfl,d8 _,fun _ _ _=>rfl⟩,d8 _,fun b hb=>M5 b hb,rfl,fun o v hv=>?_,fun t o ho=>?_,fun o x ho=>?_⟩
 ·show RV _ _ _ _ _ (di (uo 0 xs) t);rw[oW,b8 o_,y0,TK]
  cases ht:xs[t]? with
  | none=>trivial
  | some x=>
   have Mz:t<vs.size:=by
    rcases m7 t xs.length with h'|h'
    ·omega
    ·rw[e9 h']at ht;cases ht
   have e:(vs++Array.replicate (N-vs.size) undef).getD t undef=vs[t]:=by rw[r7,Array.getElem?_append_left Mz,w7 Mz];rfl
   simp only;rw[e];exact h.get t vs[t] x (by simp[Mz]) ht
 ·rw[hH]at ho;rw[TK];exact hl.obj o x ho
 ·rw[hH]at ho MX;exact hl.sep o o' x x' b ho MX
 ·rw[hH]at ho;exact⟨hl.lt o x b ho he,.inr ⟨o,x,ho,he⟩⟩
 ·have hv:(if(lkH h0 o).isSome=true then some (ρ o)else none)=some v:=hv;split at hv
  ·rename_i hs;injection hv with hv;obtain⟨x,hx⟩:=E6.1 hs;exact⟨hv,(hU _).2 (Pz o x hx).1⟩
  ·cases hv
 ·have ho:o∈(di (uo 0 xs) t).ids:=ho;rw[oW,b8 o_,y0]at ho
  cases ht:xs[t]? with|none=>rw[ht]at ho;simp[AV.ids]at ho|some x=>rw[ht]at ho;exact(hU _).2 (by simpa using hn.1 x (c9 ht) o ho)
 ·rw[hH]at ho;obtain⟨g1,g2⟩:=Pz o x ho;exact⟨(hU _).2 g1,fun o' MX=>(hU _).2 (g2 o' MX)⟩
theorem V54{p:Prop}(h:p:=by
 split at hv
 ·rename_i hs;obtain⟨x,hx⟩:=E6.1 hs;simp only[qT,b9,o8,H3]at Ne;simpa using(Ne.2 _ (ig hx)).1
 ·cases hv):p:=h
theorem V5{p:Prop}(h:p:=by
 have key:iB (iY My.h []) My (Aq Γ fn.results.toList r h1)->a'.defers=[]/\∃v,(results fn a'.tmps).run P w'= .ok v w'/\∃v' ρ2,Ending.returned v= .returned v'/\Keep w.heap.size (Ms ρ h0) w w'/\(∀o,(lkH h0 o).isSome=true->ρ2 o=ρ o)/\ρ2.al=ρ.al/\
   RV w.heap.size ρ2 w' (okB ρ2 (lkH h1) w') v' r/\Lies w.heap.size ρ2 w' h1/\∀o x b,lkH h1 o=some x->Own ρ2 o b->w.heap.size<=b\/Ms ρ h0 b:=fun Ng=>by
  obtain⟨v,ρ2,k1,k2⟩:=Em (P:=P) hΓ hF MB Ng;have hH:∀o,(St.fs ⟨[(0,r)],h1.map (fun p=>(p.1,some p.2)),[1,0]⟩).H o=lkH h1 o:=fun o=>zb h1 o;have TK:(St.fs ⟨[(0,r)],h1.map (fun p=>(p.1,some p.2)),[1,0]⟩).H=lkH h1:=funext hH;refine⟨MB.defers,v,k1,v,ρ2,rfl,k2.keep,fun o ho=>?_,k2.cst,?_,⟨fun o x ho=>?_,fun o o' x x' b ho MX=>?_,fun o x b ho he=>?_⟩,fun o x b ho he=>?_⟩
  ·have:=k2.Mq o (ρ o) (by show(if(lkH h0 o).isSome=true then some (ρ o)else none)=_;rw[c7 ho]);exact this.1
  ·have:=k2.slot 0;rw[TK]at this;exact this
  ·have:=k2.obj o x aaN;rw[TK]at this;exact this
  ·exact k2.sep o o' x x' b aaN (by rw[hH];exact MX)
  ·exact(k2.rng o x b aaN he).1
  ·exact(k2.rng o x b aaN he).2
 cases e with
 | normal=>exact key hK
 | ret=>exact key hK
 | exit id=>exact hK.elim
 | pan v=>exact hK.elim):p:=h
theorem eT {f:FuncId}{fn:Func}{c:Code}{xs:List AV}{h0:List (Id×AO)}{r:AV}{h1:List (Id×AO)}(hΓ:Γ.chk P=true)(aG:P.follows .mixedOrders=true)(hf:P.funcs[f]?=some fn)(hb:fn.body=some c)(hn:(fn.name== "runtime.NumGoroutine")=false)
  (hN:Nat.ble xs.length fn.ntmps=true) (Ne:qT xs h0 .unk []=true) (h:W false P Γ fn.ntmps c (JR Γ fn.results.toList r h1) (stG xs h0)):bA P f xs h0 r h1:=by
 refine⟨nG hf hb hn,fun w vs ρ OY hl M5=>calls_of_wp hf hb ?_⟩;have hc:=tm (N:=fn.ntmps) Ne OY hl M5 (D8 hN)
 have hF:∀o v,(if(lkH h0 o).isSome=true then some (ρ o)else none)=some v->o.1=0:=fun o v hv=>by
  exact V54
 refine KJ hΓ aG s_ hF c _ _ _ _ _ _ h hc fun e My ρ' a' w' hK MB=>?_;exact V5
end
end Go.Sim
namespace Go.Sim
open Go.RowKit Go.ChangeShapes Go.WideShapes Go.ChangeAt
def FR (okT:TypeId->Bool):Nat->List (Nat×Nat×TypeId)->Nat->Bool
 | o,[],sz=>Nat.beq o sz
 | o,(off,s,t)::r,sz=>Nat.beq off o&&okT t&&FR okT (o+s) r sz
def okT (Γ:Env):Nat->TypeId->Bool
 | 0,_=>false
 | n+1,t=>match Γ.get t with
  | none=>false
  | some ti=>match ti.kind,ti.bool||ti.str,ti.elem,ti.fields with
   | some _,_,_,_=>Nat.beq ti.size 1
   | none,true,_,_=>Nat.beq ti.size 1
   | none,false,some e,_=>Nat.beq ti.size 1&&okT Γ n e
   | none,false,none,f::fs=>FR (okT Γ n) 0 (f::fs) ti.size
   | none,false,none,[]=>false
def zf (T:TypeId->List Tr->Prop):List (Nat×Nat×TypeId)->List Tr->Prop
 | [],ts=>ts=[]
 |(_,_,t)::fs,ts=>∃xs rest,ts=xs++rest/\T t xs/\zf T fs rest
def er (Γ:Env)(t:TypeId):Nat:=match Γ.get t with|some ti=>ti.size|none=>0
def od (Γ:Env):Nat->TypeId->List Tr->Prop
 | 0,_,_=>False
 | n+1,t,ts=>match Γ.get t with
  | none=>False
  | some ti=>match ti.kind,ti.bool,ti.str,ti.elem with
   | some k,_,_,_=>∃m,ts=[.int k m]/\(Lit.int k m).wf=true
   | none,true,_,_=>∃b,ts=[.bool b]
   | none,false,true,_=>∃s:List UInt8,ts=[.str s]/\s.length<=maxLen
   | none,false,false,some e=>∃rows,ts=[.lst (er Γ e) rows]/\rows.length<=maxLen/\∀r∈rows,od Γ n e r
   | none,false,false,none=>zf (od Γ n) ti.fields ts
def zh (Γ:Env)(n:Nat)(t:TypeId)(x:TV):Prop:=
 match Γ.get t with
 | none=>False
 | some ti=>match ti.agg with
  | true=>∃xs,x= .agg xs/\od Γ n t xs
  | false=>∃y,x= .c y/\od Γ n t [y]
def pG (Γ:Env)(n:Nat):List TypeId->List TV->Prop
 | [],[]=>True
 | t::ts,x::xs=>zh Γ n t x/\pG Γ n ts xs
 | _,_=>False
section
variable {H:Type} {enc:TypeId×Value->H} {P:Program} {Γ:Env} {w:World} {sp:Nat->Bool} {Rd:Bool}
theorem Bd (s:ByteArray):s=⟨s.data.toList.toArray⟩:=by cases s;simp
theorem Dl (hΓ:Γ.chk P=true):∀(n:Nat) (t:TypeId) (fuel:Nat) (cs:List Value) (x:DataW H×List MemPlace),okT Γ n t=true->DataW.trod enc P w 0 sp Rd fuel t cs=some x->
  ∃ts,RTs w (fun b=>b<w.heap.size) cs ts/\od Γ n t ts/\ts.length=er Γ t:=by
 intro n
 induction n with
 | zero=>intro t fuel cs x h;simp[okT]at h
 | succ n ih=>
  intro t fuel cs x MC hx;simp only[okT]at MC
  cases hT:Γ.get t with
  | none=>rw[hT]at MC;simp at MC
  | some ti=>
   obtain⟨i,d,fit⟩:=Env.fit hΓ hT;rw[hT]at MC;simp only at MC;simp only[od,hT,er]
   cases d with
   | int k=>
    obtain⟨m,rfl,rfl,hw⟩:=DataW.trod_int fit.und hx;have hk:ti.kind=some k:=fit.kind.symm;simp only[hk,F9]at MC⊢
    exact⟨[.int k m],⟨.int k m,trivial⟩,⟨m,rfl,hw⟩,MC.symm⟩
   | bool=>
    obtain⟨b,rfl,rfl⟩:=DataW.trod_bool fit.und hx;have hk:ti.kind=none:=fit.kind.symm;have hb:ti.bool=true:=fit.bool.symm;simp only[hk,hb,Bool.true_or,F9]at MC⊢
    exact⟨[.bool b],⟨.bool b,trivial⟩,⟨b,rfl⟩,MC.symm⟩
   | string=>
    obtain⟨s,rfl,rfl,hs⟩:=DataW.trod_string fit.und hx;have hk:ti.kind=none:=fit.kind.symm;have hb:ti.bool=false:=fit.bool.symm;have Na:ti.str=true:=fit.str.symm;simp only[hk,hb,Na,Bool.or_true,F9]at MC⊢;refine⟨[.str s.data.toList],⟨?_,trivial⟩,⟨_,rfl,by simpa using hs⟩,MC.symm⟩;have:=RT.str (w:=w) (ok:=fun b=>b<w.heap.size) s.data.toList
    rwa [<-Bd s]at this
   | slice e=>
    have hk:ti.kind=none:=fit.kind.symm;have hb:ti.bool=false:=fit.bool.symm;have Na:ti.str=false:=fit.str.symm;have he:ti.elem=some e:=fit.elem.symm;simp only[hk,hb,Na,he,Bool.or_self,b9,F9]at MC⊢;obtain⟨U8,MC⟩:=MC;rcases DataW.trod_slice fit.und hx with⟨rfl,rfl⟩|⟨a,len,cap,elems,rest,m,rfl,rfl,rfl,_,Mw,Tt,M6,Po,_,_⟩
    ·exact⟨[.lst (er Γ e) []],⟨.emp _ _ _ (by simp[maxLen]),trivial⟩,⟨[],rfl,s_,s_⟩,U8.symm⟩
    ·have Nv:P.cellsOf e=er Γ e/\er Γ e≠0:=by
      cases hE:Γ.get e with
      | none=>cases n<;>simp[okT,hE]at MC
      | some te=>obtain⟨ie,de,fite⟩:=Env.fit hΓ hE;simp only[Program.cellsOf,fite.info,x7,B5,er,hE];exact⟨fite.size,fite.pos⟩
     have MJ:∀j,j<len->∃us row,us.length=P.cellsOf e/\(∀p,p<P.cellsOf e->w.cell? (a.add (j*P.cellsOf e+p))=us[p]?)/\RTs w (fun b=>b<w.heap.size) us row/\od Γ n e row/\row.length=er Γ e:=by intro j hj;have h1:=Po j hj;have h2:j<elems.length:=o_;rw[i7 h2]at h1;obtain⟨us,g1,g2⟩:=Option.bind_eq_some_iff.1 h1;obtain⟨_,g3,g4⟩:=World.cells?_some g1;obtain⟨row,g5,g6,g7⟩:=ih e m us _ MC g2;exact⟨us,row,g3,fun p hp=>by rw[<-qB];exact g4 p hp,g5,g6,g7⟩
     obtain⟨f,hf⟩:∃f:Nat->List Value×List Tr,∀j,j<len->(f j).1.length=P.cellsOf e/\(∀p,p<P.cellsOf e->w.cell? (a.add (j*P.cellsOf e+p))=(f j).1[p]?)/\RTs w (fun b=>b<w.heap.size) (f j).1 (f j).2/\od Γ n e (f j).2/\(f j).2.length=er Γ e:=by refine⟨fun j=>if h:j<len then(⟨(MJ j h).choose,(MJ j h).choose_spec.choose⟩)else([],[]),fun j hj=>?_⟩;simp only[dif_pos hj];exact(MJ j hj).choose_spec.choose_spec
     let rows:=(List.range len).map fun j=>(f j).2
     let us:=((List.range len).map fun j=>(f j).1).flatten
     have Nn:∀r∈rows,r.length=er Γ e/\od Γ n e r:=by intro r hr;obtain⟨j,hj,rfl⟩:=n7.1 hr;have:=hf j aav;exact⟨this.2.2.2.2,this.2.2.2.1⟩
     have Nr:∀k,k<=len->RTs w (fun b=>b<w.heap.size) ((List.range k).map fun j=>(f j).1).flatten ((List.range k).map fun j=>(f j).2).flatten/\((List.range k).map fun j=>(f j).1).flatten.length=k*P.cellsOf e/\
       ∀p,p<k*P.cellsOf e->w.cell? (a.add p)=(((List.range k).map fun j=>(f j).1).flatten)[p]?:=by
      intro k
      induction k with
      | zero=>intro _;exact⟨trivial,s_,fun p hp=>by simp at hp⟩
      | succ k ihk=>
       intro Pr;obtain⟨q1,q2,q3⟩:=ihk o_;obtain⟨r1,r2,r3,_,_⟩:=hf k o_;have e1:((List.range (k+1)).map fun j=>(f j).1).flatten=((List.range k).map fun j=>(f j).1).flatten++(f k).1:=(by rw[G3];simp);have e2:((List.range (k+1)).map fun j=>(f j).2).flatten=((List.range k).map fun j=>(f j).2).flatten++(f k).2:=(by rw[G3];simp);rw[e1,e2];refine⟨RTs.append q1 r3,by rw[c8,q2,r1,p8];omega,fun p hp=>?_⟩;rcases m7 p (k*P.cellsOf e)with Mz|MT
       ·rw[j7 o_];exact q3 p Mz
       ·rw[m5 o_,q2];have:=r2 (p-k*P.cellsOf e) (by rw[p8]at hp;omega);rwa [show k*P.cellsOf e+(p-k*P.cellsOf e)=p by omega]at this
     obtain⟨q1,q2,q3⟩:=Nr len (d8 _);have RJ:rows.length=len:=(by simp[rows]);refine⟨[.lst (er Γ e) rows],⟨?_,trivial⟩,⟨rows,rfl,by rw[RJ];omega,fun r hr=>(Nn r hr).2⟩,U8.symm⟩
     cases v3 len with
     | inl h0=>
      have:rows=[]:=(by simp[rows,h0]);rw[this,h0]
      exact .emp _ _ _ Tt
     | inr M7=>
      refine .lst a len cap (er Γ e) rows us RJ Mw Tt (fun r hr=>(Nn r hr).1) ?_ q1.length (fun p v hv=>?_) (fun p v u hv hu=>q1.get p v u hv hu)
      ·have RH:0<len*P.cellsOf e:=Nat.mul_pos M7 (by rw[Nv.1];omega);have:=q3 0 RH;have h0:0<us.length:=(by show 0<(((List.range len).map fun j=>(f j).1).flatten).length;omega);have h2:w.cell? (a.add 0)=some us[0]:=(by rw[this];exact i7 h0);have:=World.block_lt_of_cell? w _ h2;rwa [gV]at this
      ·have hp:p<len*P.cellsOf e:=by
        rw[<-q2];rcases m7 p us.length with h'|h'
        ·exact h'
        ·rw[e9 h']at hv;cases hv
       rw[q3 p hp];exact hv
   | struct fs=>
    have hk:ti.kind=none:=fit.kind.symm;have hb:ti.bool=false:=fit.bool.symm;have Na:ti.str=false:=fit.str.symm;have he:ti.elem=none:=fit.elem.symm;simp only[hk,hb,Na,he,Bool.or_self]at MC⊢;obtain⟨xs,m,rfl,rfl,hl,Qa,Pu⟩:=DataW.trod_struct fit.und hx
    have PI:cs.length=ti.size:=by rw[hl];simp only[Program.cellsOf,fit.info,x7,B5];exact fit.size
    have WY:FR (okT Γ n) 0 ti.fields ti.size=true:=by cases MN:ti.fields with|nil=>rw[MN]at MC;simp at MC|cons f fl=>rw[MN]at MC;exact MC
    have key:∀(l:List (Nat×Nat×TypeId)) (o:Nat),FR (okT Γ n) o l ti.size=true->(∀f∈l,∃y,DataW.trod enc P w 0 sp Rd m f.2.2 ((cs.drop f.1).take f.2.1)=some y/\P.cellsOf f.2.2=f.2.1)->o<=ti.size->
      ∃ts,RTs w (fun b=>b<w.heap.size) (cs.drop o) ts/\zf (od Γ n) l ts/\ts.length=ti.size-o:=by
     intro l
     induction l with
     | nil=>
      intro o h _ _;simp only[FR,F9]at h;have:cs.drop o=[]:=(by rw[List.drop_eq_nil_iff];omega);rw[this]
      exact⟨[],trivial,rfl,by simp;omega⟩
     | cons f l ihl=>
      obtain⟨off,s,ft⟩:=f;intro o h hr ho;simp only[FR,b9,F9]at h;obtain⟨⟨rfl,h2⟩,h3⟩:=h;obtain⟨y,hy,MV⟩:=hr (off,s,ft) s_;obtain⟨ts1,g1,g2,g3⟩:=ih ft m _ _ h2 hy;have hs:ts1.length=((cs.drop off).take s).length:=g1.length.symm
      have Nv:er Γ ft=s:=by
       cases hE:Γ.get ft with
       | none=>cases n<;>simp[okT,hE]at h2
       | some te=>obtain⟨ie,de,fite⟩:=Env.fit hΓ hE;simp only at MV;rw[<-MV];simp only[Program.cellsOf,fite.info,x7,B5,er,hE];exact fite.size.symm
      have MZ:off+s<=ti.size:=by
       simp only[l6,t9]at hs
       have M7:s≠0:=by
        cases hE:Γ.get ft with
        | none=>cases n<;>simp[okT,hE]at h2
        | some te=>obtain⟨ie,de,fite⟩:=Env.fit hΓ hE;rw[<-Nv];simp only[er,hE];exact fite.pos
       omega
      obtain⟨ts2,g4,g5,g6⟩:=ihl (off+s) h3 (fun f hf=>hr f (by simp[hf])) MZ;refine⟨ts1++ts2,?_,⟨ts1,ts2,rfl,g2,g5⟩,by simp;omega⟩;have e:cs.drop off=(cs.drop off).take s++cs.drop (off+s):=(by rw[<-F1,y9]);rw[e];exact RTs.append g1 g4
    have Pn:=fit.fields;simp only[jU,b9,j5]at Pn
    obtain⟨ts,g1,g2,g3⟩:=key ti.fields 0 WY (fun f hf=>by
     rw[<-Pn.1]at hf;obtain⟨F,h1,rfl⟩:=n7.1 hf;obtain⟨i,hi⟩:=C3 h1;have SR:fs[i]?=some F:=by simpa using hi
     have Mz:i<xs.length:=by
      rw[Qa];rcases m7 i fs.size with h'|h'
      ·exact h'
      ·rw[F3 h']at SR;cases SR
     exact⟨xs[i],by rw[Pu i F SR,i7 Mz],rfl⟩) (w6 _)
    exact⟨ts,by simpa using g1,g2,by simpa using g3⟩
   | _=>have hk:ti.kind=none:=fit.kind.symm;have hb:ti.bool=false:=fit.bool.symm;have Na:ti.str=false:=fit.str.symm;have he:ti.elem=none:=fit.elem.symm;have hf:=fit.fields;simp only[jU,C8]at hf;simp[hk,hb,Na,he,hf]at MC
theorem uO (hΓ:Γ.chk P=true){r:Reach}{base n:Nat}:∀{ts:List TypeId} {vs:List Value} {ds:List (DataW H)} {ps:List MemPlace},ts.all (okT Γ n)=true->
  (∀(j:Nat) t v,ts[j]?=some t->vs[j]?=some v->Value.okWide P w r base t v)->DataW.TrodAll enc P w 0 sp Rd ts vs ds ps->
  ∃xs,RTVs w (fun b=>b<w.heap.size) vs xs/\pG Γ n ts xs
 | [],vs,ds,ps,_,_,h=>by
  obtain⟨rfl,rfl,rfl⟩:=trodAll_nil h
  exact⟨[],trivial,trivial⟩
 | t::ts,vs,ds,ps,MC,hw,h=>by
  obtain⟨v,vs,d,ds,p,q,rfl,rfl,rfl,h1,h2⟩:=trodAll_cons h;simp only[E7,b9]at MC;obtain⟨xs,g1,g2⟩:=uO hΓ MC.2 (fun j t v h3 h4=>hw (j+1) t v aaw aax) h2;obtain⟨fuel,hf⟩:=h1;obtain⟨ys,g3,g4,g5⟩:=Dl hΓ n t fuel _ _ MC.1 hf;have hv:=hw 0 t v rfl rfl
  cases hT:Γ.get t with
  | none=>cases n<;>simp[okT,hT]at MC
  | some ti=>
   obtain⟨i,d',fit⟩:=Env.fit hΓ hT;have M4:=fit.agg
   cases ha:ti.agg with
   | true=>
    rw[ha]at M4
    have:∃cs,v= .agg cs:=by
     simp only[Value.okWide,fit.und]at hv
     cases d'<;>simp[vC]at M4
     ·obtain⟨cs,h,_⟩:=hv;exact⟨cs,h⟩
     ·obtain⟨cs,h,_⟩:=hv;exact⟨cs,h⟩
    obtain⟨cs,rfl⟩:=this
    exact⟨.agg ys::xs,⟨⟨cs,rfl,g3⟩,g1⟩,⟨by simp only[zh,hT,ha];exact⟨ys,rfl,g4⟩,g2⟩⟩
   | false=>
    rw[ha]at M4
    have Qu:v.cells=#[v]:=by
     have hk:=fit.kind;have hb:=fit.bool;have Na:=fit.str;have he:=fit.elem
     cases d' with
     | int k=>obtain⟨m,rfl⟩:=okWide_int fit.und hv;rfl
     | bool=>obtain⟨m,rfl⟩:=okWide_bool fit.und hv;rfl
     | string=>obtain⟨m,rfl⟩:=okWide_string fit.und hv;rfl
     | slice e=>obtain⟨a,l,c,rfl⟩:=okWide_slice fit.und hv;rfl
     | struct fs=>simp[vC]at M4
     | array m e=>simp[vC]at M4
     | _=>
      exfalso;have hf:=fit.fields;simp only[jU,C8]at hf;have h1:=MC.1
      cases n with
      | zero=>simp[okT]at h1
      | succ n=>simp only[okT,hT]at h1;simp[<-hk,<-hb,<-Na,<-he,hf,iU,An,wO,As]at h1
    rw[Qu]at g3
    match ys,g3 with|[y],g3=>exact⟨.c y::xs,⟨g3.1,g1⟩,⟨by simp only[zh,hT,ha];exact⟨y,rfl,g4⟩,g2⟩⟩|[],g3=>exact g3.elim|_::_::_,g3=>exact g3.2.elim
theorem ou (hl:laidOutB P=true){W W':World}{ON:Nat->Bool}(hb:Below W.heap.size W W'):∀{ts:List TypeId} {vs:List Value} {ds:List (DataW H)} {ps:List MemPlace},
  ts.all (fun t=>P.readableRec t&&decide (t<P.types.size))=true->DataW.TrodAll enc P W 0 (fun _=>true) true ts vs ds ps->(∀p∈ps,p.block<W.heap.size)->(∀p∈ps,ON p.block=true)->DataW.TrodAll enc P W' 0 ON true ts vs ds ps
 | [],vs,ds,ps,_,h,_,_=>by
  obtain⟨rfl,rfl,rfl⟩:=trodAll_nil h
  rfl
 | t::ts,vs,ds,ps,hr,h,Mz,hs=>by
  obtain⟨v,vs,d,ds,p,q,rfl,rfl,rfl,h1,h2⟩:=trodAll_cons h;simp only[E7,b9,j5]at hr
  exact⟨p,q,WideElems.Trod_stays hl hr.1.1 hr.1.2 h1 (fun x hx=>hb.same (Mz x aap)) (fun x hx=>hs x aap),
   ou hl hb (by simpa using hr.2) h2 (fun x hx=>Mz x aap) (fun x hx=>hs x aap),rfl⟩
theorem Gc (hl:laidOutB P=true){f:FuncId}{fn:Func}{s:ChangeSpec}{W:World}{args:Array Value}{ds:List (DataW H)}{gs:List (DataW H)}{before:List MemPlace}{tb:TypeId}
  (SB:fn.resultTypes=#[tb]) (ZT:P.underlying tb=some .bool) (NV:s.vars=[]) (Rb:fn.params.toList.all (fun t=>P.readableRec t&&decide (t<P.types.size))=true)
  (P0:s.fn H ds={results:=[.lit (.bool true)],args:=ds}) {xs:List TV} (hx:RTVs W (fun b=>b<W.heap.size) args.toList xs) (hs:Sim.Spec P f xs (.r (.c (.t (.bool true)))))
  (hW:DataW.Whole enc P fn.params.toList s.vars false W args.toList ds gs before):
  Calls P f args W fun e W'=>∃v,e= .returned v/\s.post enc P fn false true false false W args v W':=by
 refine(hs.2 W args hx).mono fun e W' ⟨v,he,hb,hr⟩=>⟨v,he,?_⟩;obtain⟨ρ,okp,_,hv,_⟩:=hr;have NI:v= .bool true:=fD hv;subst NI;have Wr:=hW;have Mz:=hW.lt;rw[NV]at hW;obtain⟨p,q,hA,hV,Rj,hz,hn⟩:=hW;obtain⟨rfl,rfl⟩:=trodVars_none hV
 have Uy:∀(b:Nat) (sp:Nat->Bool) (hd:Bool),DataW.TrodAll enc P W' b sp hd fn.resultTypes.toList ((Value.bool true).resultList fn.resultTypes.size) (s.fn H (ds++[])).results []:=by intro b sp hd;rw[m6,P0,SB];exact trodAll_cons_mk (shut_bool ZT _) trodAll_mk0
 refine⟨ds,[],before,[],before,[],Wr,Uy _ _ _,?_,?_,hb.frame _,fun h=>by cases h⟩
 ·rw[m6,P0];rw[m6]at Rj;subst Rj;exact ou hl hb Rb hA Mz (fun x hx=>by simpa using Mz x hx)
 ·rw[NV,m6,P0];rfl
theorem sG:∀{ts:List TypeId} {vs:List Value} {ds:List (DataW H)} {ps:List MemPlace},DataW.TrodAll enc P w 0 sp Rd ts vs ds ps->ds.length=ts.length
 | [],vs,ds,ps,h=>by
  obtain⟨rfl,rfl,rfl⟩:=trodAll_nil h
  rfl
 | t::ts,vs,ds,ps,h=>by
  obtain⟨v,vs,d,ds,p,q,rfl,rfl,rfl,h1,h2⟩:=trodAll_cons h;simp[sG h2]
end
theorem yB {Γ:Env}{n:Nat}{t:TypeId}{ts:List TypeId}{xs:List TV}(h:pG Γ n (t::ts) xs):∃x Xd,xs=x::Xd/\zh Γ n t x/\pG Γ n ts Xd:=by cases xs with|nil=>exact h.elim|cons x xs=>exact⟨x,xs,rfl,h.1,h.2⟩
theorem AD {Γ:Env}{n:Nat}{xs:List TV}(h:pG Γ n [] xs):xs=[]:=by cases xs with|nil=>rfl|cons x xs=>exact h.elim
theorem LD {α:Type}{l:List α}{x:TypeId}(h:l.length=#[x].toList.length):∃a,l=[a]:=by
 match l,h with
 | [a],_=>exact⟨a,rfl⟩
end Go.Sim
namespace Go.Sim
mutual
def aw (L:Int):Tr->Prop
 | .str s=>(s.length:Int)<=L
 | .lst _ rows=>(rows.length:Int)<=L/\eH L rows
 | .int _ _=>True
 | .bool _=>True
def aF (L:Int):List Tr->Prop
 | []=>True
 | c::cs=>aw L c/\aF L cs
def eH (L:Int):List (List Tr)->Prop
 | []=>True
 | r::rs=>aF L r/\eH L rs
end
theorem sN {L:Int}:∀{rows:List (List Tr)},eH L rows->∀r∈rows,aF L r
 | [],_,r,h=>by cases h
 | r0::rs,h,r,hr=>by
  rw[eH]at h;rcases d6.1 hr with rfl|hr
  ·exact h.1
  ·exact sN h.2 r hr
def tD:Tr->RC'
 | .lst sz rows=> .arr sz rows
 | .int k n=> .t (.int k n)
 | .bool b=> .t (.bool b)
 | .str s=> .t (.str s)
end Go.Sim
namespace Go.Sim
open Go.RowKit
def Ws (m:Bool)(P:Program)(Γ:Env)(N:Nat)(c:Code)(K:Out->St->Prop)(st:St):Prop:=
 Γ.chk P=true->P.follows .mixedOrders=true->∀(B:Nat) (M:Nat->Prop) (w0:Start) (ρ:Rho) (a:Act) (w:World) (Q:Exit->Act->World->Prop),
  (m=true->(∀b,¬M b)/\∀o,w0.fx o=none)->(∀o v,w0.fx o=some v->o.1=0)->Conc N B M w0 ρ st.fs a w->
  (∀e My ρ' a' w',K e My->Conc N B M w0 ρ' My.fs a' w'->Q e.at a' w')->c.wp P Q a w
theorem JU:∃F:Bool->Program->Env->Nat->Code->(Out->St->Prop)->St->Prop,F=Ws:=⟨Ws,rfl⟩
noncomputable def Wo:Bool->Program->Env->Nat->Code->(Out->St->Prop)->St->Prop:=Classical.choose JU
theorem kK:Wo=Ws:=l8 JU
theorem Kd:∃F:Bool->St->St->Prop,F=LeqG:=⟨LeqG,rfl⟩
noncomputable def Lo:Bool->St->St->Prop:=Classical.choose Kd
theorem EN:Lo=LeqG:=l8 Kd
attribute [irreducible] Wo Lo
section
variable {P:Program} {Γ:Env} {N:Nat} {m:Bool} {K:Out->St->Prop} {st My:St} {c x y:Code}
theorem uh (h:W m P Γ N c K st):Wo m P Γ N c K st:=by rw[kK];intro hΓ aG B M w0 ρ a w Q hM hF hc hQ;exact KJ hΓ aG hM hF c K st ρ a w Q h hc hQ
theorem W6 (h:LeqG m st My):Lo m st My:=by rw[EN];exact h
theorem W1 (h:Wo m P Γ N x (fun e My=>(match e with
   | .normal=>Wo m P Γ N y K My
   | e=>K e My)) st):Wo m P Γ N (.seq x y) K st:=by
 rw[kK]at *
 intro hΓ aG B M w0 ρ a w Q hM hF hc hQ;refine wp_seq (h hΓ aG B M w0 ρ a w _ hM hF hc fun e My ρ' a' w' hK MB=>?_)
 cases e with|normal=>exact hK hΓ aG B M w0 ρ' a' w' Q hM hF MB hQ|exit id=>exact hQ (.exit id) _ _ _ _ hK MB|pan v=>exact hQ (.pan v) _ _ _ _ hK MB|ret=>exact hQ .ret _ _ _ _ hK MB
theorem nw (ι:Type)(S:ι->St)(h:Wo m P Γ N x (fun e My=>(match e with
    | .normal=>∃i,Lo m My (S i)
    | e=>K e My)) st) (h2:∀i,Wo m P Γ N y K (S i)):Wo m P Γ N (.seq x y) K st:=by
 rw[kK]at *
 rw[EN]at h;intro hΓ aG B M w0 ρ a w Q hM hF hc hQ;refine wp_seq (h hΓ aG B M w0 ρ a w _ hM hF hc fun e My ρ' a' w' hK MB=>?_)
 cases e with|normal=>obtain⟨i,hi⟩:=hK;obtain⟨ρ'',Qg⟩:=hi.ok hM hF MB;exact h2 i hΓ aG B M w0 ρ'' a' w' Q hM hF Qg hQ|exit id=>exact hQ (.exit id) _ _ _ _ hK MB|pan v=>exact hQ (.pan v) _ _ _ _ hK MB|ret=>exact hQ .ret _ _ _ _ hK MB
theorem W2 {id:Nat}{ops:Array Oper}{draw:Bool}(h:Lr P Γ N ops.toList draw st (K .normal)):Wo m P Γ N (.region id ops draw) K st:=uh (c:= .region id ops draw) h
theorem W7 (h:K .normal st):Wo m P Γ N .skip K st:=uh (c:= .skip) h
theorem W8 {id:Nat}(h:K (.exit id) st):Wo m P Γ N (.exit id) K st:=uh (c:= .exit id) h
theorem W9 (h:K .ret st):Wo m P Γ N .ret K st:=uh (c:= .ret) h
theorem W3 {d:Operand}(h:match evL (di st.fr) d with
   | .r (.c (.t (.bool b)))=>ifB b (Wo m P Γ N x K (wQ st d true)) (Wo m P Γ N y K (wQ st d false))
   | _=>False):Wo m P Γ N (.cond d x y) K st:=by
 rw[kK]at *
 intro hΓ aG B M w0 ρ a w Q hM hF hc hQ;split at h
 ·rename_i b hb;have hv:=(hc.eval d).1;rw[show evL st.fs.L d=tB b from hb]at hv;refine wp_cond (fD hv) ?_
  cases b with|true=>exact(show Ws m P Γ N x K (wQ st d true) from h) hΓ aG B M w0 ρ a w Q hM hF aaH hQ|false=>exact(show Ws m P Γ N y K (wQ st d false) from h) hΓ aG B M w0 ρ a w Q hM hF aaH hQ
 ·exact h.elim
theorem W4 {id:Nat}(h:Wo m P Γ N c (fun e My=>(match e with
   | .exit id'=>(match Nat.beq id' id with
     | true=>K .normal My
     | false=>K (.exit id') My)
   | e=>K e My)) st):Wo m P Γ N (.block id c) K st:=by
 rw[kK]at *
 intro hΓ aG B M w0 ρ a w Q hM hF hc hQ;refine wp_block (h hΓ aG B M w0 ρ a w _ hM hF hc fun e My ρ' a' w' hK MB=>?_);exact V14
theorem W5 (h:∃(ι:Type) (S:ι->St) (μ:ι->Nat) (i0:ι),Lo m st (S i0)/\∀i,Wo m P Γ N c (fun e My=>(match e with
   | .normal=>∃j,Lo m My (S j)/\μ j<μ i
   | e=>K e My)) (S i)):Wo m P Γ N (.loop c) K st:=by
  rw[kK,EN]at *
  intro hΓ aG B M w0 ρ a w Q hM hF hc hQ
  have ih:∀(K:Out->St->Prop) (st:St) (ρ:Rho) (a:Act) (w:World) (Q:Exit->Act->World->Prop),Ws m P Γ N c K st->Conc N B M w0 ρ st.fs a w->
   (∀e My ρ' a' w',K e My->Conc N B M w0 ρ' My.fs a' w'->Q e.at a' w')->c.wp P Q a w:=fun K st ρ a w Q h hc hQ=>h hΓ aG B M w0 ρ a w Q hM hF hc hQ
  exact V2
@[reducible] def Wn (m:Bool) (P:Program) (Γ:Env) (N:Nat) (K:Out->St->Prop) (st:St):Code->Prop
 | .skip=>K .normal st
 | .region _ ops draw=>(match draw with
   | false=>lD P Γ N ops.toList ops.toList st [] fun My _=>K .normal My
   | true=>lD P Γ N ops.toList ops.toList st [] fun My log=>sS ops.toList log.reverse=true/\K .normal My)
 | .seq x y=>Wo m P Γ N x (fun e My=>(match e with
   | .normal=>Wo m P Γ N y K My
   | e=>K e My)) st
 | .cond c x y=>(match evL (di st.fr) c with
   | .r (.c (.t (.bool b)))=>ifB b (Wo m P Γ N x K (wQ st c true)) (Wo m P Γ N y K (wQ st c false))
   | _=>False)
 | .block id c=>Wo m P Γ N c (fun e My=>(match e with
   | .exit id'=>(match Nat.beq id' id with
     | true=>K .normal My
     | false=>K (.exit id') My)
   | e=>K e My)) st
 | .loop c=>∃(ι:Type) (S:ι->St) (μ:ι->Nat) (i0:ι),Lo m st (S i0)/\∀i,Wo m P Γ N c (fun e My=>(match e with
   | .normal=>∃j,Lo m My (S j)/\μ j<μ i
   | e=>K e My)) (S i)
 | .exit id=>K (.exit id) st
 | .ret=>K .ret st
 | _=>False
theorem Wx (h:Wn m P Γ N K st c):Wo m P Γ N c K st:=by
 cases c with
 | skip=>exact W7 h
 | region id ops draw=>
  refine W2 ?_
  cases draw with|false=>exact h|true=>exact .inl h
 | seq x y=>exact W1 h
 | cond d x y=>exact W3 h
 | block id c=>exact W4 h
 | loop c=>exact W5 h
 | exit id=>exact W8 h
 | ret=>exact W9 h
 | label=>exact h.elim
 | _=>exact h.elim
def Hj (H H':Id->Option AO)(L:Nat->AV):List (Nat×AV)->Prop
 | []=>True
 |(i,v)::r=>(v=L i\/∃c t,L i= .r (.c c)/\v= .r (.c (.t t))/\cu H c t/\∀q∈c.ids,H' q=none)/\Hj H H' L r
def KG (H:Id->Option AO):List (Id×Option AO)->Prop
 | []=>True
 |(q,x)::r=>(x=none\/x=H q)/\KG H r
theorem sk {H H':Id->Option AO}{L:Nat->AV}:∀{l:List (Nat×AV)} {i:Nat} {v:AV},Hj H H' L l->(i,v)∈l->v=L i\/∃c t,L i= .r (.c c)/\v= .r (.c (.t t))/\cu H c t/\∀q∈c.ids,H' q=none
 | [],_,_,_,h=>by cases h
 |(j,u)::r,i,v,h,hm=>by
  rcases d6.1 hm with e|hm
  ·injection e with e1 e2;subst e1;subst e2;exact h.1
  ·exact sk h.2 hm
theorem AF {H:Id->Option AO}:∀{l:List (Id×Option AO)} {q:Id} {x:AO},KG H l->(q,some x)∈l->H q=some x
 | [],_,_,_,h=>by cases h
 |(p,u)::r,q,x,h,hm=>by
  rcases d6.1 hm with e|hm
  ·injection e with e1 e2;subst e1;subst e2;rcases h.1 with e|e
   ·cases e
   ·exact e.symm
  ·exact AF h.2 hm
theorem nN (My:St)(h1:Hj (cf st.h) (cf My.h) (di st.fr) My.fr)(h2:KG (cf st.h) My.h)(hu:My.u=st.u)(h:Wo m P Γ N c K My):Wo m P Γ N c K st:=by
 rw[kK]at *
 intro hΓ aG B M w0 ρ a w Q hM hF hc hQ;refine h hΓ aG B M w0 ρ a w Q hM hF ?_ hQ;have M0:∀q x,My.fs.H q=some x->st.fs.H q=some x:=fun q x hq=>AF h2 (kR hq);have MC:∀b,okB ρ st.fs.H w b->okB ρ My.fs.H w b:=fun b hb=>⟨hb.1,fun o x ho=>hb.2 o x (M0 o x ho)⟩
 have PG:∀t o,o∈(My.fs.L t).ids->o∈(st.fs.L t).ids:=fun t o ho=>by
  rcases iv My.fr t with e|hm
  ·rw[show My.fs.L t=AV.unk from e]at ho;simp[AV.ids]at ho
  ·rcases sk h1 hm with e|⟨cc,tt,_,e2,_,_⟩
   ·exact(show My.fs.L t=st.fs.L t from e)▸ho
   ·rw[show My.fs.L t=_ from e2]at ho;simp[AV.ids,AR.ids,AC.ids]at ho
 refine⟨hc.size,hc.defers,fun t=>?_,fun o x ho=>?_,fun o o' x x' b ho MX=>hc.sep o o' x x' b (M0 o x ho) (M0 o' x' MX),fun o x b ho hb=>hc.rng o x b (M0 o x ho) hb,hc.keep,hc.base,hc.alw,hc.cst,fun o v hv=>⟨(hc.Mq o v hv).1,by have:=(hc.Mq o v hv).2;simpa [St.fs,hu]using this⟩,fun t o ho=>by have:=hc.usedL t o (PG t o ho);simpa [St.fs,hu]using this,fun o x ho=>by have:=hc.usedH o x (M0 o x ho);simpa [St.fs,hu]using this⟩
 ·rcases iv My.fr t with e|hm
  ·rw[show My.fs.L t=AV.unk from e];trivial
  ·rcases sk h1 hm with e|⟨cc,tt,e1,e2,e3,e4⟩
   ·rw[show My.fs.L t=st.fs.L t from e];exact(hc.slot t).keep (fun b hb=>⟨rfl,MC b hb⟩) fun _ _=>rfl
   ·rw[show My.fs.L t=_ from e2];have hs:=hc.slot t;rw[show st.fs.L t=_ from e1]at hs;refine jA hc MC (fun q hq x b hx hb=>?_) hs e3;have hr:=hc.rng q x b hx hb
    exact⟨⟨hr.1,hc.alw b hr.2⟩,fun o y ho Nc=>by
     have MF:o≠q:=fun e=>by
      subst e;have:=e4 o hq;rw[show cf My.h o=some y from ho]at this
      cases this
     exact hc.sep o q y x b (M0 o y ho) hx MF Nc hb⟩
 ·exact(hc.obj o x (M0 o x ho)).keep (fun b hb=>⟨rfl,MC b hb⟩) (fun _ _=>rfl) rfl (fun _ h=>h) fun _ _=>rfl
end
theorem bv {P:Program}{Γ:Env}{f:FuncId}{fn:Func}{c:Code}{ts:List TV}{r:Res}(hΓ:Γ.chk P=true)(aG:P.follows .mixedOrders=true)(hf:P.funcs[f]?=some fn)(hb:fn.body=some c)(hn:(fn.name== "runtime.NumGoroutine")=false)
  (hN:Nat.ble ts.length fn.ntmps=true) (h:Wo true P Γ fn.ntmps c (JV Γ fn.results.toList r) (st0 ts)):Spec P f ts r:=by
 rw[kK]at h;refine⟨nG hf hb hn,fun w vs OY=>calls_of_wp hf hb ?_⟩;have hc:=vI (N:=fn.ntmps) OY (D8 hN);refine h hΓ aG _ _ _ _ _ _ _ (fun _=>⟨fun _ h=>h,fun _=>rfl⟩) (fun _ _ h=>by cases h) hc fun e My ρ' a' w' hK MB=>?_;exact V12
theorem aA {P:Program}{Γ:Env}{f:FuncId}{fn:Func}{c:Code}{xs:List AV}{h0:List (Id×AO)}{r:AV}{h1:List (Id×AO)}(hΓ:Γ.chk P=true)(aG:P.follows .mixedOrders=true)(hf:P.funcs[f]?=some fn)(hb:fn.body=some c)(hn:(fn.name== "runtime.NumGoroutine")=false)
  (hN:Nat.ble xs.length fn.ntmps=true) (Ne:qT xs h0 .unk []=true) (h:Wo false P Γ fn.ntmps c (JR Γ fn.results.toList r h1) (stG xs h0)):bA P f xs h0 r h1:=by
 rw[kK]at h;refine⟨nG hf hb hn,fun w vs ρ OY hl M5=>calls_of_wp hf hb ?_⟩;have hc:=tm (N:=fn.ntmps) Ne OY hl M5 (D8 hN)
 have hF:∀o v,(if(lkH h0 o).isSome=true then some (ρ o)else none)=some v->o.1=0:=fun o v hv=>by
  exact V54
 refine h hΓ aG _ _ _ _ _ _ _ s_ hF hc fun e My ρ' a' w' hK MB=>?_;exact V5
def vwC (H H':Id->Option AO)(c d:AC):Prop:=d=c\/(∃n m,c= .nils n/\d= .nils m)\/∃t,d= .t t/\cu H c t/\∀q∈c.ids,H' q=none
def Fk (H H':Id->Option AO):List AC->List AC->Prop
 | [],[]=>True
 | c::cs,d::ds=>vwC H H' c d/\Fk H H' cs ds
 | _,_=>False
def Kn (H H':Id->Option AO)(L:Nat->AV):List (Nat×AV)->Prop
 | []=>True
 |(i,v)::r=>(v=L i\/(∃c d,L i= .r (.c c)/\v= .r (.c d)/\vwC H H' c d)\/∃cs ds,L i= .r (.agg cs)/\v= .r (.agg ds)/\Fk H H' cs ds)/\Kn H H' L r
def vwO (H H':Id->Option AO)(y x:Option AO):Prop:=x=y\/(∃cs ds,y=some (.box cs)/\x=some (.box ds)/\Fk H H' cs ds)\/
 ∃sz rows i off n row t,y=some (.dar sz rows (some (i,off,n)))/\rows[i]?=some row/\off<sz/\cu H (.own n) t/\H' n=none/\x=some (.dar sz (rows.set i (row.set off (.t t))) none)
def vwH (H H':Id->Option AO):List (Id×Option AO)->Prop
 | []=>True
 |(q,x)::r=>(x=none\/vwO H H' (H q) x)/\vwH H H' r
theorem vy {H H':Id->Option AO}{L:Nat->AV}:∀{l:List (Nat×AV)} {i:Nat} {v:AV},Kn H H' L l->(i,v)∈l->(v=L i\/(∃c d,L i= .r (.c c)/\v= .r (.c d)/\vwC H H' c d)\/∃cs ds,L i= .r (.agg cs)/\v= .r (.agg ds)/\Fk H H' cs ds)
 | [],_,_,_,h=>by cases h
 |(j,u)::r,i,v,h,hm=>by
  rcases d6.1 hm with e|hm
  ·injection e with e1 e2;subst e1;subst e2;exact h.1
  ·exact vy h.2 hm
theorem DJ {H H':Id->Option AO}:∀{l:List (Id×Option AO)} {q:Id} {x:AO},vwH H H' l->(q,some x)∈l->vwO H H' (H q) (some x)
 | [],_,_,_,h=>by cases h
 |(p,u)::r,q,x,h,hm=>by
  rcases d6.1 hm with e|hm
  ·injection e with e1 e2;subst e1;subst e2;rcases h.1 with e|e
   ·cases e
   ·exact e
  ·exact DJ h.2 hm
theorem Eu {H H':Id->Option AO}{c d:AC}(h:vwC H H' c d):∀o∈d.ids,o∈c.ids:=by
 rcases h with rfl|⟨n,m,rfl,rfl⟩|⟨t,rfl,_⟩
 ·exact fun _ h=>h
 ·intro o ho;simp[AC.ids]at ho
 ·intro o ho;simp[AC.ids]at ho
theorem wq {H H':Id->Option AO}:∀{cs ds:List AC},Fk H H' cs ds->∀o∈ds.flatMap AC.ids,o∈cs.flatMap AC.ids
 | [],[],_,_,h=>h
 | c::cs,d::ds,h,o,ho=>by
  simp only[u7,d9]at ho⊢
  exact ho.imp (Eu h.1 o) (wq h.2 o)
 | [],_::_,h,_,_=>h.elim
 | _::_,[],h,_,_=>h.elim
section
variable {P:Program} {Γ:Env} {N:Nat} {m:Bool} {K:Out->St->Prop} {st My:St} {c x y:Code}
theorem BI (My:St)(h1:Lo m st My)(h:Wo m P Γ N c K My):Wo m P Γ N c K st:=by
 rw[kK]at *
 rw[EN]at h1;intro hΓ aG B M w0 ρ a w Q hM hF hc hQ;obtain⟨ρ',MB⟩:=h1.ok hM hF hc;exact h hΓ aG B M w0 ρ' a w Q hM hF MB hQ
theorem fO (My:St)(h1:Kn (cf st.h) (cf My.h) (di st.fr) My.fr)(h2:vwH (cf st.h) (cf My.h) My.h)(hu:My.u=st.u)(h:Wo m P Γ N c K My):Wo m P Γ N c K st:=by
 rw[kK]at *
 intro hΓ aG B M w0 ρ a w Q hM hF hc hQ;refine h hΓ aG B M w0 ρ a w Q hM hF ?_ hQ;have hO:∀q x,My.fs.H q=some x->vwO (cf st.h) (cf My.h) (cf st.h q) (some x):=fun q x hq=>DJ h2 (kR hq)
 have M0:∀q x,My.fs.H q=some x->∃y,st.fs.H q=some y:=fun q x hq=>by
  rcases hO q x hq with e|⟨cs,ds,e,_⟩|⟨_,_,_,_,_,_,_,e,_⟩
  ·exact⟨x,e.symm⟩
  ·exact⟨_,e⟩
  ·exact⟨_,e⟩
 have MC:∀b,okB ρ st.fs.H w b->okB ρ My.fs.H w b:=fun b hb=>⟨hb.1,fun o x ho=>by obtain⟨y,hy⟩:=M0 o x ho;exact hb.2 o y hy⟩
 have RY:∀q,cf My.h q=none->∀x b,st.fs.H q=some x->Own ρ q b->okB ρ My.fs.H w b:=by
  intro q hq x b hx hb;have hr:=hc.rng q x b hx hb;refine⟨⟨hr.1,hc.alw b hr.2⟩,fun o y ho Nc=>?_⟩
  have MF:o≠q:=fun e=>by
   subst e;rw[show My.fs.H o=none from hq]at ho
   cases ho
  obtain⟨y',OO⟩:=M0 o y ho;exact hc.sep o q y' x b OO hx MF Nc hb
 have MI:∀{v:Value} {c d:AC},RC B ρ w (okB ρ st.fs.H w) v c->vwC (cf st.h) (cf My.h) c d->RC B ρ w (okB ρ My.fs.H w) v d:=by
  intro v c d hv Vv;rcases Vv with rfl|⟨n,m,rfl,rfl⟩|⟨t,rfl,e3,e4⟩
  ·exact hv.keep (fun b hb=>⟨rfl,MC b hb⟩) fun _ _=>rfl
  ·exact hv
  ·exact jA hc MC (fun q hq x b hx hb=>RY q (e4 q hq) x b hx hb) hv e3
 have MK:∀{vs:List Value} {cs ds:List AC},RCs B ρ w (okB ρ st.fs.H w) vs cs->Fk (cf st.h) (cf My.h) cs ds->RCs B ρ w (okB ρ My.fs.H w) vs ds:=by
  intro vs
  induction vs with
  | nil=>
   intro cs ds h1 h2
   cases cs with
   | nil=>cases ds with
    | nil=>trivial
    | cons=>exact h2.elim
   | cons=>exact h1.elim
  | cons v vs ih=>
   intro cs ds h1 h2
   cases cs with
   | nil=>exact h1.elim
   | cons c cs=>cases ds with
    | nil=>exact h2.elim
    | cons d ds=>exact⟨MI h1.1 h2.1,ih h1.2 h2.2⟩
 have PG:∀t o,o∈(My.fs.L t).ids->o∈(st.fs.L t).ids:=fun t o ho=>by
  rcases iv My.fr t with e|hm
  ·rw[show My.fs.L t=AV.unk from e]at ho;simp[AV.ids]at ho
  ·rcases vy h1 hm with e|⟨c,d,e1,e2,e3⟩|⟨cs,ds,e1,e2,e3⟩
   ·exact(show My.fs.L t=st.fs.L t from e)▸ho
   ·rw[show My.fs.L t=_ from e2]at ho;rw[show st.fs.L t=_ from e1];exact Eu e3 o ho
   ·rw[show My.fs.L t=_ from e2]at ho;rw[show st.fs.L t=_ from e1];exact wq e3 o ho
 refine⟨hc.size,hc.defers,fun t=>?_,fun o x ho=>?_,fun o o' x x' b ho MX=>by obtain⟨y,hy⟩:=M0 o x ho;obtain⟨y',OO⟩:=M0 o' x' MX;exact hc.sep o o' y y' b hy OO,fun o x b ho hb=>by obtain⟨y,hy⟩:=M0 o x ho;exact hc.rng o y b hy hb,hc.keep,hc.base,hc.alw,hc.cst,fun o v hv=>⟨(hc.Mq o v hv).1,by have:=(hc.Mq o v hv).2;simpa [St.fs,hu]using this⟩,fun t o ho=>by have:=hc.usedL t o (PG t o ho);simpa [St.fs,hu]using this,fun o x ho=>?_⟩
 ·rcases iv My.fr t with e|hm
  ·rw[show My.fs.L t=AV.unk from e];trivial
  ·rcases vy h1 hm with e|⟨c,d,e1,e2,e3⟩|⟨cs,ds,e1,e2,e3⟩
   ·rw[show My.fs.L t=st.fs.L t from e];exact(hc.slot t).keep (fun b hb=>⟨rfl,MC b hb⟩) fun _ _=>rfl
   ·rw[show My.fs.L t=_ from e2];have hs:=hc.slot t;rw[show st.fs.L t=_ from e1]at hs;exact MI hs e3
   ·rw[show My.fs.L t=_ from e2];have hs:=hc.slot t;rw[show st.fs.L t=_ from e1]at hs;obtain⟨us,hv,hs⟩:=hs;exact⟨us,hv,MK hs e3⟩
 ·rcases hO o x ho with e|⟨cs,ds,e1,e2,e3⟩|⟨sz,rows,i,off,n,row,t,e1,e2,e3,e4,e5,e6⟩
  ·exact(hc.obj o x e.symm).keep (fun b hb=>⟨rfl,MC b hb⟩) (fun _ _=>rfl) rfl (fun _ h=>h) fun _ _=>rfl
  ·injection e2 with e2;subst e2;obtain⟨b,cur,t,fz,g1,g2,g3,g4⟩:=hc.obj o _ e1;exact⟨b,cur,t,fz,g1,g2,g3,MK g4 e3⟩
  ·injection e6 with e6;subst e6;obtain⟨M9,g⟩:=hc.obj o _ e1
   have MJ:∀r∈rows.set i (row.set off (DC.t t)),r.length=sz:=fun r hr=>by
    rcases u6 hr with h'|h'
    ·exact M9 r h'
    ·rw[h',q7];exact M9 row (c9 e2)
   refine⟨MJ,?_⟩;rcases g with⟨_,_,g⟩|⟨b,cap,cur,e,fz,Fp,g1,g2,g3,g4,g5,g6,g7,g8,g9⟩
   ·cases g
   ·refine .inr ⟨b,cap,cur,e,fz,Fp,by rw[q7];exact g1,g2,g3,by rw[q7];exact g4,g5,g6,g7,g8,?_⟩
    have MN:=kb (off:=off) (row:=row) (row':=row.set off (DC.t t)) (ts:=[DC.t t]) (sz:=sz) (by have:=M9 row (c9 e2);simp;omega) (by
     rw[List.set_eq_take_append_cons_drop,c7 (by have:=M9 row (c9 e2);omega)];simp) rows i M9 e2
    have hi:i<rows.length:=by
     rcases m7 i rows.length with h'|h'
     ·exact h'
     ·rw[e9 h']at e2;cases e2
    have SJ:=aR sz rows M9;have MZ:(i+1)*sz<=rows.length*sz:=l9 _ hi;have hm:(i+1)*sz=i*sz+sz:=(by rw[p8];omega);have Mw:i*sz+off+[DC.t t].length<=rows.flatten.length:=(by rw[SJ];simp;omega);refine⟨?_,fun p v d hv hd=>?_⟩
    ·rw[q7,MN];have:=g9.1;simp only[c8,l6,t9]at this⊢;omega
    ·rw[q7]at hv;simp only[cp];rw[MN,vt Mw]at hd;have h9:=g9.2 p v;by_cases q1:p=i*sz+off
     ·rw[b8 o_,c7 aab]at hd;have q2:p-(i*sz+off)=0:=o_;rw[q2,e8]at hd;injection hd with hd;subst hd;obtain⟨d0,QF⟩:∃d0,rows.flatten[p]?=some d0:=⟨_,i7 (by rw[q1];simp at Mw;omega)⟩;have:=h9 d0 hv QF;simp only[cp,c7 q1]at this;rw[this.1]
      have N8:∃A n' c',ρ n= .slice A n' c':=by
       simp only[cu]at e4;split at e4
       ·rename_i fr MS rows' hq;obtain⟨_,g⟩:=hc.obj n _ hq;rcases g with⟨g,_⟩|⟨_,_,_,_,_,g,_⟩
        ·exact⟨_,_,_,g⟩
        ·exact⟨_,_,_,g⟩
       ·rename_i MS rows' hq;obtain⟨_,g⟩:=hc.obj n _ hq;rcases g with⟨g,_⟩|⟨_,_,_,_,_,_,g,_⟩
        ·exact⟨_,_,_,g⟩
        ·exact⟨_,_,_,g⟩
       ·exact e4.elim
      exact jA (c:= .own n) (v:=ρ n) hc MC (fun q hq x b hx hb=>by
       simp only[AC.ids,d6,l4,or_false]at hq;subst hq
       exact RY _ e5 x b hx hb) ⟨N8,rfl⟩ e4
     ·have NU:rows.flatten[p]?=some d:=by
       split at hd
       ·exact hd
       ·rw[b8 aab]at hd;exact hd
      have:=h9 d hv NU;simp only[cp,b8 q1]at this;exact RD.keep this (fun b hb=>⟨rfl,MC b hb⟩) fun _ h=>⟨rfl,h⟩
 ·rcases hO o x ho with e|⟨cs,ds,e1,e2,e3⟩|⟨sz,rows,i,off,n,row,t,e1,e2,e3,e4,e5,e6⟩
  ·have:=hc.usedH o x e.symm;simpa [St.fs,hu]using this
  ·injection e2 with e2;subst e2;obtain⟨k1,k2⟩:=hc.usedH o _ e1;refine⟨by simpa [St.fs,hu]using k1,fun o' MX=>?_⟩;have:=k2 o' (wq e3 o' MX);simpa [St.fs,hu]using this
  ·injection e6 with e6;subst e6;obtain⟨k1,k2⟩:=hc.usedH o _ e1;exact⟨by simpa [St.fs,hu]using k1,fun o' MX=>by simp[AO.ids]at MX⟩
def gvR:List (List DC)->List (List DC)->Prop
 | [],[]=>True
 | r::rs,t::ts=>(r.length=t.length/\∀(p:Nat) (c d:DC),r[p]?=some c->t[p]?=some d->d=c\/d=DC.t c.tr\/∃a b,c.tr= .lst a []/\d=DC.t (.lst b []))/\gvR rs ts
 | _,_=>False
theorem ny:∀{rs ts:List (List DC)},gvR rs ts->rs.length=ts.length
 | [],[],_=>rfl
 | _::_,_::_,h=>by rw[d5,d5,ny h.2]
 | [],_::_,h=>h.elim
 | _::_,[],h=>h.elim
theorem zX {sz:Nat}:∀{rs ts:List (List DC)},gvR rs ts->(∀r∈rs,r.length=sz)->∀r∈ts,r.length=sz
 | [],[],_,_,_,h=>by cases h
 | r::rs,t::ts,h,hu,x,hx=>by
  rcases d6.1 hx with rfl|hx
  ·rw[<-h.1.1];exact hu r s_
  ·exact zX h.2 (fun r hr=>hu r aau) x hx
 | [],_::_,h,_,_,_=>h.elim
 | _::_,[],h,_,_,_=>h.elim
theorem V30{p:Prop}(h:p:=by
 refine⟨by simp only[r8,c8,h.1.1,h1],fun p c d hc hd=>?_⟩;rw[r8,G2]at hc hd;rw[h.1.1]at hc;split at hc
 ·rename_i hp;rw[c7 hp]at hd;exact h.1.2 p c d hc hd
 ·rename_i hp;rw[b8 hp]at hd;exact h2 _ c d hc hd):p:=h
theorem Cc:∀{rs ts:List (List DC)},gvR rs ts->rs.flatten.length=ts.flatten.length/\∀(p:Nat) (c d:DC),rs.flatten[p]?=some c->ts.flatten[p]?=some d->d=c\/d=DC.t c.tr\/∃a b,c.tr= .lst a []/\d=DC.t (.lst b [])
 | [],[],_=>⟨rfl,fun p c d h=>by simp at h⟩
 | r::rs,t::ts,h=>by
  obtain⟨h1,h2⟩:=Cc h.2
  exact V30
 | [],_::_,h=>h.elim
 | _::_,[],h=>h.elim
theorem RT.empty {w:World}{ok:Nat->Prop}{v:Value}{a b:Nat}(h:RT w ok v (.lst a [])):RT w ok v (.lst b []):=by
 cases h with
 | emp A c sz hc=>exact .emp _ _ _ hc
 | lst ad n c sz rows us hn hc hm hu MC hl MI Nu=>
  have:n=0:=by simpa using hn.symm
  subst this;exact .emp _ _ _ hm
theorem V61{p:Prop}(h:p:=by
 have:p<rows'.flatten.length:=by
  rcases m7 p rows'.flatten.length with h'|h'
  ·exact h'
  ·rw[e9 h']at hd;cases hd
 exact⟨_,i7 o_⟩):p:=h
theorem FZ (o:Id){sz:Nat}{rows rows':List (List DC)}(ho:cf st.h o=some (.dar sz rows none))(hg:gvR rows rows')(h:Wo m P Γ N c K ⟨st.fr,(o,some (.dar sz rows' none))::st.h,st.u⟩):Wo m P Γ N c K st:=by
 rw[kK]at *
 intro hΓ aG B M w0 ρ a w Q hM hF hc hQ
 have MF:∀q,q≠o->cf ((o,some (AO.dar sz rows' none))::st.h) q=cf st.h q:=fun q hq=>by
  have:fj q o=false:=by cases hb:fj q o with|false=>rfl|true=>exact absurd (idEq_iff.1 hb) hq
  simp[cf,this]
 have PS:cf ((o,some (AO.dar sz rows' none))::st.h) o=some (.dar sz rows' none):=by have:fj o o=true:=idEq_iff.2 rfl;simp[cf,this]
 obtain⟨hu,g⟩:=hc.obj o _ ho
 have key:∃ρ':Rho,ρ'.val=ρ.val/\ρ'.al=ρ.al/\(∀q,q≠o->∀b,ρ'.fp q b↔ρ.fp q b)/\(∀b,ρ'.fp o b->ρ.fp o b)/\∀ok':Nat->Prop,(∀b,okB ρ st.fs.H w b->ok' b)->(∀b,ρ.fp o b->blk (ρ o)≠some b->¬ρ'.fp o b->ok' b)->RO B ρ' w ok' o (.dar sz rows' none):=by
  rcases g with⟨g1,g2,g3⟩|⟨b,cap,cur,e,fz,Fp,g1,g2,g3,g4,g5,g6,g7,g8,g9⟩
  ·subst g2
   have:rows'=[]:=by have:=ny hg;exact A3.1 this.symm
   subst this;exact⟨ρ,rfl,rfl,fun _ _ _=>Iff.rfl,fun _ h=>h,fun ok' _ _=>⟨fun r hr=>by simp at hr,.inl ⟨g1,rfl,rfl⟩⟩⟩
  ·obtain⟨f1,f2⟩:=Cc hg
   refine⟨⟨ρ.val,fun q c=>if q=o then(∃p x,rows'.flatten[p]?=some (.d x)/\Fp p c)else ρ.fp q c,ρ.al⟩,rfl,rfl,fun q hq b=>by simp only[b8 hq],fun c NZ=>by
    simp only[if_true]at NZ;obtain⟨p,_,_,hp⟩:=NZ
    exact(g7 p c hp).1,fun ok' hk MO=>⟨zX hg hu,.inr ⟨b,cap,cur,e,fz,fun p c=>(∃x,rows'.flatten[p]?=some (.d x))/\Fp p c,by rw[<-ny hg];exact g1,g2,g3,by rw[<-ny hg];exact g4,g5,g6,fun p c M1=>?_,fun p q c Rj h1 h2=>g8 p q c Rj h1.2 h2.2,?_,fun p v d hv hd=>?_⟩⟩⟩
   ·refine⟨?_,(g7 p c M1.2).2⟩;simp only[if_true];obtain⟨⟨x,hx⟩,h2⟩:=M1;exact⟨p,x,hx,h2⟩
   ·rw[<-f1,<-ny hg];exact g9.1
   ·rw[<-ny hg]at hv;simp only[cp]
    obtain⟨c0,OP⟩:∃c0,rows.flatten[p]?=some c0:=by exact V61
    have:=g9.2 p v c0 hv OP;simp only[cp]at this
    have Po:(∀x,c0= .d x->d≠.d x)->RT w ok' v c0.tr:=by
     intro MF
     cases c0 with
     | t x=>exact RT.keep this fun b' ML=>⟨rfl,hk b' ML⟩
     | d x=>
      refine DT.toRT this fun b' ML=>MO b' (g7 p b' ML).1 (fun Ob=>?_) fun hf=>?_
      ·rw[g1]at Ob;injection Ob with Ob;exact(g7 p b' ML).2 Ob.symm
      ·simp only[if_true]at hf;obtain⟨q,y,hq,Qy⟩:=hf;by_cases Rj:p=q
       ·subst Rj;rw[hd]at hq;injection hq with hq;subst hq;rcases f2 p _ _ OP hd with e|e|⟨_,_,_,e⟩
        ·exact MF x rfl e
        ·cases e
        ·cases e
       ·exact g8 p q b' Rj ML Qy
    rcases f2 p c0 d OP hd with rfl|rfl|⟨a1,b1,ea,rfl⟩
    ·cases d with
     | t x=>exact RT.keep this fun b' ML=>⟨rfl,hk b' ML⟩
     | d x=>exact DT.keep this fun b' ML=>⟨rfl,⟨x,hd⟩,ML⟩
    ·exact Po fun x _ e=>by cases e
    ·have:=Po fun x _ e=>by cases e
     rw[ea]at this;exact RT.empty this
 obtain⟨ρ',r1,r2,r3,r4,r5⟩:=key;have hv:∀q,ρ' q=ρ q:=fun q=>by show ρ'.val q=ρ.val q;rw[r1]
 have MP:∀q b,Own ρ' q b->Own ρ q b:=fun q b hb=>by
  rcases hb with hb|hb
  ·exact .inl (by rw[<-hv q];exact hb)
  ·by_cases hq:q=o
   ·subst hq;exact .inr (r4 b hb)
   ·exact .inr ((r3 q hq b).1 hb)
 refine h hΓ aG B M w0 ρ' a w Q hM hF ?_ hQ
 have M0:∀q x,cf ((o,some (AO.dar sz rows' none))::st.h) q=some x->∃y,cf st.h q=some y:=fun q x hx=>by
  by_cases hq:q=o
  ·subst hq;exact⟨_,ho⟩
  ·rw[MF q hq]at hx;exact⟨x,hx⟩
 have MC:∀b,okB ρ st.fs.H w b->okB ρ' (cf ((o,some (AO.dar sz rows' none))::st.h)) w b:=fun b hb=>⟨⟨hb.1.1,by rw[r2];exact hb.1.2⟩,fun q x hx Nc=>by obtain⟨y,hy⟩:=M0 q x hx;exact hb.2 q y hy (MP q b Nc)⟩
 refine⟨hc.size,hc.defers,fun t=>(hc.slot t).keep (fun b hb=>⟨rfl,MC b hb⟩) fun q _=>hv q,fun q x hx=>?_,fun q q' x x' b hx Ox Yt hb ML=>by
   obtain⟨y,hy⟩:=M0 q x hx;obtain⟨y',OO⟩:=M0 q' x' Ox
   exact hc.sep q q' y y' b hy OO Yt (MP q b hb) (MP q' b ML),fun q x b hx hb=>by obtain⟨y,hy⟩:=M0 q x hx;exact hc.rng q y b hy (MP q b hb),hc.keep,hc.base,fun b hb=>by rw[r2];exact hc.alw b hb,by rw[r2];exact hc.cst,fun q v hq=>⟨by rw[hv];exact(hc.Mq q v hq).1,(hc.Mq q v hq).2⟩,hc.usedL,fun q x hx=>?_⟩
 ·by_cases hq:q=o
  ·subst hq;have Ox:=hx;rw[show(St.fs ⟨st.fr,(q,some (AO.dar sz rows' none))::st.h,st.u⟩).H q=cf ((q,some (AO.dar sz rows' none))::st.h) q from rfl,PS]at Ox;injection Ox with Ox;subst Ox;refine r5 _ MC fun b hb Ob YM=>⟨⟨(hc.rng q _ b ho (.inr hb)).1,by rw[r2];exact hc.alw b (hc.rng q _ b ho (.inr hb)).2⟩,fun q' x' VQ Nc=>?_⟩;by_cases MH:q'=q
   ·subst MH;rcases Nc with Nc|Nc
    ·exact Ob (by rw[<-hv q'];exact Nc)
    ·exact YM Nc
   ·obtain⟨y',OO⟩:=M0 q' x' VQ;exact hc.sep q' q y' _ b OO ho MH (MP q' b Nc) (.inr hb)
  ·have Ox:cf st.h q=some x:=(by rw[<-MF q hq];exact hx);exact(hc.obj q x Ox).keep (fun b hb=>⟨rfl,MC b hb⟩) (fun _ _=>hv _) (hv q) (fun b hb=>(r3 q hq b).2 hb) fun _ _=>rfl
 ·by_cases hq:q=o
  ·subst hq;have Ox:=hx;rw[show(St.fs ⟨st.fr,(q,some (AO.dar sz rows' none))::st.h,st.u⟩).H q=cf ((q,some (AO.dar sz rows' none))::st.h) q from rfl,PS]at Ox;injection Ox with Ox;subst Ox;exact⟨(hc.usedH q _ ho).1,fun o' MX=>by simp[AO.ids]at MX⟩
  ·have Ox:cf st.h q=some x:=(by rw[<-MF q hq];exact hx);exact hc.usedH q x Ox
end
def emE (c d:Tr):Prop:=d=c\/∃a b,c= .lst a []/\d= .lst b []
def emR:List (List Tr)->List (List Tr)->Prop
 | [],[]=>True
 | r::rs,t::ts=>(r.length=t.length/\∀(p:Nat) (c d:Tr),r[p]?=some c->t[p]?=some d->emE c d)/\emR rs ts
 | _,_=>False
theorem yN:∀{rs ts:List (List Tr)},emR rs ts->rs.length=ts.length
 | [],[],_=>rfl
 | _::_,_::_,h=>by rw[d5,d5,yN h.2]
 | [],_::_,h=>h.elim
 | _::_,[],h=>h.elim
theorem Ai {sz:Nat}:∀{rs ts:List (List Tr)},emR rs ts->(∀r∈rs,r.length=sz)->∀r∈ts,r.length=sz
 | [],[],_,_,_,h=>by cases h
 | r::rs,t::ts,h,hu,x,hx=>by
  rcases d6.1 hx with rfl|hx
  ·rw[<-h.1.1];exact hu r s_
  ·exact Ai h.2 (fun r hr=>hu r aau) x hx
 | [],_::_,h,_,_,_=>h.elim
 | _::_,[],h,_,_,_=>h.elim
theorem BR:∀{rs ts:List (List Tr)},emR rs ts->rs.flatten.length=ts.flatten.length/\∀(p:Nat) (c d:Tr),rs.flatten[p]?=some c->ts.flatten[p]?=some d->emE c d
 | [],[],_=>⟨rfl,fun p c d h=>by simp at h⟩
 | r::rs,t::ts,h=>by
  obtain⟨h1,h2⟩:=BR h.2
  exact V30
 | [],_::_,h=>h.elim
 | _::_,[],h=>h.elim
theorem RT.rows {w:World}{ok:Nat->Prop}{v:Value}{sz:Nat}{rows rows':List (List Tr)}(h:RT w ok v (.lst sz rows))(hg:emR rows rows'):RT w ok v (.lst sz rows'):=by
 cases h with
 | emp A c sz hc=>
  have:rows'=[]:=A3.1 (yN hg).symm;subst this
  exact .emp _ _ _ hc
 | lst ad n c sz rows us hn hc hm hu MC hl MI Nu=>
  obtain⟨f1,f2⟩:=BR hg;refine .lst ad n c sz rows' us ((yN hg).symm.trans hn) hc hm (Ai hg hu) MC (hl.trans f1) MI fun p v d hv hd=>?_
  obtain⟨c0,OP⟩:∃c0,rows.flatten[p]?=some c0:=by exact V61
  have:=Nu p v c0 hv OP;rcases f2 p c0 d OP hd with rfl|⟨a,b,rfl,rfl⟩
  ·exact this
  ·exact RT.empty this
section
variable {P:Program} {Γ:Env} {N:Nat} {m:Bool} {K:Out->St->Prop} {st:St} {c:Code}
theorem sK (i:Nat){sz:Nat}{rows rows':List (List Tr)}(hi:di st.fr i= .r (.c (.t (.lst sz rows))))(hg:emR rows rows')(h:Wo m P Γ N c K ⟨(i,.r (.c (.t (.lst sz rows'))))::st.fr,st.h,st.u⟩):Wo m P Γ N c K st:=by
 rw[kK]at *
 intro hΓ aG B M w0 ρ a w Q hM hF hc hQ;refine h hΓ aG B M w0 ρ a w Q hM hF ?_ hQ
 have P4:∀t,t≠i->di ((i,AV.r (.c (.t (.lst sz rows'))))::st.fr) t=di st.fr t:=fun t ht=>by
  have:Nat.beq t i=false:=by cases hb:Nat.beq t i with|false=>rfl|true=>exact absurd (r9 hb) ht
  simp[di,this]
 have Tb:di ((i,AV.r (.c (.t (.lst sz rows'))))::st.fr) i= .r (.c (.t (.lst sz rows'))):=by simp[di]
 refine⟨hc.size,hc.defers,fun t=>?_,hc.obj,hc.sep,hc.rng,hc.keep,hc.base,hc.alw,hc.cst,hc.Mq,fun t o ho=>?_,hc.usedH⟩
 ·by_cases ht:t=i
  ·subst ht;have hs:=hc.slot t;rw[show st.fs.L t=_ from hi]at hs;show RV _ _ _ _ _ (di _ t);rw[Tb];exact RT.rows hs hg
  ·show RV _ _ _ _ _ (di _ t);rw[P4 t ht];exact hc.slot t
 ·have ho:o∈(di ((i,AV.r (.c (.t (.lst sz rows'))))::st.fr) t).ids:=ho;by_cases ht:t=i
  ·subst ht;rw[Tb]at ho;simp[AV.ids,AR.ids,AC.ids]at ho
  ·rw[P4 t ht]at ho;exact hc.usedL t o ho
end
end Go.Sim
