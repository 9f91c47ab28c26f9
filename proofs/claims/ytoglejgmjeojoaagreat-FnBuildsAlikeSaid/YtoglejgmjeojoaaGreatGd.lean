import Derived.Test.YtoglejgmjeojoaaGreatGc
namespace Go.Sim
open Go.RowKit
abbrev Ren:=List (Id×Option (Id×Option Nat))
def jF:Ren->Id->Option (Option (Id×Option Nat))
 | [],_=>none
 |(i,x)::r,o=>bif gw o i then some x else jF r o
def MY:Option (Id×Option Nat)->Option (Id×Option Nat)->Prop
 | none,none=>True
 | some (a,none),some (b,none)=>gw a b=true
 | some (a,some k),some (b,some k')=>gw a b=true/\k=k'
 | _,_=>False
def tie (r:Ren)(o:Id)(x:Option (Id×Option Nat))(K:Ren->Prop):Prop:=
 match jF r o with|some y=>MY y x/\K r|none=>K ((o,x)::r)
def leC (r:Ren):AC->AC->(Ren->Prop)->Prop
 | .t x,.t y,K=>x=y/\K r
 | .f x,.t y,K=>x=y/\K r
 | .f x,.f y,K=>x=y/\K r
 | .nils _,.t y,K=>(∃sz,y= .lst sz [])/\K r
 | .nils _,.f y,K=>(∃sz,y= .lst sz [])/\K r
 | .nils _,.nils _,K=>K r
 | .nils _,.own o',K=>tie r o' none K
 | .nilp,.nilp,K=>K r
 | .own o,.own o',K=>tie r o' (some (o,none)) K
 | .sub o k,.sub o' k',K=>k=k'/\tie r o' (some (o,none)) K
 | .sub o k,.own o',K=>tie r o' (some (o,some k)) K
 | .ptr o n,.ptr o' n',K=>n=n'/\tie r o' (some (o,none)) K
 | .mpv o,.mpv o',K=>tie r o' (some (o,none)) K
 | _,.opq,K=>K r
 | _,_,_=>False
abbrev Lb (r:Ren):List AC->List AC->(Ren->Prop)->Prop
 | [],[],K=>K r
 | x::xs,y::ys,K=>leC r x y fun r=>Lb r xs ys K
 | _,_,_=>False
def leR (r:Ren):AR->AR->(Ren->Prop)->Prop
 | .c x,.c y,K=>leC r x y K
 | .agg xs,.agg ys,K=>Lb r xs ys K
 | _,_,_=>False
abbrev PK (r:Ren):List AR->List AR->(Ren->Prop)->Prop
 | [],[],K=>K r
 | x::xs,y::ys,K=>leR r x y fun r=>PK r xs ys K
 | _,_,_=>False
def leV (r:Ren)(x:AV):AV->(Ren->Prop)->Prop
 | .unk,K=>K r
 | .r y,K=>(match x with
   | .r x=>leR r x y K
   | _=>False)
 | .tup ys,K=>(match x with
   | .tup xs=>PK r xs ys K
   | _=>False)
 | .el o' QQ i' Xj,K=>(match x with
   | .el o sz i off=>sz=QQ/\i=i'/\off=Xj/\tie r o' (some (o,none)) K
   | _=>False)
 | .ro fr' row' Xj,K=>(match x with
   | .ro fr row off=>fr=fr'/\row=row'/\off=Xj/\K r
   | _=>False)
abbrev OX (fr:List (Nat×AV)):List (Nat×AV)->Ren->(Ren->Prop)->Prop
 | [],r,K=>K r
 |(t,y)::rest,r,K=>leV r (eb fr t) y fun r=>OX fr rest r K
def leB (m fr fr':Bool)(rows:List (List Tr)):Prop:=
 match fr' with
 | false=>True
 | true=>(match fr with
   | true=>True
   | false=>m=true/\flat rows)
def leO (m:Bool)(r:Ren)(cutAt:Option Nat):AO->AO->(Ren->Prop)->Prop
 | .arr fr sz rows,.arr fr' QQ rows',K=>(match cutAt with
   | none=>sz=QQ/\rows=rows'/\leB m fr fr' rows'/\K r
   | some k=>k<=rows.length/\sz=QQ/\rows.take k=rows'/\leB m fr fr' rows'/\K r)
 | .box xs,.box ys,K=>(match cutAt with
   | none=>Lb r xs ys K
   | some _=>False)
 | .dar sz rows none,.dar QQ rows' none,K=>(match cutAt with
   | none=>sz=QQ/\rows=rows'/\K r
   | some k=>k<=rows.length/\sz=QQ/\rows.take k=rows'/\K r)
 | .arr _ sz rows,.dar QQ rows' none,K=>(match cutAt with
   | none=>sz=QQ/\flat rows/\aw rows=rows'/\K r
   | some _=>False)
 | .dar sz rows none,.arr fr' QQ rows',K=>(match cutAt with
   | none=>sz=QQ/\rows=aw rows'/\(!fr'||m)=true/\K r
   | some _=>False)
 | .mp kk es,.mp kk' R6,K=>(match cutAt with
   | none=>kk=kk'/\es=R6/\K r
   | some _=>False)
 | _,_,_=>False
abbrev leH (m:Bool)(h:List (Id×Option AO)):List (Id×Option AO)->Ren->(Ren->Prop)->Prop
 | [],r,K=>K r
 |(_,none)::rest,r,K=>leH m h rest r K
 |(o',some x)::rest,r,K=>(match jF r o' with
   | some none=>(match x with
    | .arr _ _ rows=>rows=[]/\leH m h rest r K
    | .dar _ rows none=>rows=[]/\leH m h rest r K
    | _=>False)
   | some (some (o,c))=>(match cI h o with
    | some y=>leO m r c y x fun r=>leH m h rest r K
    | none=>False)
   | none=>False)
def Ag (o:Id):Ren->Bool
 | []=>false
 |(_,some (o',_))::r=>gw o o'||Ag o r
 |(_,none)::r=>Ag o r
def zc:Ren->Bool
 | []=>true
 |(_,some (o,_))::r=>!Ag o r&&zc r
 |(_,none)::r=>zc r
def vp (u:List Nat):List Id->Bool
 | []=>true
 | o::l=>used u o.1&&vp u l
def Ds (u:List Nat):List (Nat×AV)->Bool
 | []=>true
 |(_,v)::l=>vp u v.ids&&Ds u l
def usedH (u:List Nat):List (Id×Option AO)->Bool
 | []=>true
 |(o,some x)::l=>used u o.1&&(vp u x.ids&&usedH u l)
 |(_,none)::l=>usedH u l
def pOk (r:Ren):Bool:=r.all fun p=>!(Nat.beq p.1.1 0)||(match p.2 with
 | some (o,none)=>gw o p.1
 | _=>false)
def ID (m:Bool):List (Id×Option AO)->Ren
 | []=>[]
 |(o,some _)::l=>(match !m&&Nat.beq o.1 0 with
   | true=>(o,some (o,none))::ID m l
   | false=>ID m l)
 |(_,none)::l=>ID m l
def Leq (m:Bool)(st O5:St):Prop:=
 ((Ds O5.u O5.fr&&usedH O5.u O5.h)&&(m||used O5.u 0))=true/\OX st.fr O5.fr (ID m O5.h) fun r=>leH m st.h O5.h r fun r=>(zc r&&(m||pOk r))=true
def kG:List (Id×Option AO)->List Id->List Id
 | [],_=>[]
 |(o,x)::l,seen=>(match mt o seen with
   | true=>kG l seen
   | false=>(match x with
    | some (.dar _ _ (some _))=>o::kG l (o::seen)
    | _=>kG l (o::seen)))
abbrev jW:List Id->St->(St->Prop)->Prop
 | [],st,K=>K st
 | o::l,st,K=>uo (cI st.h) (.el o 0 0 0) fun _ us _=>yx us st.h fun h=>jW l ⟨st.fr,h,st.u⟩ K
def LeqG (m:Bool)(st O5:St):Prop:=jW (kG st.h []) st fun st=>Leq m st O5
inductive Out where
 | normal
 | exit (id:Nat)
 | ret
 | pan (v:Value)
def Out.at:Out->Exit
 | .normal=> .normal
 | .exit id=> .exit id
 | .ret=> .ret
 | .pan v=> .panic [{v,recovered:=false}]
def Az (st:St)(c:Operand)(b:Bool):St:=
 match c with|.tmp t=>lit st t b|_=>st
def PW (P:Program)(Γ:Env)(N:Nat)(ops:List Oper)(draw:Bool)(st:St)(K:St->Prop):Prop:=
 match draw with
 | false=>nQ P Γ N ops ops st [] fun O5 _=>K O5
 | true=>(nQ P Γ N ops ops st [] fun O5 log=>vZ ops log.reverse=true/\K O5)\/∃xi xj:Nat,OD P Γ N ops xi xj st K
def W (m:Bool)(P:Program)(Γ:Env)(N:Nat):Code->(Out->St->Prop)->St->Prop
 | .skip,K,st=>K .normal st
 | .label _,K,st=>K .normal st
 | .region _ ops draw,K,st=>PW P Γ N ops.toList draw st (K .normal)
 | .seq x y,K,st=>W m P Γ N x (fun e O5=>(match e with
   | .normal=>W m P Γ N y K O5
   | e=>K e O5)) st\/
   ∃(ι:Type) (S:ι->St),W m P Γ N x (fun e O5=>(match e with
    | .normal=>∃i,LeqG m O5 (S i)
    | e=>K e O5)) st/\∀i,W m P Γ N y K (S i)
 | .cond c x y,K,st=>(match evL (eb st.fr) c with
   | .r (.c (.t (.bool b)))=>ifB b (W m P Γ N x K (Az st c true)) (W m P Γ N y K (Az st c false))
   | _=>False)
 | .block id c,K,st=>W m P Γ N c (fun e O5=>(match e with
   | .exit id'=>(match Nat.beq id' id with
     | true=>K .normal O5
     | false=>K (.exit id') O5)
   | e=>K e O5)) st
 | .loop c,K,st=>∃(ι:Type) (S:ι->St) (μ:ι->Nat) (i0:ι),LeqG m st (S i0)/\∀i,W m P Γ N c (fun e O5=>(match e with
   | .normal=>∃j,LeqG m O5 (S j)/\μ j<μ i
   | e=>K e O5)) (S i)
 | .exit id,K,st=>K (.exit id) st
 | .ret,K,st=>K .ret st
 | _,_,_=>False
theorem au {A:Prop}{Q:Nat->Nat->Prop}(h:A):A\/∃xi xj:Nat,Q xi xj:=Or.inl h
theorem Ow {A:Prop}{Q:Nat->Nat->Prop}(xi xj:Nat)(h:Q xi xj):A\/∃xi xj:Nat,Q xi xj:=Or.inr ⟨xi,xj,h⟩
section
variable {P:Program} {Γ:Env} {N B:Nat} {M:Nat->Prop} {w0:Start} {w:World} {ρ:Rho} {st O5:St} {a:Act} {m:Bool}
def Ext (r r':Ren):Prop:=∀o x,jF r o=some x->jF r' o=some x
theorem Ext.refl (r:Ren):Ext r r:=fun _ _ h=>h
theorem Ext.trans {r r' r'':Ren}(h:Ext r r')(h':Ext r' r''):Ext r r'':=fun o x hx=>h' o x (h o x hx)
theorem Np {r:Ren}{o:Id}{x:Option (Id×Option Nat)}(h:jF r o=none):Ext r ((o,x)::r):=by
 intro o' x' h';rw[jF]
 cases hb:gw o' o with
 | true=>rw[idEq_iff.1 hb,h]at h';cases h'
 | false=>exact h'
def vrv (ρ:Id->Value):Option (Id×Option Nat)->Value
 | some (o,none)=>ρ o
 | some (o,some k)=>(match ρ o with
   | .slice A _ c=> .slice A k c
   | v=>v)
 | none=> .slice none 0 0
def vr (ρ:Id->Value)(r:Ren)(o:Id):Value:=
 match jF r o with|some x=>vrv ρ x|none=>ρ o
theorem wB {ρ:Id->Value}{r:Ren}{o:Id}{x:Option (Id×Option Nat)}(h:jF r o=some x):vr ρ r o=vrv ρ x:=by unfold vr;rw[h]
theorem JR {x y:Option (Id×Option Nat)}(h:MY x y):x=y:=by
 unfold MY at h;split at h
 ·rfl
 ·rw[idEq_iff.1 h]
 ·rw[idEq_iff.1 h.1,h.2]
 ·exact h.elim
theorem rA {r:Ren}{o:Id}{x:Option (Id×Option Nat)}{K:Ren->Prop}(h:tie r o x K):∃r',Ext r r'/\jF r' o=some x/\K r':=by
 unfold tie at h;split at h
 ·rename_i y hy;exact⟨r,.refl r,by rw[hy,JR h.1],h.2⟩
 ·rename_i hy;exact⟨_,Np hy,by rw[jF,idEq_iff.2 rfl];rfl,h⟩
def PR (r:Ren)(x y:AC):Prop:=∀{B:Nat} {ρ ρ':Rho} {w:World} {ok ok':Nat->Prop} {v:Value},(∀o,ρ' o=vr ρ r o)->(∀b,ok b->ok' b)->RC B ρ w ok v x->RC B ρ' w ok' v y
def KG (r:Ren)(x y:List AC):Prop:=∀{B:Nat} {ρ ρ':Rho} {w:World} {ok ok':Nat->Prop} {v:List Value},(∀o,ρ' o=vr ρ r o)->(∀b,ok b->ok' b)->RCs B ρ w ok v x->RCs B ρ' w ok' v y
def PY (r:Ren)(x y:AR):Prop:=∀{B:Nat} {ρ ρ':Rho} {w:World} {ok ok':Nat->Prop} {v:Value},(∀o,ρ' o=vr ρ r o)->(∀b,ok b->ok' b)->RR B ρ w ok v x->RR B ρ' w ok' v y
def PB (r:Ren)(x y:List AR):Prop:=∀{B:Nat} {ρ ρ':Rho} {w:World} {ok ok':Nat->Prop} {v:List Value},(∀o,ρ' o=vr ρ r o)->(∀b,ok b->ok' b)->RRs B ρ w ok v x->RRs B ρ' w ok' v y
def OK (r:Ren)(x y:AV):Prop:=∀{B:Nat} {ρ ρ':Rho} {w:World} {ok ok':Nat->Prop} {v:Value},(∀o,ρ' o=vr ρ r o)->(∀b,ok b->ok' b)->RV B ρ w ok v x->RV B ρ' w ok' v y
theorem RT.up {w:World}{ok ok':Nat->Prop}{v:Value}{t:Tr}(h:RT w ok v t)(hk:∀b,ok b->ok' b):RT w ok' v t:=h.keep fun b hb=>⟨rfl,hk b hb⟩
theorem V81{p:Prop}(h:p:=by
 obtain⟨r',h1,h2,h3⟩:=rA h;refine⟨r',h1,fun f hf B ρ ρ' w ok ok' v hρ hk hv=>?_,h3⟩;have e:=hf _ _ h2;have e':=(hρ _).trans (wB (ρ:=ρ) e);simp only[vrv]at e';simp only[RC,e']at hv⊢
 exact hv):p:=h
theorem V71{p:Prop}(h:p:=by
 obtain⟨SG,h⟩:=h;subst SG;obtain⟨r',h1,h2,h3⟩:=rA h;refine⟨r',h1,fun f hf B ρ ρ' w ok ok' v hρ hk hv=>?_,h3⟩;have e:=hf _ _ h2;have e':=(hρ _).trans (wB (ρ:=ρ) e);simp only[vrv]at e';simp only[RC,e']at hv⊢
 exact hv):p:=h
theorem Lp {r:Ren}{x y:AC}{K:Ren->Prop}(h:leC r x y K):∃r',Ext r r'/\(∀f,Ext r' f->PR f x y)/\K r':=by
 cases x<;>cases y<;>simp only[leC]at h
 case t.t=>exact⟨r,.refl r,fun f _ B ρ ρ' w ok ok' v hρ hk hv=>by rw[<-h.1];exact RT.up hv hk,h.2⟩
 case f.t=>exact⟨r,.refl r,fun f _ B ρ ρ' w ok ok' v hρ hk hv=>by rw[<-h.1];exact RT.up hv fun b hb=>hk b hb.1,h.2⟩
 case f.f=>exact⟨r,.refl r,fun f _ B ρ ρ' w ok ok' v hρ hk hv=>by rw[<-h.1];exact RT.up hv fun b hb=>⟨hk b hb.1,hb.2⟩,h.2⟩
 case nils.t=>obtain⟨⟨sz,rfl⟩,h⟩:=h;exact⟨r,.refl r,fun f _ B ρ ρ' w ok ok' v hρ hk hv=>by rw[show v=_ from hv];exact .emp _ _ _ (by simp[maxLen]),h⟩
 case nils.f=>obtain⟨⟨sz,rfl⟩,h⟩:=h;exact⟨r,.refl r,fun f _ B ρ ρ' w ok ok' v hρ hk hv=>by rw[show v=_ from hv];exact .emp _ _ _ (by simp[maxLen]),h⟩
 case nils.nils=>exact⟨r,.refl r,fun f _ B ρ ρ' w ok ok' v hρ hk hv=>hv,h⟩
 case nilp.nilp=>exact⟨r,.refl r,fun f _ B ρ ρ' w ok ok' v hρ hk hv=>hv,h⟩
 case t.opq|f.opq|nils.opq|nilp.opq|own.opq|sub.opq|ptr.opq|opq.opq|mpv.opq=>exact⟨r,.refl r,fun f _ B ρ ρ' w ok ok' v hρ hk hv=>⟨RC.one hv,RC.cells1 hv⟩,h⟩
 case nils.own=>obtain⟨r',h1,h2,h3⟩:=rA h;refine⟨r',h1,fun f hf B ρ ρ' w ok ok' v hρ hk hv=>?_,h3⟩;have e:=hf _ _ h2;have e':=(hρ _).trans (wB (ρ:=ρ) e);simp only[vrv]at e';simp only[RC,e']at hv⊢;exact⟨⟨_,_,_,rfl⟩,hv⟩
 case own.own=>exact V81
 case sub.own=>obtain⟨r',h1,h2,h3⟩:=rA h;refine⟨r',h1,fun f hf B ρ ρ' w ok ok' v hρ hk hv=>?_,h3⟩;have e:=hf _ _ h2;have e':=(hρ _).trans (wB (ρ:=ρ) e);simp only[vrv]at e';simp only[RC,e']at hv⊢;obtain⟨A,n,c,g1,g2,g3⟩:=hv;rw[g1];exact⟨⟨_,_,_,rfl⟩,g2⟩
 case sub.sub=>exact V71
 case mpv.mpv=>exact V81
 case ptr.ptr=>exact V71
theorem V92{p:Prop}(h:p:=by
 refine⟨r2,h1.trans h4,fun f hf B ρ ρ' w ok ok' v hρ hk hv=>?_,h6⟩
 cases v with
 | nil=>exact hv.elim
 | cons v vs=>exact⟨h2 f (h4.trans hf) hρ hk hv.1,h5 f hf hρ hk hv.2⟩):p:=h
theorem Dn:∀{xs ys:List AC} {r:Ren} {K:Ren->Prop},Lb r xs ys K->∃r',Ext r r'/\(∀f,Ext r' f->KG f xs ys)/\K r'
 | [],[],r,K,h=>⟨r,.refl r,fun f _ B ρ ρ' w ok ok' v hρ hk hv=>by cases v<;>simp[RCs]at hv⊢,h⟩
 | x::xs,y::ys,r,K,h=>by
  obtain⟨r1,h1,h2,h3⟩:=Lp h;obtain⟨r2,h4,h5,h6⟩:=Dn h3
  exact V92
 | [],_::_,_,_,h=>h.elim
 | _::_,[],_,_,h=>h.elim
theorem Ma {r:Ren}{x y:AR}{K:Ren->Prop}(h:leR r x y K):∃r',Ext r r'/\(∀f,Ext r' f->PY f x y)/\K r':=by
 cases x<;>cases y<;>simp only[leR]at h
 case c.c=>exact Lp h
 case agg.agg=>obtain⟨r1,h1,h2,h3⟩:=Dn h;exact⟨r1,h1,fun f hf B ρ ρ' w ok ok' v hρ hk hv=>let ⟨us,e,hu⟩:=hv;⟨us,e,h2 f hf hρ hk hu⟩,h3⟩
theorem IP:∀{xs ys:List AR} {r:Ren} {K:Ren->Prop},PK r xs ys K->∃r',Ext r r'/\(∀f,Ext r' f->PB f xs ys)/\K r'
 | [],[],r,K,h=>⟨r,.refl r,fun f _ B ρ ρ' w ok ok' v hρ hk hv=>by cases v<;>simp[RRs]at hv⊢,h⟩
 | x::xs,y::ys,r,K,h=>by
  obtain⟨r1,h1,h2,h3⟩:=Ma h;obtain⟨r2,h4,h5,h6⟩:=IP h3
  exact V92
 | [],_::_,_,_,h=>h.elim
 | _::_,[],_,_,h=>h.elim
theorem PH {r:Ren}{x y:AV}{K:Ren->Prop}(h:leV r x y K):∃r',Ext r r'/\(∀f,Ext r' f->OK f x y)/\K r':=by
 cases y with
 | unk=>exact⟨r,.refl r,fun f _ B ρ ρ' w ok ok' v hρ hk hv=>trivial,h⟩
 | r y=>
  cases x<;>simp only[leV]at h
  exact Ma h
 | tup ys=>
  cases x<;>simp only[leV]at h
  obtain⟨r1,h1,h2,h3⟩:=IP h
  exact⟨r1,h1,fun f hf B ρ ρ' w ok ok' v hρ hk hv=>let ⟨us,e,hu⟩:=hv;⟨us,e,h2 f hf hρ hk hu⟩,h3⟩
 | el o' sz i off=>
  cases x<;>simp only[leV]at h
  obtain⟨rfl,rfl,rfl,h⟩:=h;obtain⟨r',h1,h2,h3⟩:=rA h;refine⟨r',h1,fun f hf B ρ ρ' w ok ok' v hρ hk hv=>?_,h3⟩;have e:=hf _ _ h2;have e':=(hρ _).trans (wB (ρ:=ρ) e);simp only[vrv]at e';simp only[RV,e']at hv⊢
  exact hv
 | ro fr row off=>
  cases x<;>simp only[leV]at h
  obtain⟨rfl,rfl,rfl,h⟩:=h;refine⟨r,.refl r,fun f hf B ρ ρ' w ok ok' v hρ hk hv=>?_,h⟩;exact RV.keep (ρ:=ρ) (ρ':=ρ') (w:=w) (w':=w) (x:= .ro _ _ _) hv (fun b hb=>⟨rfl,hk b hb⟩) abi
theorem Iz {fr:List (Nat×AV)}:∀{l:List (Nat×AV)} {r:Ren} {K:Ren->Prop},OX fr l r K->∃r',Ext r r'/\(∀f,Ext r' f->∀t y,(t,y)∈l->OK f (eb fr t) y)/\K r'
 | [],r,K,h=>⟨r,.refl r,fun _ _ t y hm=>(by cases hm),h⟩
 |(t,y)::l,r,K,h=>by
  obtain⟨r1,h1,h2,h3⟩:=PH h;obtain⟨r2,h4,h5,h6⟩:=Iz h3;refine⟨r2,h1.trans h4,fun f hf t' y' hm=>?_,h6⟩;rcases d8.1 hm with he|hm
  ·injection he with e1 e2;subst e1;subst e2;exact fun hρ hk hv=>h2 f (h4.trans hf) hρ hk hv
  ·exact fun hρ hk hv=>h5 f hf t' y' hm hρ hk hv
def Pb (m:Bool)(f:Ren)(h:List (Id×Option AO))(o':Id)(x:AO):Prop:=
 (jF f o'=some none/\((∃fr sz,x= .arr fr sz [])\/∃sz,x= .dar sz [] none))\/
 ∃o c y,jF f o'=some (some (o,c))/\cI h o=some y/\
  (
   (c=none/\∃xs ys,y= .box xs/\x= .box ys/\KG f xs ys)\/
   (∃fr sz rows fr' rows',y= .arr fr sz rows/\x= .arr fr' sz rows'/\leB m fr fr' rows'/\((c=none/\rows'=rows)\/∃k,c=some k/\k<=rows.length/\rows'=rows.take k))\/
   (∃sz rows rows',y= .dar sz rows none/\x= .dar sz rows' none/\((c=none/\rows'=rows)\/∃k,c=some k/\k<=rows.length/\rows'=rows.take k))\/
   (c=none/\∃fr sz rows,y= .arr fr sz rows/\flat rows/\x= .dar sz (aw rows) none)\/
   (c=none/\∃sz rows fr,y= .dar sz (aw rows) none/\x= .arr fr sz rows/\(fr=true->m=true))\/
   (c=none/\∃kk es,y= .mp kk es/\x= .mp kk es))
theorem HL {h:List (Id×Option AO)}:∀{l:List (Id×Option AO)} {r:Ren} {K:Ren->Prop},leH m h l r K->∃r',Ext r r'/\(∀f,Ext r' f->∀o x,(o,some x)∈l->Pb m f h o x)/\K r'
 | [],r,K,hh=>⟨r,.refl r,fun _ _ o x hm=>(by cases hm),hh⟩
 |(o',none)::l,r,K,hh=>by
  obtain⟨r1,h1,h2,h3⟩:=HL (l:=l) hh;refine⟨r1,h1,fun f hf o x hm=>?_,h3⟩;rcases d8.1 hm with he|hm
  ·injection he with e1 e2;cases e2
  ·exact h2 f hf o x hm
 |(o',some z)::l,r,K,hh=>by
  have one:∀{r0:Ren},Ext r r0->leH m h l r0 K->(∀f,Ext r0 f->Pb m f h o' z)->∃r',Ext r r'/\(∀f,Ext r' f->∀o x,(o,some x)∈(o',some z)::l->Pb m f h o x)/\K r':=by
   intro r0 h0 hh hz;obtain⟨r1,h1,h2,h3⟩:=HL (l:=l) hh;refine⟨r1,h0.trans h1,fun f hf o x hm=>?_,h3⟩;rcases d8.1 hm with he|hm
   ·injection he with e1 e2;injection e2 with e2;subst e1;subst e2;exact hz f (h1.trans hf)
   ·exact h2 f hf o x hm
  unfold leH at hh;split at hh
  ·rename_i hr;split at hh
   ·rename_i fr sz rows;obtain⟨rfl,hh⟩:=hh;exact one (.refl r) hh fun f hf=> .inl ⟨hf _ _ hr,.inl ⟨_,_,rfl⟩⟩
   ·rename_i sz rows;obtain⟨rfl,hh⟩:=hh;exact one (.refl r) hh fun f hf=> .inl ⟨hf _ _ hr,.inr ⟨_,rfl⟩⟩
   ·exact hh.elim
  ·rename_i o0 c hr;split at hh
   ·rename_i y hy;unfold leO at hh;split at hh
    ·rename_i fr sz rows fr' QQ rows'
     have key:sz=QQ/\leB m fr fr' rows'/\((c=none/\rows'=rows)\/∃k,c=some k/\k<=rows.length/\rows'=rows.take k)/\leH m h l r K:=by cases c with|none=>obtain⟨a1,a2,a3,a4⟩:=(show _/\_/\_/\_ from hh);exact⟨a1,a3,.inl ⟨rfl,a2.symm⟩,a4⟩|some k=>obtain⟨a0,a1,a2,a3,a4⟩:=(show _/\_/\_/\_/\_ from hh);exact⟨a1,a3,.inr ⟨k,rfl,a0,a2.symm⟩,a4⟩
     obtain⟨rfl,k1,k2,hh⟩:=key;exact one (.refl r) hh fun f hf=> .inr ⟨o0,c,_,hf _ _ hr,hy,.inr (.inl ⟨fr,sz,rows,fr',rows',rfl,rfl,k1,k2⟩)⟩
    ·rename_i xs ys
     cases c with
     | some _=>exact hh.elim
     | none=>obtain⟨r1,h1,h2,h3⟩:=Dn (show Lb r xs ys _ from hh);exact one h1 h3 fun f hf=> .inr ⟨o0,none,_,(h1.trans hf) _ _ hr,hy,.inl ⟨rfl,xs,ys,rfl,rfl,fun hρ hk hv=>h2 f hf hρ hk hv⟩⟩
    ·rename_i sz rows QQ rows'
     have key:sz=QQ/\((c=none/\rows'=rows)\/∃k,c=some k/\k<=rows.length/\rows'=rows.take k)/\leH m h l r K:=by cases c with|none=>obtain⟨a1,a2,a4⟩:=(show _/\_/\_ from hh);exact⟨a1,.inl ⟨rfl,a2.symm⟩,a4⟩|some k=>obtain⟨a0,a1,a2,a4⟩:=(show _/\_/\_/\_ from hh);exact⟨a1,.inr ⟨k,rfl,a0,a2.symm⟩,a4⟩
     obtain⟨rfl,k2,hh⟩:=key;exact one (.refl r) hh fun f hf=> .inr ⟨o0,c,_,hf _ _ hr,hy,.inr (.inr (.inl ⟨sz,rows,rows',rfl,rfl,k2⟩))⟩
    ·rename_i fr sz rows QQ rows'
     cases c with
     | some _=>exact hh.elim
     | none=>obtain⟨rfl,a2,rfl,a4⟩:=(show _/\_/\_/\_ from hh);exact one (.refl r) a4 fun f hf=> .inr ⟨o0,none,_,hf _ _ hr,hy,.inr (.inr (.inr (.inl ⟨rfl,fr,sz,rows,rfl,a2,rfl⟩)))⟩
    ·rename_i sz rows fr' QQ rows'
     cases c with
     | some _=>exact hh.elim
     | none=>obtain⟨rfl,rfl,a3,a4⟩:=(show _/\_/\_/\_ from hh);exact one (.refl r) a4 fun f hf=> .inr ⟨o0,none,_,hf _ _ hr,hy,.inr (.inr (.inr (.inr (.inl ⟨rfl,sz,rows',fr',rfl,rfl,fun e=>by subst e;simpa using a3⟩))))⟩
    ·rename_i kk es kk' R6
     cases c with
     | some _=>exact hh.elim
     | none=>obtain⟨rfl,rfl,a4⟩:=(show _/\_/\_ from hh);exact one (.refl r) a4 fun f hf=> .inr ⟨o0,none,_,hf _ _ hr,hy,.inr (.inr (.inr (.inr (.inr ⟨rfl,kk,es,rfl,rfl⟩))))⟩
    ·exact hh.elim
   ·exact hh.elim
  ·exact hh.elim
theorem lM:∀{h:List (Id×Option AO)} {o:Id} {x:AO},cI h o=some x->(o,some x)∈h
 | [],_,_,h=>by simp[cI]at h
 |(i,y)::r,o,x,h=>by
  rw[cI]at h
  cases hb:gw o i with|true=>rw[hb]at h;have:=idEq_iff.1 hb;subst this;simp only[cond_true]at h;rw[h];simp|false=>rw[hb]at h;exact w6 _ (lM h)
theorem ka:∀(fr:List (Nat×AV)) (t:Nat),eb fr t= .unk\/(t,eb fr t)∈fr
 | [],_=> .inl rfl
 |(i,y)::r,t=>by
  rw[eb]
  cases hb:Nat.beq t i with|true=>have:=t8 hb;subst this;right;simp|false=>exact(ka r t).imp id (w6 _)
theorem zn:∀{r:Ren} {o' o:Id} {c:Option Nat},jF r o'=some (some (o,c))->Ag o r=true
 | [],_,_,_,h=>by simp[jF]at h
 |(i,x)::r,o',o,c,h=>by
  rw[jF]at h
  cases hb:gw o' i with
  | true=>
   rw[hb]at h;simp only[cond_true,Option.some.injEq]at h;subst h
   simp[Ag,idEq_iff.2 rfl]
  | false=>
   rw[hb]at h;have:=zn (r:=r) h
   cases x<;>simp[Ag,this]
theorem uE:∀{r:Ren} {o1 o2 o:Id} {c1 c2:Option Nat},zc r=true->jF r o1=some (some (o,c1))->jF r o2=some (some (o,c2))->o1=o2
 | [],_,_,_,_,_,_,h,_=>by simp[jF]at h
 |(i,x)::r,o1,o2,o,c1,c2,hr,h1,h2=>by
  rw[jF]at h1 h2
  have Uz:zc r=true:=by cases x with|none=>exact hr|some p=>simp only[zc,d5]at hr;exact hr.2
  have QR:∀c,x=some (o,c)->Ag o r=false:=fun c hx=>by
   subst hx;simp only[zc,d5,v4]at hr;exact hr.1
  cases Sg:gw o1 i with
  | true=>
   rw[Sg]at h1;simp only[cond_true,Option.some.injEq]at h1
   cases Rb:gw o2 i with
   | true=>exact(idEq_iff.1 Sg).trans (idEq_iff.1 Rb).symm
   | false=>
    rw[Rb]at h2;have:=zn (r:=r) h2;rw[QR c1 h1]at this
    cases this
  | false=>
   rw[Sg]at h1
   cases Rb:gw o2 i with
   | true=>
    rw[Rb]at h2;simp only[cond_true,Option.some.injEq]at h2;have:=zn (r:=r) h1;rw[QR c2 h2]at this
    cases this
   | false=>rw[Rb]at h2;exact uE Uz h1 h2
theorem mT {u:List Nat}:∀{l:List Id},vp u l=true->∀o∈l,used u o.1=true
 | [],_,o,ho=>by cases ho
 | i::l,h,o,ho=>by
  simp only[vp,d5]at h;rcases d8.1 ho with rfl|ho
  ·exact h.1
  ·exact mT h.2 o ho
theorem BF {u:List Nat}:∀{l:List (Nat×AV)},Ds u l=true->∀t v,(t,v)∈l->∀o∈v.ids,used u o.1=true
 | [],_,t,v,hm=>by cases hm
 |(i,x)::l,h,t,v,hm=>by
  simp only[Ds,d5]at h;rcases d8.1 hm with he|hm
  ·injection he with e1 e2;subst e2;exact mT h.1
  ·exact BF h.2 t v hm
theorem ux {u:List Nat}:∀{l:List (Id×Option AO)},usedH u l=true->∀o x,(o,some x)∈l->used u o.1=true/\∀o'∈x.ids,used u o'.1=true
 | [],_,t,v,hm=>by cases hm
 |(i,none)::l,h,o,x,hm=>by
  rcases d8.1 hm with he|hm
  ·injection he with e1 e2;cases e2
  ·exact ux (l:=l) h o x hm
 |(i,some y)::l,h,o,x,hm=>by
  simp only[usedH,d5]at h;rcases d8.1 hm with he|hm
  ·injection he with e1 e2;injection e2 with e2;subst e1;subst e2;exact⟨h.1,mT h.2.1⟩
  ·exact ux h.2.2 o x hm
theorem RT.flat {w:World}{ok ok':Nat->Prop}{v:Value}{t:Tr}(h:RT w ok v t)(hf:∀sz rs,t≠.lst sz rs):RT w ok' v t:=by cases h with|int k n=>exact .int k n|bool b=>exact .bool b|str s=>exact .str s|emp _ _ sz=>exact absurd rfl (hf _ _)|lst=>exact absurd rfl (hf _ _)
theorem RTs.flat {w:World}{ok ok':Nat->Prop}:∀{vs:List Value} {ts:List Tr},RTs w ok vs ts->(∀t∈ts,∀sz rs,t≠.lst sz rs)->RTs w ok' vs ts
 | [],[],_,_=>trivial
 | _::_,_::_,h,hf=>⟨h.1.flat (hf _ s_),RTs.flat h.2 fun t ht=>hf t (by simp[ht])⟩
 | [],_::_,h,_=>h.elim
 | _::_,[],h,_=>h.elim
theorem ny {α:Type}{sz:Nat}:∀{rows:List (List α)} (k:Nat),(∀r∈rows,r.length=sz)->k<=rows.length->(rows.take k).flatten=rows.flatten.take (k*sz)
 | _,0,_,_=>s_
 | [],_+1,_,h=>by simp at h
 | r::rows,k+1,hu,h=>by
  have hr:=hu r s_;rw[s5,t7,t7,ny k (fun r hr=>hu r aaX) aap,I3,hr];rw[gt (l:=r) (by rw[hr,p8];omega)];congr 2;rw[p8];omega
theorem DW:∀{r:Ren} {o:Id} {x:Option (Id×Option Nat)},jF r o=some x->(o,x)∈r
 | [],_,_,h=>by simp[jF]at h
 |(i,y)::r,o,x,h=>by
  rw[jF]at h
  cases hb:gw o i with|true=>rw[hb]at h;have:=idEq_iff.1 hb;subst this;simp only[cond_true,Option.some.injEq]at h;subst h;simp|false=>rw[hb]at h;exact w6 _ (DW h)
theorem RDs.take {ρ ρ':Rho}{w:World}{ok ok':Nat->Prop}{sz n:Nat}{Fp:Nat->Nat->Prop}{us:List Value}{cs:List DC}(h:RDs ρ w ok sz none Fp us cs)(hk:∀b,ok b->ok' b):RDs ρ' w ok' sz none Fp (us.take n) (cs.take n):=by
 refine⟨by rw[k0,k0,h.1],fun p v c hv hc=>?_⟩;rw[n7]at hv hc;split at hv
 ·rename_i hp;rw[b9 hp]at hc;have:=h.2 p v c hv hc;simp only[cT]at this⊢;exact this.keep (fun b hb=>⟨rfl,hk b hb⟩) fun b hb=>⟨rfl,hb⟩
 ·cases hv
theorem V128{p:Prop}(h:p:=by
 rw[G2,k0,z7 P6];congr 1
 exact(z7 (m5 _ P6)).symm):p:=h
theorem Leq.ok' (hM:m=true->(∀b,¬M b)/\∀o,w0.fx o=none)(hF:∀o v,w0.fx o=some v->o.1=0)(h:Leq m st O5)(hc:Conc N B M w0 ρ st.fs a w):∃ρ',Conc N B M w0 ρ' O5.fs a w/\
  (∀b,okB ρ st.fs.H w b->okB ρ' O5.fs.H w b)/\
  ∀(t:Nat) (v:Value) (ok ok':Nat->Prop),(∀b,ok b->ok' b)->RV B ρ w ok v (eb st.fr t)->RV B ρ' w ok' v (eb O5.fr t):=by
 obtain⟨hu,h⟩:=h;rw[d5,d5]at hu;obtain⟨hu,hu0⟩:=hu;obtain⟨r1,_,hL,h⟩:=Iz h;obtain⟨f,h1,hH,hr0⟩:=HL h;rw[d5]at hr0;obtain⟨hr,hP⟩:=hr0;have hL:=hL f h1;have hH:=hH f (.refl f)
 let ρ':Rho:=⟨vr ρ f,fun o c=>(∃sz rows hole,O5.fs.H o=some (.dar sz rows hole))/\∃q k,jF f o=some (some (q,k))/\ρ.fp q c,ρ.al⟩
 have hρ:∀o,ρ' o=vr ρ f o:=fun _=>rfl;have SV:∀{o:Id} {x:Option (Id×Option Nat)},jF f o=some x->ρ' o=vrv ρ x:=fun e=>wB e;refine⟨ρ',?_⟩
 have old:∀o x b,O5.fs.H o=some x->Own ρ' o b->∃q y c,jF f o=some (some (q,c))/\st.fs.H q=some y/\Own ρ q b:=by
  intro o x b ho hb;rcases hH o x (lM ho)with⟨g1,_⟩|⟨q,c,y,g1,g2,_⟩
  ·rcases hb with hb|⟨_,q,k,e,_⟩
   ·rw[SV g1]at hb;simp[vrv,blk]at hb
   ·rw[g1]at e;cases e
  ·refine⟨q,y,c,g1,g2,?_⟩;rcases hb with hb|⟨_,q',k,e,hf⟩
   ·left;rw[SV g1]at hb
    cases c with
    | none=>exact hb
    | some k=>
     simp only[vrv]at hb;split at hb
     ·rename_i A n cc e;rw[e]
      cases A<;>exact hb
     ·exact hb
   ·rw[g1]at e;injection e with e;injection e with e;injection e with e1 e2;subst e1;exact .inr hf
 have hk:∀b,okB ρ st.fs.H w b->okB ρ' O5.fs.H w b:=by intro b hb;refine⟨hb.1,fun o x ho he=>?_⟩;obtain⟨q,y,_,_,g2,g3⟩:=old o x b ho he;exact hb.2 q y g2 g3
 refine⟨?_,hk,fun t v ok ok' O7 hv=>?_⟩
 rotate_left
 ·rcases ka O5.fr t with e|hm
  ·rw[e];trivial
  ·exact hL t _ hm hρ O7 hv
 refine⟨hc.size,hc.defers,fun t=>?_,fun o x ho=>?_,fun o o' x x' b ho QL P2 he Rd=>?_,fun o x b ho he=>?_,hc.keep,hc.base,hc.alw,hc.cst,fun o v hv=>?_,fun t o ho=>?_,fun o x ho=>?_⟩
 ·rcases ka O5.fr t with e|hm
  ·show RV _ _ _ _ _ (eb O5.fr t);rw[e];trivial
  ·exact hL t _ hm hρ hk (hc.slot t)
 ·rcases hH o x (lM ho)with⟨g1,⟨fr,sz,rfl⟩|⟨sz,rfl⟩⟩|⟨q,c,y,g1,g2,g3⟩
  ·exact⟨fun r hr=>(by cases hr),.inl ⟨SV g1,rfl⟩⟩
  ·exact⟨fun r hr=>(by cases hr),.inl ⟨SV g1,rfl,rfl⟩⟩
  ·have Rj:=hc.obj q y g2;have P8:=SV g1;rcases g3 with⟨rfl,xs,ys,rfl,rfl,g4⟩|⟨fr,sz,rows,fr',rows',rfl,rfl,g4,g5⟩|⟨sz,rows,rows',rfl,rfl,g5⟩|⟨rfl,fr,sz,rows,rfl,P7,rfl⟩|⟨rfl,sz,rows,fr,rfl,rfl,SH⟩|⟨rfl,kk,es,rfl,rfl⟩
   ·obtain⟨b,cur,t,fz,k1,k2,k3,k4⟩:=Rj;exact⟨b,cur,t,fz,by rw[P8];exact k1,k2,k3,g4 hρ hk k4⟩
   ·obtain⟨Xp,Rj⟩:=Rj
    have Ra:∀r∈rows',r∈rows:=by
     rcases g5 with⟨_,rfl⟩|⟨k,_,_,rfl⟩
     ·exact fun r h=>h
     ·exact fun r h=>u5 h
    refine⟨fun r hr=>Xp r (Ra r hr),?_⟩;rcases Rj with⟨k1,k2⟩|⟨b,cap,cur,e,fz,k1,k2,k3,k4,k5,k6,k7,k8⟩
    ·subst k2;left;rcases g5 with⟨rfl,rfl⟩|⟨k,rfl,P6,rfl⟩
     ·exact⟨by rw[P8];exact k1,rfl⟩
     ·simp only[e8,Nat.le_zero]at P6;subst P6;exact⟨by rw[P8];simp only[vrv,k1],s_⟩
    ·right;have hB:m=true->B<=b:=fun hm=>((hc.rng q _ b g2 (.inl (by rw[k1];rfl))).2).resolve_right ((hM hm).1 b)
     have tup:∀{l:List Value},RTs w (okF B (okB ρ st.fs.H w) fr) l rows'.flatten->RTs w (okF B (okB ρ' O5.fs.H w) fr') l rows'.flatten:=by
      intro l hl
      cases fr' with
      | false=>exact hl.keep fun b hb=>⟨rfl,hk b hb.1,fun e=>by cases e⟩
      | true=>
       cases fr with
       | true=>exact hl.keep fun b hb=>⟨rfl,hk b hb.1,hb.2⟩
       | false=>refine hl.flat fun t ht=>?_;obtain⟨row,h1,h2⟩:=G8.1 ht;exact g4.2 row h1 t h2
     have SH:fr'=true->B<=b:=by
      intro e;subst e
      cases fr with|true=>exact k8 rfl|false=>exact hB g4.1
     rcases g5 with⟨rfl,rfl⟩|⟨k,rfl,P6,rfl⟩
     ·exact⟨b,cap,cur,e,fz,by rw[P8];exact k1,k2,k3,k4,k5,k6,tup k7,SH⟩
     ·refine⟨b,cap,cur,e,fz,?_,k2,k3,?_,k5,k6,tup ?_,SH⟩
      ·rw[P8];simp only[vrv,k1,k0,z7 P6]
      ·simp only[k0];omega
      ·rw[ny k Xp P6]
       have:cur.toList.take ((rows.take k).length*sz)=(cur.toList.take (rows.length*sz)).take (k*sz):=by exact V128
       rw[this];exact k7.take _
   ·obtain⟨Xp,Rj⟩:=Rj
    have Ra:∀r∈rows',r∈rows:=by
     rcases g5 with⟨_,rfl⟩|⟨k,_,_,rfl⟩
     ·exact fun r h=>h
     ·exact fun r h=>u5 h
    refine⟨fun r hr=>Xp r (Ra r hr),?_⟩;rcases Rj with⟨k1,k2,_⟩|⟨b,cap,cur,e,fz,Fp,k1,k2,k3,k4,k5,k6,k7,k8,k9⟩
    ·subst k2;left;rcases g5 with⟨rfl,rfl⟩|⟨k,rfl,P6,rfl⟩
     ·exact⟨by rw[P8];exact k1,rfl,rfl⟩
     ·simp only[e8,Nat.le_zero]at P6;subst P6;exact⟨by rw[P8];simp only[vrv,k1],s_,rfl⟩
    ·right;have Ta:∀p d,Fp p d->ρ'.fp o d/\d≠b:=fun p d hd=>⟨⟨⟨_,_,_,ho⟩,q,c,g1,(k7 p d hd).1⟩,(k7 p d hd).2⟩;rcases g5 with⟨rfl,rfl⟩|⟨k,rfl,P6,rfl⟩
     ·exact⟨b,cap,cur,e,fz,Fp,by rw[P8];exact k1,k2,k3,k4,k5,k6,Ta,k8,k9.keep (fun c O8=>⟨rfl,hk c O8⟩) (fun p c O8=>⟨rfl,O8⟩) fun _ _ _ e=>by cases e⟩
     ·refine⟨b,cap,cur,e,fz,Fp,?_,k2,k3,?_,k5,k6,Ta,k8,?_⟩
      ·rw[P8];simp only[vrv,k1,k0,z7 P6]
      ·simp only[k0];omega
      ·rw[ny k Xp P6]
       have:cur.toList.take ((rows.take k).length*sz)=(cur.toList.take (rows.length*sz)).take (k*sz):=by exact V128
       rw[this];exact k9.take hk
   ·exact(Ia hc g2 P7).toDar P8 fun d hd P2=>hd.elim (fun e=>absurd e P2) fun hd=>⟨⟨_,_,_,ho⟩,q,none,g1,hd⟩
   ·obtain⟨Xp,Rj⟩:=Rj;refine⟨fun r hr=>?_,?_⟩
    ·have:=Xp (r.map .d) (q7.2 ⟨r,hr,rfl⟩);simpa using this
    have O2:(aw rows).length=rows.length:=(by simp[aw]);rcases Rj with⟨k1,k2,_⟩|⟨b,cap,cur,e,fz,Fp,k1,k2,k3,k4,k5,k6,k7,k8,k9⟩
    ·left;exact⟨by rw[P8];exact k1,by simpa [aw]using k2⟩
    ·right;rw[O2]at k1 k4 k9;rw[nT]at k9;have aa7:∀d,Own ρ q d->fr=true->B<=d:=fun d hd e=>((hc.rng q _ d g2 hd).2).resolve_right ((hM (SH e)).1 d);have hb:Own ρ q b:= .inl (by rw[k1];rfl)
     have hin:∀p d,Fp p d->okF B (okB ρ' O5.fs.H w) fr d:=fun p d hd=>by
      obtain⟨Zq,hd2⟩:=k7 p d hd;have Rk:=hc.rng q _ d g2 (.inr Zq);refine⟨⟨⟨Rk.1,hc.alw d Rk.2⟩,fun o2 x2 WO S8=>?_⟩,aa7 d (.inr Zq)⟩;obtain⟨q2,y2,c2,e1,e2,e3⟩:=old o2 x2 d WO S8;by_cases e:q2=q
      ·subst e;have:=uE hr e1 g1;subst this;rcases S8 with S8|⟨⟨_,_,_,S8⟩,_⟩
       ·rw[P8]at S8;simp only[vrv,k1,blk]at S8;injection S8 with S8;exact hd2 S8.symm
       ·rw[ho]at S8;injection S8 with S8;cases S8
      ·exact hc.sep q2 q y2 _ d e2 g2 e e3 (.inr Zq)
     refine⟨b,cap,cur,e,fz,by rw[P8];exact k1,k2,k3,k4,k5,k6,RTs.of (by rw[k9.1,d9]) fun p v t hv ht=>?_,aa7 b hb⟩;have:=k9.2 p v (.d t) hv (by rw[j9,ht];rfl);simp only[cT]at this;exact DT.toRT this (hin p)
   ·obtain⟨b,ents,clock,k1,k2,k3⟩:=Rj;exact⟨b,ents,clock,by rw[P8];exact k1,k2,k3⟩
 ·obtain⟨q,y,c,g1,g2,g3⟩:=old o x b ho he;obtain⟨q',y',c',g4,g5,g6⟩:=old o' x' b QL Rd;by_cases e:q=q'
  ·subst e;exact P2 (uE hr g1 g4)
  ·exact hc.sep q q' y y' b g2 g5 e g3 g6
 ·obtain⟨q,y,c,g1,g2,g3⟩:=old o x b ho he;exact hc.rng q y b g2 g3
 ·cases m with
  | true=>rw[(hM rfl).2 o]at hv;cases hv
  | false=>
   have h0:=hF o v hv;simp only[A8]at hP hu0;refine⟨?_,by show used O5.u o.1=true;rw[h0];exact hu0⟩;have e:=(hc.N5 o v hv).1;rw[hρ];unfold vr
   cases hg:jF f o with
   | none=>exact e
   | some x=>
    have:=n9.1 hP _ (DW hg);simp only[h0,Nat.beq_refl,Bool.not_true,A8]at this;split at this
    ·rename_i o1;rw[idEq_iff]at this;subst this;exact e
    ·cases this
 ·rcases ka O5.fr t with e|hm
  ·simp only[St.fs]at ho;rw[e]at ho;simp[AV.ids]at ho
  ·exact BF hu.1 t _ hm o ho
 ·exact ux hu.2 o x (lM ho)
theorem Leq.ok (hM:m=true->(∀b,¬M b)/\∀o,w0.fx o=none)(hF:∀o v,w0.fx o=some v->o.1=0)(h:Leq m st O5)(hc:Conc N B M w0 ρ st.fs a w):∃ρ',Conc N B M w0 ρ' O5.fs a w:=
 let ⟨ρ',h,_⟩:=h.ok' hM hF hc
 ⟨ρ',h⟩
theorem lS:∀(l:List Id) (st:St) (K:St->Prop) (ρ:Rho),jW l st K->Conc N B M w0 ρ st.fs a w->(∀o∈l,True)->∃st1 ρ1,K st1/\Conc N B M w0 ρ1 st1.fs a w/\st1.fr=st.fr
 | [],st,K,ρ,h,hc,_=>⟨st,ρ,h,hc,rfl⟩
 | o::l,st,K,ρ,h,hc,_=>by
  obtain⟨H',us,R,h1,h2⟩:=rr h;rw[vx]at h1;obtain⟨⟨ρ1,ST⟩,_⟩:=h2 hc fun _ _=>rfl;have TD:(⟨st.fs.L,cD st.fs.H us,st.fs.U⟩:F_)=(⟨st.fr,wo us st.h,st.u⟩:St).fs:=F_.ext' (fun _=>rfl) (fun o=>(pT us st.h o).symm) fun _=>Iff.rfl;rw[TD]at ST;obtain⟨st1,ρ2,g1,g2,g3⟩:=lS l _ K ρ1 h1 ST fun _ _=>trivial;exact⟨st1,ρ2,g1,g2,g3⟩
theorem LeqG.ok (hM:m=true->(∀b,¬M b)/\∀o,w0.fx o=none)(hF:∀o v,w0.fx o=some v->o.1=0)(h:LeqG m st O5)(hc:Conc N B M w0 ρ st.fs a w):∃ρ',Conc N B M w0 ρ' O5.fs a w:=by obtain⟨st1,ρ1,g1,g2,_⟩:=lS _ st _ ρ h hc fun _ _=>trivial;exact g1.ok hM hF g2
theorem xx {st:St}{c:Operand}{b:Bool}(h:evL (eb st.fr) c=tB b):(Az st c b).fs=st.fs:=by
 unfold Az;split
 ·exact Aa h
 ·rfl
theorem V23{p:Prop}(h:p:=by
 cases e with
 | normal=>exact hQ .normal _ _ _ _ hK O8
 | ret=>exact hQ .ret _ _ _ _ hK O8
 | pan v=>exact hQ (.pan v) _ _ _ _ hK O8
 | exit id'=>
  show if id'=id then _ else _
  by_cases he:id'=id
  ·rw[b9 he];subst he;simp only[Nat.beq_refl]at hK;exact hQ .normal _ _ _ _ hK O8
  ·rw[b8 he];have:Nat.beq id' id=false:=(by cases hb:Nat.beq id' id with|false=>rfl|true=>exact absurd (t8 hb) he);simp only[this]at hK
   exact hQ (.exit id') _ _ _ _ hK O8):p:=h
theorem V1{p:Prop}(h:p:=by
 obtain⟨ι,S,μ,i0,h0,hS⟩:=h;obtain⟨ρ0,Tw⟩:=h0.ok hM hF hc
 have key:∀n i (ρ:Rho) (a:Act) (w:World),μ i<=n->Conc N B M w0 ρ (S i).fs a w->∀(b:Frame) (k:List Item) (cs:List Frame),
   ∃e a' w',Q e a' w'/\Arrives P (lone (b.at a (.code c:: .inLoop c::k)) cs w) b k cs e a' w':=by
  intro n
  induction n with
  | zero=>
   intro i ρ a w hi hc b k cs
   obtain⟨e,a1,w1,hq,SD⟩:=ih _ (S i) ρ a w (fun e a' w'=>match e with|.normal=>False|e=>Q e a' w') (hS i) hc (fun e O5 ρ' a' w' hK O8=>by
    cases e with
    | normal=>obtain⟨j,_,hj⟩:=hK;exact absurd hj o_
    | exit id=>exact hQ (.exit id) _ _ _ _ hK O8
    | pan v=>exact hQ (.pan v) _ _ _ _ hK O8
    | ret=>exact hQ .ret _ _ _ _ hK O8) b (.inLoop c::k) cs
   cases e with|normal=>exact hq.elim|exit id=>exact⟨_,a1,w1,hq,.pass (x:= .inLoop c) rfl (fun _ _=> .inl s_) SD⟩|goto l=>exact⟨_,a1,w1,hq,.pass (x:= .inLoop c) rfl (fun _ _=> .inl s_) SD⟩|ret=>exact⟨_,a1,w1,hq,.pass (x:= .inLoop c) rfl (fun _ _=> .inl s_) SD⟩|panic ch=>exact⟨_,a1,w1,hq,.pass (x:= .inLoop c) rfl (fun _ _=> .inl s_) SD⟩|outgrown=>exact⟨_,a1,w1,hq,.pass (x:= .inLoop c) rfl (fun _ _=> .inl s_) SD⟩
  | succ n ihn=>
   intro i ρ a w hi hc b k cs
   obtain⟨e,a1,w1,hq,SD⟩:=ih _ (S i) ρ a w (fun e a' w'=>match e with|.normal=>∃j ρ',μ j<=n/\Conc N B M w0 ρ' (S j).fs a' w'|e=>Q e a' w') (hS i) hc (fun e O5 ρ' a' w' hK O8=>by
    cases e with
    | normal=>obtain⟨j,hj1,T3⟩:=hK;obtain⟨ρ'',VT⟩:=hj1.ok hM hF O8;exact⟨j,ρ'',o_,VT⟩
    | exit id=>exact hQ (.exit id) _ _ _ _ hK O8
    | pan v=>exact hQ (.pan v) _ _ _ _ hK O8
    | ret=>exact hQ .ret _ _ _ _ hK O8) b (.inLoop c::k) cs
   cases e with
   | normal=>
    obtain⟨j,ρ',hj,O8⟩:=hq;obtain⟨e2,a2,w2,Yx,aaH⟩:=ihn j ρ' a1 w1 hj O8 b k cs
    exact⟨e2,a2,w2,Yx,.of_steps (Steps.trans SD (.one step_inLoop)) aaH⟩
   | exit id=>exact⟨_,a1,w1,hq,.pass (x:= .inLoop c) rfl (fun _ _=> .inl s_) SD⟩
   | goto l=>exact⟨_,a1,w1,hq,.pass (x:= .inLoop c) rfl (fun _ _=> .inl s_) SD⟩
   | ret=>exact⟨_,a1,w1,hq,.pass (x:= .inLoop c) rfl (fun _ _=> .inl s_) SD⟩
   | panic ch=>exact⟨_,a1,w1,hq,.pass (x:= .inLoop c) rfl (fun _ _=> .inl s_) SD⟩
   | outgrown=>exact⟨_,a1,w1,hq,.pass (x:= .inLoop c) rfl (fun _ _=> .inl s_) SD⟩
 intro b k cs;obtain⟨e,a',w',hq,SD⟩:=key (μ i0) i0 ρ0 a w (d7 _) Tw b k cs
 exact⟨e,a',w',hq,.of_steps (.one step_loop) SD⟩):p:=h
theorem PJ (hΓ:Γ.chk P=true)(aF:P.follows .mixedOrders=true)(hM:m=true->(∀b,¬M b)/\∀o,w0.fx o=none)(hF:∀o v,w0.fx o=some v->o.1=0):
  ∀(c:Code) (K:Out->St->Prop) (st:St) (ρ:Rho) (a:Act) (w:World) (Q:Exit->Act->World->Prop),W m P Γ N c K st->Conc N B M w0 ρ st.fs a w->
   (∀e O5 ρ' a' w',K e O5->Conc N B M w0 ρ' O5.fs a' w'->Q e.at a' w')->c.wp P Q a w:=by
 intro c
 induction c with
 | skip=>intro K st ρ a w Q h hc hQ;exact wp_skip (hQ .normal _ _ _ _ h hc)
 | label l=>intro K st ρ a w Q h hc hQ;exact wp_label (hQ .normal _ _ _ _ h hc)
 | exit id=>intro K st ρ a w Q h hc hQ;exact wp_exit (hQ (.exit id) _ _ _ _ h hc)
 | ret=>intro K st ρ a w Q h hc hQ;exact wp_ret (hQ .ret _ _ _ _ h hc)
 | goto l=>intro K st ρ a w Q h;exact h.elim
 | refuse y=>intro K st ρ a w Q h;exact h.elim
 | scope b _=>intro K st ρ a w Q h;exact h.elim
 | rangeFunc f ps x y _ _=>intro K st ρ a w Q h;exact h.elim
 | region id ops draw=>
  intro K st ρ a w Q h hc hQ
  cases draw with
  | false=>
   obtain⟨es,O5,h1,h2,h3,h4⟩:=xF hΓ ops.toList st [] _ h;refine wp_region_list ?_;have:=vf (P:=P) (N:=N) (ops:=ops.toList) (B:=B) (M:=M) (w0:=w0) (Q:=Q) ops.toList es st.fs ρ a w h2 hc fun ρ' a' w' O8=>hQ .normal O5 ρ' a' w' h4 (by rw[h3];exact O8)
   simpa using this
  | true=>
   have Sa:∀i o,ops.toList[i]?=some o->(Array.replicate ops.size false).getD i true=true->∀j∈dG o,(Array.replicate ops.size false).getD j true=true:=fun i o ho hl=>by
    have hi:i<ops.size:=by
     rcases n5 i ops.size with h'|h'
     ·exact h'
     ·rw[e9 (by simpa using h')]at ho;cases ho
    simp[s9,hi]at hl
   have O8:∀es:List (Bool×Eff),Conc N B M w0 ρ (sel st.fs ops.toList es (fun i=>(Array.replicate ops.size false).getD i true) 0) a {w with drawn:=w.drawn+1}:=by
    intro es
    rw[ph _ _ _ _ _ fun i _ hi=>by
     have:i<ops.size:=by simpa using hi
     simp[s9,this]]
    exact hc.step (fun _=>False) [] (Turn.drew _ w) hc.size hc.defers (fun _ _=>rfl) (fun _ _ _ _=>rfl) rfl (fun _ _=>rfl) (fun _ h=>h) (fun _ _ h=>h) (fun _ _ _ _ _ _ h=>h) (fun _ _ _ h=>h)
     (fun o x b h=>by cases h) (fun o o' x x' b h=>by cases h) (fun _ o x h=>by cases h) (fun _ t=> .inl ⟨rfl,rfl⟩)
   refine wp_region_any aF ?_;rcases h with h|⟨xi,xj,h⟩
   ·obtain⟨es,O5,h1,h2,h3,h4,h5⟩:=xF hΓ ops.toList st [] _ h;simp only[m7,List.reverse_reverse]at h4
    have:=JY (P:=P) (N:=N) (ops:=ops.toList) (B:=B) (M:=M) (w0:=w0) (Q:=Q) st.fs es h1 h2 h4 (fun ρ' a' w' O8=>hQ .normal O5 ρ' a' w' h5 (by rw[h3];exact O8))
     ops.size (Array.replicate ops.size false) ρ a _ s_ s_ Sa (O8 es)
    simpa using this
   ·obtain⟨es,O5,h1,h2,O4,h4,⟨oi,oj,bj,ei,ej,g1,g2,g3,g4,g5⟩,h3,h5⟩:=Ll hΓ h
    have:=HC (P:=P) (N:=N) (ops:=ops.toList) (B:=B) (M:=M) (w0:=w0) (Q:=Q) st.fs es h1 h2 O4 h4 g1 g2 g3 g4 g5 (fun ρ' a' w' O8=>hQ .normal O5 ρ' a' w' h5 (by rw[h3];exact O8))
     ops.size (Array.replicate ops.size false) ρ a _ s_ s_ Sa (O8 es)
    simpa using this
 | seq x y ihx ihy=>
  intro K st ρ a w Q h hc hQ;rcases h with h|⟨ι,S,h,h2⟩
  ·refine wp_seq (ihx _ st ρ a w _ h hc fun e O5 ρ' a' w' hK O8=>?_)
   cases e with|normal=>exact ihy K O5 ρ' a' w' Q hK O8 hQ|exit id=>exact hQ (.exit id) _ _ _ _ hK O8|pan v=>exact hQ (.pan v) _ _ _ _ hK O8|ret=>exact hQ .ret _ _ _ _ hK O8
  ·refine wp_seq (ihx _ st ρ a w _ h hc fun e O5 ρ' a' w' hK O8=>?_)
   cases e with|normal=>obtain⟨i,hi⟩:=hK;obtain⟨ρ'',VT⟩:=hi.ok hM hF O8;exact ihy K (S i) ρ'' a' w' Q (h2 i) VT hQ|exit id=>exact hQ (.exit id) _ _ _ _ hK O8|pan v=>exact hQ (.pan v) _ _ _ _ hK O8|ret=>exact hQ .ret _ _ _ _ hK O8
 | cond c x y ihx ihy=>
  intro K st ρ a w Q h hc hQ;rw[W]at h;split at h
  ·rename_i b hb;have hv:=(hc.eval c).1;rw[show evL st.fs.L c=tB b from hb]at hv;refine wp_cond (gK hv) ?_
   cases b with|true=>exact ihx K _ ρ a w Q h abg hQ|false=>exact ihy K _ ρ a w Q h abg hQ
  ·exact h.elim
 | block id c ih=>
  intro K st ρ a w Q h hc hQ;refine wp_block (ih _ st ρ a w _ h hc fun e O5 ρ' a' w' hK O8=>?_)
  exact V23
 | loop c ih=>intro K st ρ a w Q h hc hQ;exact V1
end
def TV.av:TV->AV
 | .c x=> .r (.c (.t x))
 | .agg xs=> .r (.agg (xs.map .t))
def yb:Nat->List TV->List (Nat×AV)
 | _,[]=>[]
 | i,t::ts=>(i,t.av)::yb (i+1) ts
def st0 (ts:List TV):St:=⟨yb 0 ts,[],[]⟩
def HA:AC->Prop
 | .t x=>(match x with
   | .lst _ _=>False
   | _=>True)
 | _=>True
def CP:List AC->Prop
 | []=>True
 | c::cs=>HA c/\CP cs
def Dd:AR->Prop
 | .c x=>HA x
 | .agg cs=>CP cs
def xU:List AR->Prop
 | []=>True
 | c::cs=>Dd c/\xU cs
def ui:List (Id×AO)->Bool
 | []=>true
 |(o,_)::l=>!(l.any fun p=>gw o p.1)&&ui l
def Oz (Γ:Env)(st:St):ResultVar->Option AR
 | .tmp t=>(match eb st.fr t with
   | .r x=>some x
   | _=>none)
 | .cell a T=>(match eb st.fr a,Γ.get T with
   | .r (.c (.ptr o 0)),some ti=>(match cI st.h o with
    | some (.box cells)=>(match ti.agg,Nat.beq cells.length ti.size,cells with
      | true,true,cs=>some (.agg cs)
      | false,true,[c]=>some (.c c)
      | _,_,_=>none)
    | _=>none)
   | _,_=>none)
def Cl (Γ:Env)(st:St):List ResultVar->Option (List AR)
 | []=>some []
 | rv::rvs=>(match Oz Γ st rv,Cl Γ st rvs with
   | some x,some xs=>some (x::xs)
   | _,_=>none)
def iU (v:AV)(st:St)(r:Res):Prop:=ui (r.os 0)=true/\Leq true ⟨[(0,v)],st.h,st.u⟩ ⟨[(0,r.av 0)],r.us 0,[0]⟩
def Pt (Γ:Env)(rvs:List ResultVar)(r:Res)(st:St):Prop:=
 match Cl Γ st rvs with|some [x]=>Dd x/\iU (.r x) st r|some xs=>xU xs/\iU (.tup xs) st r|none=>False
def fin (Γ:Env)(rvs:List ResultVar)(st:St)(r:Res):Prop:=jW (kG st.h []) st (Pt Γ rvs r)
def OQ (Γ:Env)(rvs:List ResultVar)(r:Res):Out->St->Prop
 | .exit _,_=>False
 | .pan _,_=>False
 | _,st=>fin Γ rvs st r
def Fy (Γ:Env)(rvs:List ResultVar)(r:AV)(h1:List (Id×AO))(st:St):Prop:=
 match Cl Γ st rvs with|some [x]=>Leq false ⟨[(0,.r x)],st.h,st.u⟩ ⟨[(0,r)],h1.map (fun p=>(p.1,some p.2)),[1,0]⟩|some xs=>Leq false ⟨[(0,.tup xs)],st.h,st.u⟩ ⟨[(0,r)],h1.map (fun p=>(p.1,some p.2)),[1,0]⟩|none=>False
def OV (Γ:Env)(rvs:List ResultVar)(r:AV)(h1:List (Id×AO)):Out->St->Prop
 | .exit _,_=>False
 | .pan _,_=>False
 | _,st=>jW (kG st.h []) st (Fy Γ rvs r h1)
structure Obl (p:Prop):Prop where
 out:p
theorem HX {P:Program}{f:FuncId}{H:Id->Option AO}{xs:List AV}{ts:List TV}{r:Res}{K:List TV->Res->Prop}(h:Sim.Spec P f ts r)(h1:fy H xs ts)(h2:K ts r):∃ts r,fy H xs ts/\Sim.Spec P f ts r/\K ts r:=
 ⟨ts,r,h1,h,h2⟩
theorem DS {P:Program}{f:FuncId}{nm:Nat}{args:List AV}{H:Id->Option AO}{K:Eff->Prop}{X:Prop}{xs:List AV}{h0:List (Id×AO)}{r:AV}{h1:List (Id×AO)}(h:bh P f xs h0 r h1)
  (h2:Me H [] [] args xs fun θ bw=>maO H θ bw h0 fun θ bw=>(okI θ bw h0&&okJ h0 r h1&&(bw.isEmpty||(LI r&&zv h1)))=true/\K ⟨r.re θ nm,usG θ nm h1,some nm,(θ.map (·.2))++(bw++args.flatMap AV.ids)⟩):X\/Nr P f nm args H K:=
 .inr ⟨xs,h0,r,h1,h,h2⟩
theorem ai {p q:Prop}(h:p)(k:q):p/\q:=And.intro h k
theorem oi {p q:Prop}(h:Obl p)(k:q):p/\q:=And.intro h.out k
theorem fi {b:Bool}{X Y:Prop}(h1:b=true->X)(h2:b=false->Y):ifB b X Y:=JF h1 h2
theorem ci {P:Program}{f:FuncId}{H:Id->Option AO}{xs:List AV}{ts:List TV}{r:Res}{K:List TV->Res->Prop}(h:Sim.Spec P f ts r)(h1:fy H xs ts)(h2:K ts r):∃ts r,fy H xs ts/\Sim.Spec P f ts r/\K ts r:=HX h h1 h2
theorem cl {P:Program}{f:FuncId}{H:Id->Option AO}{xs:List AV}{ts:List TV}{r:Res}{K:List TV->Res->Prop}{X:Prop}(h:Sim.Spec P f ts r)(h2:K ts r)(h1:fy H xs ts:=by first|((repeat' (first|exact trivial|refine And.intro ?_ ?_|exact rfl));done)|fail):(∃ts r,fy H xs ts/\Sim.Spec P f ts r/\K ts r)\/X:= .inl ⟨ts,r,h1,h,h2⟩
theorem cg {P:Program}{f:FuncId}{nm:Nat}{args:List AV}{H:Id->Option AO}{K:Eff->Prop}{X:Prop}{xs:List AV}{h0:List (Id×AO)}{r:AV}{h1:List (Id×AO)}(h:bh P f xs h0 r h1)
  (h2:Me H [] [] args xs fun θ bw=>maO H θ bw h0 fun θ bw=>(okI θ bw h0&&okJ h0 r h1&&(bw.isEmpty||(LI r&&zv h1)))=true/\K ⟨r.re θ nm,usG θ nm h1,some nm,(θ.map (·.2))++(bw++args.flatMap AV.ids)⟩):X\/Nr P f nm args H K:=DS h h2
theorem Wm {α:Type}{p:α->Prop}{a:α}{l:List α}(h:p a)(t:∀x∈l,p x):∀x∈a::l,p x:=List.forall_mem_cons.2 ⟨h,t⟩
theorem KO {p:Prop}(h:p:=by first|((with_reducible show vZ _ _=true);kernel_rfl)|((with_reducible show yo _ _=true);kernel_rfl)|rfl|exact trivial|((repeat' (first|exact trivial|refine And.intro ?_ ?_));done)|decide|((repeat' (first|exact H5 _|refine Wm rfl ?_));done)|(refine And.intro ?_ ?_<;>simp only[d9,c7,d6,e8]<;>omega)|fail):p:=h
theorem KP {p:Prop}(h:p:=by first|((with_reducible show vZ _ _=true);kernel_rfl)|((with_reducible show yo _ _=true);kernel_rfl)|rfl|exact trivial|((repeat' (first|exact trivial|refine And.intro ?_ ?_));done)|decide|((repeat' (first|exact H5 _|refine Wm rfl ?_));done)|fail):p:=h
theorem KR {p:Prop}(h:p:=by first|((with_reducible show vZ _ _=true);kernel_rfl)|((with_reducible show nO _ _ _ _=true);kernel_rfl)|((with_reducible show MM _ _ _ _ _ _);(conv=>whnf);rfl)|rfl|exact trivial|((repeat' (first|exact trivial|refine And.intro ?_ ?_));done)|decide|((repeat' (first|exact H5 _|refine Wm rfl ?_));done)|fail):p:=h
theorem KW {k:IntKind}{a b:Int}(h:a=b:=by first|rfl|(simp(disch:=omega)only[c8];done)|((try simp(disch:=omega)only[c8]);omega)):Tr.int k a=Tr.int k b:=congrArg (Tr.int k) h
theorem KX {p:Prop}(h:False:=by simp only[p6,i8]at *;omega):p:=h.elim
theorem KK {p:Prop}(h:False:=by simp only[w5,w3,ne_eq,i8,p6]at *;omega):p:=h.elim
theorem KN {p:Prop}(h:False:=by simp only[d9,d6,e8,w5,w3,ne_eq,i8,p6]at *;omega):p:=h.elim
section
variable {P:Program} {Γ:Env} {N B:Nat} {M:Nat->Prop} {w0:Start} {w:World} {ρ:Rho} {st O5:St} {a:Act}
theorem Bq {ok:Nat->Prop}{v:Value}{x:AC}(h:HA x)(hv:RC B ρ w ok v x):RC B ρ w (okF B ok true) v x:=by
 cases x with
 | t x=>cases x with|lst=>exact h.elim|int k n=>exact RT.flat hv s_|bool b=>exact RT.flat hv s_|str b=>exact RT.flat hv s_
 | f x=>exact RT.up (show RT w (okF B ok true) v x from hv) fun b hb=>⟨hb,hb.2⟩
 | nils sz=>exact hv
 | nilp=>exact hv
 | own o=>exact hv
 | sub o k=>exact hv
 | ptr o k=>exact hv
 | opq=>exact hv
 | mpv o=>exact hv
theorem zj {ok:Nat->Prop}:∀{vs:List Value} {xs:List AC},CP xs->RCs B ρ w ok vs xs->RCs B ρ w (okF B ok true) vs xs
 | [],[],_,_=>trivial
 | _::_,_::_,h,hv=>⟨Bq h.1 hv.1,zj h.2 hv.2⟩
 | [],_::_,_,h=>h.elim
 | _::_,[],_,h=>h.elim
theorem uB {ok:Nat->Prop}{v:Value}{x:AR}(h:Dd x)(hv:RR B ρ w ok v x):RR B ρ w (okF B ok true) v x:=by cases x with|c x=>exact Bq h hv|agg cs=>obtain⟨us,e,hu⟩:=hv;exact⟨us,e,zj h hu⟩
theorem ru {ok:Nat->Prop}:∀{vs:List Value} {xs:List AR},xU xs->RRs B ρ w ok vs xs->RRs B ρ w (okF B ok true) vs xs
 | [],[],_,_=>trivial
 | _::_,_::_,h,hv=>⟨uB h.1 hv.1,ru h.2 hv.2⟩
 | [],_::_,_,h=>h.elim
 | _::_,[],_,h=>h.elim
theorem sH:∀{l:List (Id×AO)} {o:Id} {x:AO},ui l=true->(o,x)∈l->cI (l.map fun p=>(p.1,some p.2)) o=some x
 | [],_,_,_,h=>by cases h
 |(i,y)::l,o,x,h,hm=>by
  simp only[ui,d5,v4,G5]at h;rw[p7,cI];rcases d8.1 hm with he|U2
  ·injection he with e1 e2;subst e1;subst e2;rw[idEq_iff.2 rfl];rfl
  ·cases hb:gw o i with|true=>have:=idEq_iff.1 hb;subst this;exact absurd (idEq_iff.2 rfl) (h.1 (o,x) U2)|false=>exact sH h.2 U2
theorem Conc.alone (hc:Conc N B M w0 ρ st.fs a w){v:Value}{x:AV}(hv:RV B ρ w (okB ρ st.fs.H w) v x)(hi:∀o∈x.ids,st.fs.U o.1):Conc 1 B M w0 ρ (St.fs ⟨[(0,x)],st.h,st.u⟩) ⟨#[v],w0.df⟩ w:=by
 refine⟨rfl,rfl,fun t=>?_,hc.obj,hc.sep,hc.rng,hc.keep,hc.base,hc.alw,hc.cst,hc.N5,fun t o ho=>?_,hc.usedH⟩
 ·show RV _ _ _ _ _ (bif Nat.beq t 0 then x else .unk)
  cases t with|zero=>exact hv|succ t=>trivial
 ·have ho:o∈(bif Nat.beq t 0 then x else .unk).ids:=ho
  cases t with|zero=>exact hi o ho|succ t=>have:o∈AV.ids .unk:=ho;simp[AV.ids]at this
theorem CN {r:Res}{v:Value}{x:AV}(hM:∀b,¬M b)(hX:∀o,w0.fx o=none)(hc:Conc N B M w0 ρ st.fs a w)(h:iU x st r)(hv:RV B ρ w (okB ρ st.fs.H w) v x)(Sz:RV B ρ w (okF B (okB ρ st.fs.H w) true) v x)(hi:∀o∈x.ids,st.fs.U o.1):yO B w v r:=by
 obtain⟨h1,h2⟩:=h;obtain⟨ρ',O8,hk,hS⟩:=h2.ok' (M:=M) (fun _=>⟨hM,hX⟩) (fun o v hv=>by rw[hX]at hv;cases hv) (hc.alone hv hi);have cI:∀o y,(o,y)∈r.os 0->(St.fs ⟨[(0,r.av 0)],r.us 0,[0]⟩).H o=some y:=fun o y hm=>sH h1 hm;refine⟨ρ',okF B (okB ρ' (St.fs ⟨[(0,r.av 0)],r.us 0,[0]⟩).H w) true,fun b hb=>⟨hb.1.1.1,hb.2 rfl⟩,?_,fun o y hm=>?_,fun o o' y y' hm Sh P2 b hb Rc=>O8.sep o o' y y' b (cI o y hm) (cI o' y' Sh) P2 (.inl hb) (.inl Rc)⟩
 ·exact hS 0 v _ _ (fun b hb=>⟨hk b hb.1,hb.2⟩) Sz
 ·have ho:=cI o y hm;obtain⟨sz,rows,rfl⟩:=DA hm;refine⟨?_,fun b hb=>?_⟩
  ·obtain⟨hu,S6⟩:=O8.obj o _ ho;refine⟨hu,?_⟩;rcases S6 with h|⟨b,cap,cur,e,fz,k1,k2,k3,k4,k5,k6,k7,k8⟩
   ·exact .inl h
   ·exact .inr ⟨b,cap,cur,e,fz,k1,k2,k3,k4,k5,k6,k7.keep fun b hb=>⟨rfl,hb,hb.2⟩,k8⟩
  ·have:=O8.rng o _ b ho (.inl hb);refine⟨this.2.resolve_right (hM b),this.1,fun O7=>O7.1.2 o _ ho (.inl hb)⟩
abbrev yS (tmps:Array Value)(rv:ResultVar):Sem Value:=match rv with
 | .tmp t=>pure (tmps.getD t undef)
 | .cell a t=>do loadVar t (←asAddr (tmps.getD a undef))
theorem NE (hΓ:Γ.chk P=true)(hc:Conc N B M w0 ρ st.fs a w){rv:ResultVar}{x:AR}(h:Oz Γ st rv=some x):
  ∃v,(yS a.tmps rv).run P w= .ok v w/\RR B ρ w (okB ρ st.fs.H w) v x/\∀o∈x.ids,st.fs.U o.1:=by
 cases rv with
 | tmp t=>
  simp only[Oz]at h;split at h
  ·rename_i y hy;injection h with h;subst h;have hs:=hc.slot t;rw[show st.fs.L t= .r y from hy]at hs;exact⟨_,rfl,hs,fun o ho=>hc.usedL t o (by rw[show st.fs.L t= .r y from hy];exact ho)⟩
  ·cases h
 | cell t T=>
  simp only[Oz]at h;split at h
  ·rename_i o ti hl hT;split at h
   ·rename_i cells hh;obtain⟨i,d,fit⟩:=Env.fit hΓ hT;obtain⟨b,us,t',fz,g1,g2,g3,g4,g5⟩:=hc.box (q:=o) hh;have hs:=hc.slot t;rw[show st.fs.L t= .r (.c (.ptr o 0)) from hl]at hs;obtain⟨b',e1,e2⟩:=hs;rw[g1]at e1;injection e1 with e1;injection e1 with e1;injection e1 with e1;subst e1;have UR:∀o'∈cells.flatMap AC.ids,st.fs.U o'.1:=(hc.usedH o _ hh).2;have Us:(asAddr (a.tmps.getD t undef)).run P w= .ok (⟨b,0,none⟩:Addr) w:=(by rw[e2];rfl);split at h
    ·rename_i cs ha hb;injection h with h;subst h;have O2:us.toList.length=ti.size:=(by rw[g4.length];simpa using hb);have h1:=run_loadCells_list (P:=P) w ⟨b,0,none⟩ us.toList g5;rw[O2,<-fit.size]at h1;refine⟨.agg us.toList.toArray,?_,⟨_,rfl,by simpa using g4⟩,UR⟩;simp only[yS,n6,Us,j7];simp[loadVar,la fit.und,fit.agg,ha,dg fit.info,h1]
    ·rename_i c ha hb;injection h with h;subst h;obtain⟨u,hu,hru⟩:=g4.get 0 c rfl;have P5:=g5 0 u hu;rw[iA]at P5;refine⟨u,?_,hru,fun o ho=>UR o (by simpa using(show o∈c.ids from ho))⟩;simp only[yS,n6,Us,j7];simp[loadVar,la fit.und,fit.agg,ha,run_load,P5]
    ·cases h
   ·cases h
  ·cases h
theorem pN (hΓ:Γ.chk P=true)(hc:Conc N B M w0 ρ st.fs a w):∀{rvs:List ResultVar} {xs:List AR},Cl Γ st rvs=some xs->
  ∃vs,(rvs.mapM (yS a.tmps)).run P w= .ok vs w/\RRs B ρ w (okB ρ st.fs.H w) vs xs/\∀o∈xs.flatMap AR.ids,st.fs.U o.1
 | [],xs,h=>by
  simp only[Cl,Option.some.injEq]at h;subst h
  exact⟨[],s_,trivial,s_⟩
 | rv::rvs,xs,h=>by
  simp only[Cl]at h;split at h
  ·rename_i x xs' h1 h2;injection h with h;subst h;obtain⟨v,g1,g2,g3⟩:=NE hΓ hc h1;obtain⟨vs,g4,g5,g6⟩:=pN hΓ hc h2;refine⟨v::vs,?_,⟨g2,g5⟩,fun o ho=>?_⟩
   ·rw[List.mapM_cons,n6,g1,j7,n6,g4,j7,o9]
   ·simp only[v3,f0]at ho;exact ho.elim (g3 o) (g6 o)
  ·cases h
theorem lZ {fn:Func}{a:Act}{vs:List Value}(S2:(fn.results.toList.mapM (yS a.tmps)).run P w= .ok vs w):(results fn a.tmps).run P w= .ok (if h:vs.length=1 then vs[0]else .tuple vs.toArray) w:=by unfold results;rw[show fn.results=fn.results.toList.toArray by simp];simp only[List.mapM_toArray,bind_map_left,n6];refine(congrArg (fun x=>Result.andThen x _) S2).trans ?_;simp only[j7,o9,B3,List.getElem_toArray]
theorem V99{p:Prop}(h:p:=by
 intro hl;obtain⟨v,rfl⟩:=List.length_eq_one_iff.1 hl
 match xs,g2,P2 with
 | [x],_,P2=>exact P2 x rfl
 | [],g2,_=>exact g2.elim
 | _::_::_,g2,_=>exact g2.2.elim):p:=h
theorem Ot {r:Res}{fn:Func}(hΓ:Γ.chk P=true)(hM:∀b,¬M b)(hX:∀o,w0.fx o=none)(hc:Conc N B M w0 ρ st.fs a w)(h:Pt Γ fn.results.toList r st):
  ∃v,(results fn a.tmps).run P w= .ok v w/\yO B w v r:=by
 unfold Pt at h;split at h
 ·rename_i x hx;obtain⟨vs,g1,g2,g3⟩:=pN hΓ hc hx
  match vs,g2 with
  | [v],g2=>
   refine⟨_,lZ g1,?_⟩;simp only[d6,e8,s7,dite_true,List.getElem_cons_zero]
   exact CN hM hX hc h.2 g2.1 (uB h.1 g2.1) fun o ho=>g3 o (by simpa using(show o∈x.ids from ho))
  | [],g2=>exact g2.elim
  | _::_::_,g2=>exact g2.2.elim
 ·rename_i xs P2 hx;obtain⟨vs,g1,g2,g3⟩:=pN hΓ hc hx;refine⟨_,lZ g1,?_⟩
  have hl:¬vs.length=1:=by exact V99
  rw[dif_neg hl];exact CN hM hX hc h.2 ⟨_,rfl,by simpa using g2⟩ ⟨_,rfl,by simpa using ru h.1 g2⟩ g3
 ·exact h.elim
theorem Nc {r:Res}{fn:Func}(hΓ:Γ.chk P=true)(hM:∀b,¬M b)(hX:∀o,w0.fx o=none)(hc:Conc N B M w0 ρ st.fs a w)(h:fin Γ fn.results.toList st r):
  ∃v,(results fn a.tmps).run P w= .ok v w/\yO B w v r:=by
 obtain⟨st1,ρ1,g1,g2,_⟩:=lS _ st _ ρ h hc fun _ _=>trivial;exact Ot hΓ hM hX g2 g1
theorem Jn {r:AV}{h1:List (Id×AO)}{fn:Func}(hΓ:Γ.chk P=true)(hF:∀o v,w0.fx o=some v->o.1=0)(hc:Conc N B M w0 ρ st.fs a w)(h:jW (kG st.h []) st (Fy Γ fn.results.toList r h1)):
  ∃v ρ',(results fn a.tmps).run P w= .ok v w/\Conc 1 B M w0 ρ' (St.fs ⟨[(0,r)],h1.map (fun p=>(p.1,some p.2)),[1,0]⟩) ⟨#[v],w0.df⟩ w:=by
 obtain⟨st1,ρ1,h,hc,_⟩:=lS _ st _ ρ h hc fun _ _=>trivial;unfold Fy at h;split at h
 ·rename_i x hx;obtain⟨vs,g1,g2,g3⟩:=pN hΓ hc hx
  match vs,g2 with
  | [v],g2=>
   obtain⟨ρ2,h2⟩:=h.ok s_ hF (hc.alone (x:= .r x) g2.1 fun o ho=>g3 o (by simpa using(show o∈x.ids from ho)));refine⟨_,ρ2,lZ g1,?_⟩
   simpa using h2
  | [],g2=>exact g2.elim
  | _::_::_,g2=>exact g2.2.elim
 ·rename_i xs P2 hx;obtain⟨vs,g1,g2,g3⟩:=pN hΓ hc hx
  have hl:¬vs.length=1:=by exact V99
  obtain⟨ρ2,h2⟩:=h.ok s_ hF (hc.alone (x:= .tup xs) (v:= .tuple vs.toArray) ⟨_,rfl,by simpa using g2⟩ g3);refine⟨_,ρ2,lZ g1,?_⟩;rw[dif_neg hl];exact h2
 ·exact h.elim
theorem V104{p:Prop}(h:p:=by
 by_cases h1:t<i
 ·rw[b9 h1,b9 o_]
 ·rw[b8 h1,b8 o_];obtain⟨k,hk⟩:∃k,t-i=k+1:=⟨t-i-1,o_⟩;rw[hk,show t-(i+1)=k by omega]
  simp):p:=h
theorem uO:∀(ts:List TV) (i t:Nat),eb (yb i ts) t=if t<i then .unk else(match ts[t-i]? with|some x=>x.av|none=> .unk)
 | [],i,t=>by simp[yb,eb]
 | x::ts,i,t=>by
  rw[yb,eb]
  cases hb:Nat.beq t i with
  | true=>have:=t8 hb;subst this;simp
  | false=>
   have P2:t≠i:=fun e=>by subst e;simp at hb
   rw[cond_false,uO ts (i+1) t];exact V104
theorem TV.av_ids (t:TV):t.av.ids=[]:=by
 cases t with
 | c x=>rfl
 | agg xs=>
  show(xs.map AC.t).flatMap AC.ids=[]
  induction xs with
  | nil=>rfl
  | cons x xs ih=>simp[AC.ids]
theorem RTs.toT {ok:Nat->Prop}:∀{vs:List Value} {ts:List Tr},RTs w ok vs ts->RCs B ρ w ok vs (ts.map .t)
 | [],[],_=>trivial
 | _::_,_::_,h=>⟨h.1,RTs.toT h.2⟩
 | [],_::_,h=>h.elim
 | _::_,[],h=>h.elim
theorem RTV.toRV {ok:Nat->Prop}{v:Value}{t:TV}(h:RTV w ok v t):RV B ρ w ok v t.av:=by cases t with|c x=>exact h|agg xs=>obtain⟨us,e,h⟩:=h;exact⟨us,e,h.toT⟩
theorem RTVs.len {ok:Nat->Prop}:∀{vs:List Value} {ts:List TV},RTVs w ok vs ts->vs.length=ts.length
 | [],[],_=>rfl
 | _::vs,_::ts,h=>by simp[RTVs.len (vs:=vs) (ts:=ts) h.2]
 | [],_::_,h=>h.elim
 | _::_,[],h=>h.elim
theorem RTVs.get {ok:Nat->Prop}:∀{vs:List Value} {ts:List TV},RTVs w ok vs ts->∀(i:Nat) v t,vs[i]?=some v->ts[i]?=some t->RTV w ok v t
 | [],[],_,i,v,t,h,_=>by simp at h
 | _::_,_::_,h,0,v,t,h1,h2=>by simp at h1 h2;subst h1;subst h2;exact h.1
 | _::_,_::_,h,i+1,v,t,h1,h2=>RTVs.get h.2 i v t aaw aaq
 | [],_::_,h,_,_,_,_,_=>h.elim
 | _::_,[],h,_,_,_,_,_=>h.elim
theorem rM {ts:List TV}{vs:Array Value}{w:World}(h:RTVs w (fun b=>b<w.heap.size) vs.toList ts)(hN:ts.length<=N):
  Conc N w.heap.size (fun _=>False) ⟨w,fun _=>True,fun _=>none,[]⟩ ⟨fun _=>undef,fun _ _=>False,fun _=>True⟩ (st0 ts).fs {tmps:=vs++Array.replicate (N-vs.size) undef,defers:=[]} w:=by
 have hl:vs.size=ts.length:=by simpa using h.len
 refine⟨by simp;omega,rfl,fun t=>?_,fun o x ho=>(by cases ho),fun o o' x x' b ho=>(by cases ho),fun o x b ho=>(by cases ho),⟨rfl,rfl,rfl,d7 _,fun _ _ _=>rfl⟩,d7 _,fun _ _=>trivial,rfl,fun _ _ h=>aa4,fun t o ho=>?_,fun o x ho=>by cases ho⟩
 ·show RV _ _ _ _ _ (eb (yb 0 ts) t);rw[uO,b8 o_,u7]
  cases ht:ts[t]? with
  | none=>trivial
  | some x=>
   have O4:t<vs.size:=by
    rcases n5 t ts.length with h'|h'
    ·omega
    ·rw[e9 h']at ht;cases ht
   have e:(vs++Array.replicate (N-vs.size) undef).getD t undef=vs[t]:=by rw[s9,Array.getElem?_append_left O4,x8 O4];rfl
   simp only;rw[e];have:=h.get t vs[t] x (by simp[O4]) ht;refine RV.keep (RTV.toRV (B:=w.heap.size) (ρ:=⟨fun _=>undef,fun _ _=>False,fun _=>True⟩) this) (fun b hb=>⟨rfl,⟨hb,trivial⟩,fun o x ho=>by cases ho⟩) (fun o ho=>rfl)
 ·have ho:o∈(eb (yb 0 ts) t).ids:=ho;rw[uO,b8 o_,u7]at ho
  cases ht:ts[t]? with
  | none=>rw[ht]at ho;simp[AV.ids]at ho
  | some x=>rw[ht]at ho;simp only[TV.av_ids]at ho;cases ho
theorem pY {f:FuncId}{fn:Func}{c:Code}(hf:P.funcs[f]?=some fn)(hb:fn.body=some c)(hn:(fn.name== "runtime.NumGoroutine")=false):Ic P f:=by intro args w;simp only[w3]at hn;simp[callFunc,hf,hb,hn]
theorem V21{p:Prop}(h:p:=by
 have key:fin Γ fn.results.toList O5 r->a'.defers=[]/\∃v,(results fn a'.tmps).run P w'= .ok v w'/\∃v',Ending.returned v= .returned v'/\Below w.heap.size w w'/\yO w.heap.size w' v' r:=fun QO=>by
  obtain⟨v,h1,h2⟩:=Nc (P:=P) hΓ (fun _ h=>h) (fun _=>rfl) O8 QO;exact⟨O8.defers,v,h1,v,rfl,⟨O8.keep.os,O8.keep.tape,O8.keep.output,O8.keep.size,fun k hk=>O8.keep.block k hk (fun h=>h)⟩,h2⟩
 cases e with
 | normal=>exact key hK
 | ret=>exact key hK
 | exit id=>exact hK.elim
 | pan v=>exact hK.elim):p:=h
theorem az {f:FuncId}{fn:Func}{c:Code}{ts:List TV}{r:Res}(hΓ:Γ.chk P=true)(aF:P.follows .mixedOrders=true)(hf:P.funcs[f]?=some fn)(hb:fn.body=some c)(hn:(fn.name== "runtime.NumGoroutine")=false)
  (hN:Nat.ble ts.length fn.ntmps=true) (h:W true P Γ fn.ntmps c (OQ Γ fn.results.toList r) (st0 ts)):Spec P f ts r:=by
 refine⟨pY hf hb hn,fun w vs S2=>calls_of_wp hf hb ?_⟩;have hc:=rM (N:=fn.ntmps) S2 (E2 hN);refine PJ hΓ aF (fun _=>⟨fun _ h=>h,fun _=>rfl⟩) (fun _ _ h=>by cases h) c _ _ _ _ _ _ h hc fun e O5 ρ' a' w' hK O8=>?_;exact V21
def yp:Nat->List AV->List (Nat×AV)
 | _,[]=>[]
 | i,t::ts=>(i,t)::yp (i+1) ts
def stG (xs:List AV)(h0:List (Id×AO)):St:=⟨yp 0 xs,h0.map fun p=>(p.1,some p.2),[0]⟩
theorem su:∀(ts:List AV) (i t:Nat),eb (yp i ts) t=if t<i then .unk else(match ts[t-i]? with|some x=>x|none=> .unk)
 | [],i,t=>by simp[yp,eb]
 | x::ts,i,t=>by
  rw[yp,eb]
  cases hb:Nat.beq t i with
  | true=>have:=t8 hb;subst this;simp
  | false=>
   have P2:t≠i:=fun e=>by subst e;simp at hb
   rw[cond_false,su ts (i+1) t];exact V104
theorem RVs.len {ok:Nat->Prop}:∀{vs:List Value} {ts:List AV},RVs B ρ w ok vs ts->vs.length=ts.length
 | [],[],_=>rfl
 | _::vs,_::ts,h=>by simp[RVs.len (vs:=vs) (ts:=ts) h.2]
 | [],_::_,h=>h.elim
 | _::_,[],h=>h.elim
theorem RVs.get {ok:Nat->Prop}:∀{vs:List Value} {ts:List AV},RVs B ρ w ok vs ts->∀(i:Nat) v t,vs[i]?=some v->ts[i]?=some t->RV B ρ w ok v t
 | [],[],_,i,v,t,h,_=>by simp at h
 | _::_,_::_,h,0,v,t,h1,h2=>by simp at h1 h2;subst h1;subst h2;exact h.1
 | _::_,_::_,h,i+1,v,t,h1,h2=>RVs.get h.2 i v t aaw aaq
 | [],_::_,h,_,_,_,_,_=>h.elim
 | _::_,[],h,_,_,_,_,_=>h.elim
theorem xD (h0:List (Id×AO))(o:Id):cI (h0.map fun p=>(p.1,some p.2)) o=lkH h0 o:=by
 induction h0 with
 | nil=>rfl
 | cons p l ih=>simp only[p7,cI,lkH,ih]
def uJ (xs:List AV)(h0:List (Id×AO))(r:AV)(h1:List (Id×AO)):Bool:=
 xs.all (fun x=>x.ids.all fun o=>Nat.beq o.1 0)&&h0.all (fun p=>Nat.beq p.1.1 0&&p.2.ids.all fun o=>Nat.beq o.1 0)
theorem wy {xs:List AV}{h0:List (Id×AO)}{vs:Array Value}{w:World}{ρ:Rho}(hn:uJ xs h0 .unk []=true)(h:RVs w.heap.size ρ w (okB ρ (lkH h0) w) vs.toList xs)(hl:Lies w.heap.size ρ w h0)(QZ:∀b,(w.heap.size<=b\/Ms ρ h0 b)->ρ.al b)(hN:xs.length<=N):
  Conc N w.heap.size (Ms ρ h0) ⟨w,ρ.al,fun o=>if(lkH h0 o).isSome=true then some (ρ o)else none,[]⟩ ρ (stG xs h0).fs {tmps:=vs++Array.replicate (N-vs.size) undef,defers:=[]} w:=by
 have O2:vs.size=xs.length:=by simpa using h.len
 simp only[uJ,d5,n9,H8]at hn;have hH:∀o,(stG xs h0).fs.H o=lkH h0 o:=fun o=>xD h0 o;have U9:(stG xs h0).fs.H=lkH h0:=funext hH
 have hU:∀n,(stG xs h0).fs.U n↔n=0:=fun n=>by
  show used [0] n=true↔n=0;simp only[used]
  cases hb:Nat.beq n 0 with|true=>simpa using hb|false=>simp only[cond_false,w9,false_iff];intro e;subst e;simp at hb
 have RY:∀o x,lkH h0 o=some x->o.1=0/\∀o'∈x.ids,o'.1=0:=fun o x hx=>by
  have:=hn.2 _ (jO hx);exact⟨by simpa using this.1,fun o' QL=>by simpa using this.2 o' QL⟩
 refine⟨by simp;omega,rfl,fun t=>?_,fun o x ho=>?_,fun o o' x x' b ho QL=>?_,fun o x b ho he=>?_,⟨rfl,rfl,rfl,d7 _,fun _ _ _=>rfl⟩,d7 _,fun b hb=>QZ b hb,rfl,fun o v hv=>?_,fun t o ho=>?_,fun o x ho=>?_⟩
 ·show RV _ _ _ _ _ (eb (yp 0 xs) t);rw[su,b8 o_,u7,U9]
  cases ht:xs[t]? with
  | none=>trivial
  | some x=>
   have O4:t<vs.size:=by
    rcases n5 t xs.length with h'|h'
    ·omega
    ·rw[e9 h']at ht;cases ht
   have e:(vs++Array.replicate (N-vs.size) undef).getD t undef=vs[t]:=by rw[s9,Array.getElem?_append_left O4,x8 O4];rfl
   simp only;rw[e];exact h.get t vs[t] x (by simp[O4]) ht
 ·rw[hH]at ho;rw[U9];exact hl.obj o x ho
 ·rw[hH]at ho QL;exact hl.sep o o' x x' b ho QL
 ·rw[hH]at ho;exact⟨hl.lt o x b ho he,.inr ⟨o,x,ho,he⟩⟩
 ·have hv:(if(lkH h0 o).isSome=true then some (ρ o)else none)=some v:=hv;split at hv
  ·rename_i hs;injection hv with hv;obtain⟨x,hx⟩:=F2.1 hs;exact⟨hv,(hU _).2 (RY o x hx).1⟩
  ·cases hv
 ·have ho:o∈(eb (yp 0 xs) t).ids:=ho;rw[su,b8 o_,u7]at ho
  cases ht:xs[t]? with|none=>rw[ht]at ho;simp[AV.ids]at ho|some x=>rw[ht]at ho;exact(hU _).2 (by simpa using hn.1 x (c9 ht) o ho)
 ·rw[hH]at ho;obtain⟨g1,g2⟩:=RY o x ho;exact⟨(hU _).2 g1,fun o' QL=>(hU _).2 (g2 o' QL)⟩
theorem V80{p:Prop}(h:p:=by
 split at hv
 ·rename_i hs;obtain⟨x,hx⟩:=F2.1 hs;simp only[uJ,d5,n9,H8]at Rv;simpa using(Rv.2 _ (jO hx)).1
 ·cases hv):p:=h
theorem V7{p:Prop}(h:p:=by
 have key:jW (kG O5.h []) O5 (Fy Γ fn.results.toList r h1)->a'.defers=[]/\∃v,(results fn a'.tmps).run P w'= .ok v w'/\∃v' ρ2,Ending.returned v= .returned v'/\Keep w.heap.size (Ms ρ h0) w w'/\(∀o,(lkH h0 o).isSome=true->ρ2 o=ρ o)/\ρ2.al=ρ.al/\
   RV w.heap.size ρ2 w' (okB ρ2 (lkH h1) w') v' r/\Lies w.heap.size ρ2 w' h1/\∀o x b,lkH h1 o=some x->Own ρ2 o b->w.heap.size<=b\/Ms ρ h0 b:=fun QO=>by
  obtain⟨v,ρ2,k1,k2⟩:=Jn (P:=P) hΓ hF O8 QO;have hH:∀o,(St.fs ⟨[(0,r)],h1.map (fun p=>(p.1,some p.2)),[1,0]⟩).H o=lkH h1 o:=fun o=>xD h1 o;have U9:(St.fs ⟨[(0,r)],h1.map (fun p=>(p.1,some p.2)),[1,0]⟩).H=lkH h1:=funext hH;refine⟨O8.defers,v,k1,v,ρ2,rfl,k2.keep,fun o ho=>?_,k2.cst,?_,⟨fun o x ho=>?_,fun o o' x x' b ho QL=>?_,fun o x b ho he=>?_⟩,fun o x b ho he=>?_⟩
  ·have:=k2.N5 o (ρ o) (by show(if(lkH h0 o).isSome=true then some (ρ o)else none)=_;rw[b9 ho]);exact this.1
  ·have:=k2.slot 0;rw[U9]at this;exact this
  ·have:=k2.obj o x abm;rw[U9]at this;exact this
  ·exact k2.sep o o' x x' b abm (by rw[hH];exact QL)
  ·exact(k2.rng o x b abm he).1
  ·exact(k2.rng o x b abm he).2
 cases e with
 | normal=>exact key hK
 | ret=>exact key hK
 | exit id=>exact hK.elim
 | pan v=>exact hK.elim):p:=h
theorem eJ {f:FuncId}{fn:Func}{c:Code}{xs:List AV}{h0:List (Id×AO)}{r:AV}{h1:List (Id×AO)}(hΓ:Γ.chk P=true)(aF:P.follows .mixedOrders=true)(hf:P.funcs[f]?=some fn)(hb:fn.body=some c)(hn:(fn.name== "runtime.NumGoroutine")=false)
  (hN:Nat.ble xs.length fn.ntmps=true) (Rv:uJ xs h0 .unk []=true) (h:W false P Γ fn.ntmps c (OV Γ fn.results.toList r h1) (stG xs h0)):bh P f xs h0 r h1:=by
 refine⟨pY hf hb hn,fun w vs ρ S2 hl QZ=>calls_of_wp hf hb ?_⟩;have hc:=wy (N:=fn.ntmps) Rv S2 hl QZ (E2 hN)
 have hF:∀o v,(if(lkH h0 o).isSome=true then some (ρ o)else none)=some v->o.1=0:=fun o v hv=>by
  exact V80
 refine PJ hΓ aF s_ hF c _ _ _ _ _ _ h hc fun e O5 ρ' a' w' hK O8=>?_;exact V7
end
def Pk:AV->Prop
 | .r x=>Dd x
 | .tup xs=>xU xs
 | _=>False
theorem uY {P:Program}{f:FuncId}{ts:List TV}{r:AV}{h1:List (Id×AO)}{r':Res}(h:bh P f (ts.map TV.av) [] r h1)(hu:(vp [1,0] r.ids&&usedH [1,0] (h1.map fun p=>(p.1,some p.2)))=true)(hf:Pk r)
  (hq:iU r ⟨[],h1.map fun p=>(p.1,some p.2),[1,0]⟩ r'):Spec P f ts r':=by
 refine⟨h.1,fun w vs S2=>?_⟩;have hM:∀b,¬Ms (⟨fun _=>undef,fun _ _=>False,fun _=>True⟩:Rho) [] b:=fun b hb=>by obtain⟨o,x,hx,_⟩:=hb;cases hx
 have Tw:=rM (N:=ts.length) S2 (d7 _)
 have ZH:RVs w.heap.size ⟨fun _=>undef,fun _ _=>False,fun _=>True⟩ w (okB ⟨fun _=>undef,fun _ _=>False,fun _=>True⟩ (lkH []) w) vs.toList (ts.map TV.av):=by
  generalize vs.toList=l at S2;clear Tw h
  induction l generalizing ts with
  | nil=>cases ts with
   | nil=>trivial
   | cons _ _=>exact S2.elim
  | cons v l ih=>cases ts with
   | nil=>exact S2.elim
   | cons t ts=>exact⟨RV.keep (RTV.toRV (B:=w.heap.size) (ρ:=⟨fun _=>undef,fun _ _=>False,fun _=>True⟩) S2.1) (fun b hb=>⟨rfl,⟨hb,trivial⟩,fun o x ho=>by cases ho⟩) (fun o ho=>rfl),ih S2.2⟩
 refine(h.2 w vs ⟨fun _=>undef,fun _ _=>False,fun _=>True⟩ ZH ⟨fun o x ho=>(by cases ho),fun o o' x x' b ho=>(by cases ho),fun o x b ho=>(by cases ho)⟩ (fun _ _=>trivial)).mono fun e w' he=>?_;obtain⟨v,ρ',e1,k,_,QZ,hv,hl,hb⟩:=he;refine⟨v,e1,⟨k.os,k.tape,k.output,k.size,fun q hq=>k.block q hq (hM q)⟩,?_⟩;simp only[d5]at hu;have hH:∀o,(St.fs ⟨[(0,r)],h1.map (fun p=>(p.1,some p.2)),[1,0]⟩).H o=lkH h1 o:=fun o=>xD h1 o;have U9:(St.fs ⟨[(0,r)],h1.map (fun p=>(p.1,some p.2)),[1,0]⟩).H=lkH h1:=funext hH
 have hc:Conc 1 w.heap.size (Ms (⟨fun _=>undef,fun _ _=>False,fun _=>True⟩:Rho) []) ⟨w,ρ'.al,fun _=>none,[]⟩ ρ' (St.fs ⟨[(0,r)],h1.map (fun p=>(p.1,some p.2)),[1,0]⟩) ⟨#[v],[]⟩ w':=by
  refine⟨rfl,rfl,fun t=>?_,fun o x ho=>?_,fun o o' x x' b ho QL=>?_,fun o x b ho Rb=>?_,k,k.size,fun b _=>by rw[QZ];trivial,rfl,fun _ _ h=>aa4,fun t o ho=>?_,fun o x ho=>?_⟩
  ·rw[U9];show RV _ _ _ _ _ (bif Nat.beq t 0 then r else .unk)
   cases t with|zero=>exact hv|succ t=>trivial
  ·rw[U9]at *;exact hl.obj o x ho
  ·rw[U9]at *;exact hl.sep o o' x x' b ho QL
  ·rw[U9]at *;exact⟨hl.lt o x b ho Rb,hb o x b ho Rb⟩
  ·have ho:o∈(bif Nat.beq t 0 then r else .unk).ids:=ho
   cases t with|zero=>exact mT hu.1 o ho|succ t=>have:o∈AV.ids .unk:=ho;simp[AV.ids]at this
  ·exact ux hu.2 o x (lM ho)
 refine CN hM (fun _=>rfl) (st:=⟨[(0,r)],h1.map (fun p=>(p.1,some p.2)),[1,0]⟩) hc hq (by rw[U9];exact hv) ?_ fun o ho=>mT hu.1 o ho;rw[U9]
 cases r with|r x=>exact uB hf hv|tup xs=>obtain⟨us,e,hus⟩:=hv;exact⟨us,e,ru hf hus⟩|el o sz i off=>exact hf.elim|ro fr row off=>exact hf.elim|unk=>exact hf.elim
theorem Hm {P:Program}{f:FuncId}{ts:List TV}{sz:Nat}{rows:List (List Tr)}(h:bh P f (ts.map TV.av) [] (.r (.c (.own (1,0,0)))) [((1,0,0),.dar sz (aw rows) none)]):Spec P f ts (.r (.c (.arr sz rows))):=by refine uY h rfl trivial ⟨rfl,rfl,?_⟩;exact⟨rfl,rfl,rfl,rfl⟩
end Go.Sim
namespace Go.Sim
open Go.RowKit Go.ChangeShapes Go.WideShapes Go.ChangeAt
def Jv (okT:TypeId->Bool):Nat->List (Nat×Nat×TypeId)->Nat->Bool
 | o,[],sz=>Nat.beq o sz
 | o,(off,s,t)::r,sz=>Nat.beq off o&&okT t&&Jv okT (o+s) r sz
def okT (Γ:Env):Nat->TypeId->Bool
 | 0,_=>false
 | n+1,t=>match Γ.get t with
  | none=>false
  | some ti=>match ti.kind,ti.bool||ti.str,ti.elem,ti.fields with
   | some _,_,_,_=>Nat.beq ti.size 1
   | none,true,_,_=>Nat.beq ti.size 1
   | none,false,some e,_=>Nat.beq ti.size 1&&okT Γ n e
   | none,false,none,f::fs=>Jv (okT Γ n) 0 (f::fs) ti.size
   | none,false,none,[]=>false
def Df (T:TypeId->List Tr->Prop):List (Nat×Nat×TypeId)->List Tr->Prop
 | [],ts=>ts=[]
 |(_,_,t)::fs,ts=>∃xs rest,ts=xs++rest/\T t xs/\Df T fs rest
def fd (Γ:Env)(t:TypeId):Nat:=match Γ.get t with|some ti=>ti.size|none=>0
def qL (Γ:Env):Nat->TypeId->List Tr->Prop
 | 0,_,_=>False
 | n+1,t,ts=>match Γ.get t with
  | none=>False
  | some ti=>match ti.kind,ti.bool,ti.str,ti.elem with
   | some k,_,_,_=>∃m,ts=[.int k m]/\(Lit.int k m).wf=true
   | none,true,_,_=>∃b,ts=[.bool b]
   | none,false,true,_=>∃s:List UInt8,ts=[.str s]/\s.length<=maxLen
   | none,false,false,some e=>∃rows,ts=[.lst (fd Γ e) rows]/\rows.length<=maxLen/\∀r∈rows,qL Γ n e r
   | none,false,false,none=>Df (qL Γ n) ti.fields ts
def DJ (Γ:Env)(n:Nat)(t:TypeId)(x:TV):Prop:=
 match Γ.get t with
 | none=>False
 | some ti=>match ti.agg with
  | true=>∃xs,x= .agg xs/\qL Γ n t xs
  | false=>∃y,x= .c y/\qL Γ n t [y]
def sI (Γ:Env)(n:Nat):List TypeId->List TV->Prop
 | [],[]=>True
 | t::ts,x::xs=>DJ Γ n t x/\sI Γ n ts xs
 | _,_=>False
section
variable {H:Type} {enc:TypeId×Value->H} {P:Program} {Γ:Env} {w:World} {sp:Nat->Bool} {Xr:Bool}
theorem GJ (s:ByteArray):s=⟨s.data.toList.toArray⟩:=by cases s;simp
theorem GX (hΓ:Γ.chk P=true):∀(n:Nat) (t:TypeId) (fuel:Nat) (cs:List Value) (x:DataW H×List MemPlace),okT Γ n t=true->DataW.trod enc P w 0 sp Xr fuel t cs=some x->
  ∃ts,RTs w (fun b=>b<w.heap.size) cs ts/\qL Γ n t ts/\ts.length=fd Γ t:=by
 intro n
 induction n with
 | zero=>intro t fuel cs x h;simp[okT]at h
 | succ n ih=>
  intro t fuel cs x O7 hx;simp only[okT]at O7
  cases hT:Γ.get t with
  | none=>rw[hT]at O7;simp at O7
  | some ti=>
   obtain⟨i,d,fit⟩:=Env.fit hΓ hT;rw[hT]at O7;simp only at O7;simp only[qL,hT,fd]
   cases d with
   | int k=>
    obtain⟨m,rfl,rfl,hw⟩:=DataW.trod_int fit.und hx;have hk:ti.kind=some k:=fit.kind.symm;simp only[hk,G7]at O7⊢
    exact⟨[.int k m],⟨.int k m,trivial⟩,⟨m,rfl,hw⟩,O7.symm⟩
   | bool=>
    obtain⟨b,rfl,rfl⟩:=DataW.trod_bool fit.und hx;have hk:ti.kind=none:=fit.kind.symm;have hb:ti.bool=true:=fit.bool.symm;simp only[hk,hb,Bool.true_or,G7]at O7⊢
    exact⟨[.bool b],⟨.bool b,trivial⟩,⟨b,rfl⟩,O7.symm⟩
   | string=>
    obtain⟨s,rfl,rfl,hs⟩:=DataW.trod_string fit.und hx;have hk:ti.kind=none:=fit.kind.symm;have hb:ti.bool=false:=fit.bool.symm;have QJ:ti.str=true:=fit.str.symm;simp only[hk,hb,QJ,Bool.or_true,G7]at O7⊢;refine⟨[.str s.data.toList],⟨?_,trivial⟩,⟨_,rfl,by simpa using hs⟩,O7.symm⟩;have:=RT.str (w:=w) (ok:=fun b=>b<w.heap.size) s.data.toList
    rwa [<-GJ s]at this
   | slice e=>
    have hk:ti.kind=none:=fit.kind.symm;have hb:ti.bool=false:=fit.bool.symm;have QJ:ti.str=false:=fit.str.symm;have he:ti.elem=some e:=fit.elem.symm;simp only[hk,hb,QJ,he,Bool.or_self,d5,G7]at O7⊢;obtain⟨hz1,O7⟩:=O7;rcases DataW.trod_slice fit.und hx with⟨rfl,rfl⟩|⟨a,len,cap,elems,rest,m,rfl,rfl,rfl,_,O2,aau,QP,UH,_,_⟩
    ·exact⟨[.lst (fd Γ e) []],⟨.emp _ _ _ (by simp[maxLen]),trivial⟩,⟨[],rfl,s_,s_⟩,hz1.symm⟩
    ·have RK:P.cellsOf e=fd Γ e/\fd Γ e≠0:=by
      cases hE:Γ.get e with
      | none=>cases n<;>simp[okT,hE]at O7
      | some te=>obtain⟨ie,de,fite⟩:=Env.fit hΓ hE;simp only[Program.cellsOf,fite.info,v5,A7,fd,hE];exact⟨fite.size,fite.pos⟩
     have P9:∀j,j<len->∃us row,us.length=P.cellsOf e/\(∀p,p<P.cellsOf e->w.cell? (a.add (j*P.cellsOf e+p))=us[p]?)/\RTs w (fun b=>b<w.heap.size) us row/\qL Γ n e row/\row.length=fd Γ e:=by intro j hj;have h1:=UH j hj;have h2:j<elems.length:=o_;rw[i9 h2]at h1;obtain⟨us,g1,g2⟩:=Option.bind_eq_some_iff.1 h1;obtain⟨_,g3,g4⟩:=World.cells?_some g1;obtain⟨row,g5,g6,g7⟩:=ih e m us _ O7 g2;exact⟨us,row,g3,fun p hp=>by rw[<-ta];exact g4 p hp,g5,g6,g7⟩
     obtain⟨f,hf⟩:∃f:Nat->List Value×List Tr,∀j,j<len->(f j).1.length=P.cellsOf e/\(∀p,p<P.cellsOf e->w.cell? (a.add (j*P.cellsOf e+p))=(f j).1[p]?)/\RTs w (fun b=>b<w.heap.size) (f j).1 (f j).2/\qL Γ n e (f j).2/\(f j).2.length=fd Γ e:=by refine⟨fun j=>if h:j<len then(⟨(P9 j h).choose,(P9 j h).choose_spec.choose⟩)else([],[]),fun j hj=>?_⟩;simp only[dif_pos hj];exact(P9 j hj).choose_spec.choose_spec
     let rows:=(List.range len).map fun j=>(f j).2
     let us:=((List.range len).map fun j=>(f j).1).flatten
     have RM:∀r∈rows,r.length=fd Γ e/\qL Γ n e r:=by intro r hr;obtain⟨j,hj,rfl⟩:=q7.1 hr;have:=hf j aaV;exact⟨this.2.2.2.2,this.2.2.2.1⟩
     have RJ:∀k,k<=len->RTs w (fun b=>b<w.heap.size) ((List.range k).map fun j=>(f j).1).flatten ((List.range k).map fun j=>(f j).2).flatten/\((List.range k).map fun j=>(f j).1).flatten.length=k*P.cellsOf e/\
       ∀p,p<k*P.cellsOf e->w.cell? (a.add p)=(((List.range k).map fun j=>(f j).1).flatten)[p]?:=by
      intro k
      induction k with
      | zero=>intro _;exact⟨trivial,s_,fun p hp=>by simp at hp⟩
      | succ k ihk=>
       intro SG;obtain⟨q1,q2,q3⟩:=ihk o_;obtain⟨r1,r2,r3,_,_⟩:=hf k o_;have e1:((List.range (k+1)).map fun j=>(f j).1).flatten=((List.range k).map fun j=>(f j).1).flatten++(f k).1:=(by rw[D6];simp);have e2:((List.range (k+1)).map fun j=>(f j).2).flatten=((List.range k).map fun j=>(f j).2).flatten++(f k).2:=(by rw[D6];simp);rw[e1,e2];refine⟨RTs.append q1 r3,by rw[c7,q2,r1,p8];omega,fun p hp=>?_⟩;rcases n5 p (k*P.cellsOf e)with O4|QY
       ·rw[l8 o_];exact q3 p O4
       ·rw[m9 o_,q2];have:=r2 (p-k*P.cellsOf e) (by rw[p8]at hp;omega);rwa [show k*P.cellsOf e+(p-k*P.cellsOf e)=p by omega]at this
     obtain⟨q1,q2,q3⟩:=RJ len (d7 _);have X3:rows.length=len:=(by simp[rows]);refine⟨[.lst (fd Γ e) rows],⟨?_,trivial⟩,⟨rows,rfl,by rw[X3];omega,fun r hr=>(RM r hr).2⟩,hz1.symm⟩
     cases B8 len with
     | inl h0=>
      have:rows=[]:=(by simp[rows,h0]);rw[this,h0]
      exact .emp _ _ _ aau
     | inr Rq=>
      refine .lst a len cap (fd Γ e) rows us X3 O2 aau (fun r hr=>(RM r hr).1) ?_ q1.length (fun p v hv=>?_) (fun p v u hv hu=>q1.get p v u hv hu)
      ·have hp0:0<len*P.cellsOf e:=Nat.mul_pos Rq (by rw[RK.1];omega);have:=q3 0 hp0;have h0:0<us.length:=(by show 0<(((List.range len).map fun j=>(f j).1).flatten).length;omega);have h2:w.cell? (a.add 0)=some us[0]:=(by rw[this];exact i9 h0);have:=World.block_lt_of_cell? w _ h2;rwa [jB]at this
      ·have hp:p<len*P.cellsOf e:=by
        rw[<-q2];rcases n5 p us.length with h'|h'
        ·exact h'
        ·rw[e9 h']at hv;cases hv
       rw[q3 p hp];exact hv
   | struct fs=>
    have hk:ti.kind=none:=fit.kind.symm;have hb:ti.bool=false:=fit.bool.symm;have QJ:ti.str=false:=fit.str.symm;have he:ti.elem=none:=fit.elem.symm;simp only[hk,hb,QJ,he,Bool.or_self]at O7⊢;obtain⟨xs,m,rfl,rfl,hl,U7,TD⟩:=DataW.trod_struct fit.und hx
    have Ug:cs.length=ti.size:=by rw[hl];simp only[Program.cellsOf,fit.info,v5,A7];exact fit.size
    have ads:Jv (okT Γ n) 0 ti.fields ti.size=true:=by cases P7:ti.fields with|nil=>rw[P7]at O7;simp at O7|cons f fl=>rw[P7]at O7;exact O7
    have key:∀(l:List (Nat×Nat×TypeId)) (o:Nat),Jv (okT Γ n) o l ti.size=true->(∀f∈l,∃y,DataW.trod enc P w 0 sp Xr m f.2.2 ((cs.drop f.1).take f.2.1)=some y/\P.cellsOf f.2.2=f.2.1)->o<=ti.size->
      ∃ts,RTs w (fun b=>b<w.heap.size) (cs.drop o) ts/\Df (qL Γ n) l ts/\ts.length=ti.size-o:=by
     intro l
     induction l with
     | nil=>
      intro o h _ _;simp only[Jv,G7]at h;have:cs.drop o=[]:=(by rw[List.drop_eq_nil_iff];omega);rw[this]
      exact⟨[],trivial,rfl,by simp;omega⟩
     | cons f l ihl=>
      obtain⟨off,s,ft⟩:=f;intro o h hr ho;simp only[Jv,d5,G7]at h;obtain⟨⟨rfl,h2⟩,h3⟩:=h;obtain⟨y,hy,QK⟩:=hr (off,s,ft) s_;obtain⟨ts1,g1,g2,g3⟩:=ih ft m _ _ h2 hy;have hs:ts1.length=((cs.drop off).take s).length:=g1.length.symm
      have RK:fd Γ ft=s:=by
       cases hE:Γ.get ft with
       | none=>cases n<;>simp[okT,hE]at h2
       | some te=>obtain⟨ie,de,fite⟩:=Env.fit hΓ hE;simp only at QK;rw[<-QK];simp only[Program.cellsOf,fite.info,v5,A7,fd,hE];exact fite.size.symm
      have P6:off+s<=ti.size:=by
       simp only[k0,y9]at hs
       have Rq:s≠0:=by
        cases hE:Γ.get ft with
        | none=>cases n<;>simp[okT,hE]at h2
        | some te=>obtain⟨ie,de,fite⟩:=Env.fit hΓ hE;rw[<-RK];simp only[fd,hE];exact fite.pos
       omega
      obtain⟨ts2,g4,g5,g6⟩:=ihl (off+s) h3 (fun f hf=>hr f (by simp[hf])) P6;refine⟨ts1++ts2,?_,⟨ts1,ts2,rfl,g2,g5⟩,by simp;omega⟩;have e:cs.drop off=(cs.drop off).take s++cs.drop (off+s):=(by rw[<-H6,x5]);rw[e];exact RTs.append g1 g4
    have UI:=fit.fields;simp only[mh,d5,i8]at UI
    obtain⟨ts,g1,g2,g3⟩:=key ti.fields 0 ads (fun f hf=>by
     rw[<-UI.1]at hf;obtain⟨F,h1,rfl⟩:=q7.1 hf;obtain⟨i,hi⟩:=C4 h1;have Zj:fs[i]?=some F:=by simpa using hi
     have O4:i<xs.length:=by
      rw[U7];rcases n5 i fs.size with h'|h'
      ·exact h'
      ·rw[G3 h']at Zj;cases Zj
     exact⟨xs[i],by rw[TD i F Zj,i9 O4],rfl⟩) (v9 _)
    exact⟨ts,by simpa using g1,g2,by simpa using g3⟩
   | _=>have hk:ti.kind=none:=fit.kind.symm;have hb:ti.bool=false:=fit.bool.symm;have QJ:ti.str=false:=fit.str.symm;have he:ti.elem=none:=fit.elem.symm;have hf:=fit.fields;simp only[mh,D0]at hf;simp[hk,hb,QJ,he,hf]at O7
theorem zb (hΓ:Γ.chk P=true){r:Reach}{base n:Nat}:∀{ts:List TypeId} {vs:List Value} {ds:List (DataW H)} {ps:List MemPlace},ts.all (okT Γ n)=true->
  (∀(j:Nat) t v,ts[j]?=some t->vs[j]?=some v->Value.okWide P w r base t v)->DataW.TrodAll enc P w 0 sp Xr ts vs ds ps->
  ∃xs,RTVs w (fun b=>b<w.heap.size) vs xs/\sI Γ n ts xs
 | [],vs,ds,ps,_,_,h=>by
  obtain⟨rfl,rfl,rfl⟩:=trodAll_nil h
  exact⟨[],trivial,trivial⟩
 | t::ts,vs,ds,ps,O7,hw,h=>by
  obtain⟨v,vs,d,ds,p,q,rfl,rfl,rfl,h1,h2⟩:=trodAll_cons h;simp only[F3,d5]at O7;obtain⟨xs,g1,g2⟩:=zb hΓ O7.2 (fun j t v h3 h4=>hw (j+1) t v aa0 aa2) h2;obtain⟨fuel,hf⟩:=h1;obtain⟨ys,g3,g4,g5⟩:=GX hΓ n t fuel _ _ O7.1 hf;have hv:=hw 0 t v rfl rfl
  cases hT:Γ.get t with
  | none=>cases n<;>simp[okT,hT]at O7
  | some ti=>
   obtain⟨i,d',fit⟩:=Env.fit hΓ hT;have Rg:=fit.agg
   cases ha:ti.agg with
   | true=>
    rw[ha]at Rg
    have:∃cs,v= .agg cs:=by
     simp only[Value.okWide,fit.und]at hv
     cases d'<;>simp[yh]at Rg
     ·obtain⟨cs,h,_⟩:=hv;exact⟨cs,h⟩
     ·obtain⟨cs,h,_⟩:=hv;exact⟨cs,h⟩
    obtain⟨cs,rfl⟩:=this
    exact⟨.agg ys::xs,⟨⟨cs,rfl,g3⟩,g1⟩,⟨by simp only[DJ,hT,ha];exact⟨ys,rfl,g4⟩,g2⟩⟩
   | false=>
    rw[ha]at Rg
    have Rz:v.cells=#[v]:=by
     have hk:=fit.kind;have hb:=fit.bool;have QJ:=fit.str;have he:=fit.elem
     cases d' with
     | int k=>obtain⟨m,rfl⟩:=okWide_int fit.und hv;rfl
     | bool=>obtain⟨m,rfl⟩:=okWide_bool fit.und hv;rfl
     | string=>obtain⟨m,rfl⟩:=okWide_string fit.und hv;rfl
     | slice e=>obtain⟨a,l,c,rfl⟩:=okWide_slice fit.und hv;rfl
     | struct fs=>simp[yh]at Rg
     | array m e=>simp[yh]at Rg
     | _=>
      exfalso;have hf:=fit.fields;simp only[mh,D0]at hf;have h1:=O7.1
      cases n with
      | zero=>simp[okT]at h1
      | succ n=>simp only[okT,hT]at h1;simp[<-hk,<-hb,<-QJ,<-he,hf,kC,EE,Aw,FP]at h1
    rw[Rz]at g3
    match ys,g3 with|[y],g3=>exact⟨.c y::xs,⟨g3.1,g1⟩,⟨by simp only[DJ,hT,ha];exact⟨y,rfl,g4⟩,g2⟩⟩|[],g3=>exact g3.elim|_::_::_,g3=>exact g3.2.elim
theorem qK (hl:laidOutB P=true){W W':World}{sp':Nat->Bool}(hb:Below W.heap.size W W'):∀{ts:List TypeId} {vs:List Value} {ds:List (DataW H)} {ps:List MemPlace},
  ts.all (fun t=>P.readableRec t&&decide (t<P.types.size))=true->DataW.TrodAll enc P W 0 (fun _=>true) true ts vs ds ps->(∀p∈ps,p.block<W.heap.size)->(∀p∈ps,sp' p.block=true)->DataW.TrodAll enc P W' 0 sp' true ts vs ds ps
 | [],vs,ds,ps,_,h,_,_=>by
  obtain⟨rfl,rfl,rfl⟩:=trodAll_nil h
  rfl
 | t::ts,vs,ds,ps,hr,h,O4,hs=>by
  obtain⟨v,vs,d,ds,p,q,rfl,rfl,rfl,h1,h2⟩:=trodAll_cons h;simp only[F3,d5,i8]at hr
  exact⟨p,q,WideElems.Trod_stays hl hr.1.1 hr.1.2 h1 (fun x hx=>hb.same (O4 x aaS)) (fun x hx=>hs x aaS),
   qK hl hb (by simpa using hr.2) h2 (fun x hx=>O4 x aaS) (fun x hx=>hs x aaS),rfl⟩
theorem Jz (hl:laidOutB P=true){f:FuncId}{fn:Func}{s:ChangeSpec}{W:World}{args:Array Value}{ds:List (DataW H)}{gs:List (DataW H)}{before:List MemPlace}{tb:TypeId}
  (YV:fn.resultTypes=#[tb]) (Ze:P.underlying tb=some .bool) (QN:s.vars=[]) (WI:fn.params.toList.all (fun t=>P.readableRec t&&decide (t<P.types.size))=true)
  (SJ:s.fn H ds={results:=[.lit (.bool true)],args:=ds}) {xs:List TV} (hx:RTVs W (fun b=>b<W.heap.size) args.toList xs) (hs:Sim.Spec P f xs (.r (.c (.t (.bool true)))))
  (hW:DataW.Whole enc P fn.params.toList s.vars false W args.toList ds gs before):
  Calls P f args W fun e W'=>∃v,e= .returned v/\s.post enc P fn false true false false W args v W':=by
 refine(hs.2 W args hx).mono fun e W' ⟨v,he,hb,hr⟩=>⟨v,he,?_⟩;obtain⟨ρ,okp,_,hv,_⟩:=hr;have Sz:v= .bool true:=gK hv;subst Sz;have hW0:=hW;have O4:=hW.lt;rw[QN]at hW;obtain⟨p,q,hA,hV,WT,hz,hn⟩:=hW;obtain⟨rfl,rfl⟩:=trodVars_none hV
 have ZJ:∀(b:Nat) (sp:Nat->Bool) (hd:Bool),DataW.TrodAll enc P W' b sp hd fn.resultTypes.toList ((Value.bool true).resultList fn.resultTypes.size) (s.fn H (ds++[])).results []:=by intro b sp hd;rw[m7,SJ,YV];exact trodAll_cons_mk (shut_bool Ze _) trodAll_mk0
 refine⟨ds,[],before,[],before,[],hW0,ZJ _ _ _,?_,?_,hb.frame _,fun h=>by cases h⟩
 ·rw[m7,SJ];rw[m7]at WT;subst WT;exact qK hl hb WI hA O4 (fun x hx=>by simpa using O4 x hx)
 ·rw[QN,m7,SJ];rfl
theorem wl:∀{ts:List TypeId} {vs:List Value} {ds:List (DataW H)} {ps:List MemPlace},DataW.TrodAll enc P w 0 sp Xr ts vs ds ps->ds.length=ts.length
 | [],vs,ds,ps,h=>by
  obtain⟨rfl,rfl,rfl⟩:=trodAll_nil h
  rfl
 | t::ts,vs,ds,ps,h=>by
  obtain⟨v,vs,d,ds,p,q,rfl,rfl,rfl,h1,h2⟩:=trodAll_cons h;simp[wl h2]
end
theorem DO {Γ:Env}{n:Nat}{t:TypeId}{ts:List TypeId}{xs:List TV}(h:sI Γ n (t::ts) xs):∃x xs',xs=x::xs'/\DJ Γ n t x/\sI Γ n ts xs':=by cases xs with|nil=>exact h.elim|cons x xs=>exact⟨x,xs,rfl,h.1,h.2⟩
theorem FI {Γ:Env}{n:Nat}{xs:List TV}(h:sI Γ n [] xs):xs=[]:=by cases xs with|nil=>rfl|cons x xs=>exact h.elim
theorem Qg {α:Type}{l:List α}{x:TypeId}(h:l.length=#[x].toList.length):∃a,l=[a]:=by
 match l,h with
 | [a],_=>exact⟨a,rfl⟩
end Go.Sim
namespace Go.Sim
mutual
def aK (L:Int):Tr->Prop
 | .str s=>(s.length:Int)<=L
 | .lst _ rows=>(rows.length:Int)<=L/\iZ L rows
 | .int _ _=>True
 | .bool _=>True
def aS (L:Int):List Tr->Prop
 | []=>True
 | c::cs=>aK L c/\aS L cs
def iZ (L:Int):List (List Tr)->Prop
 | []=>True
 | r::rs=>aS L r/\iZ L rs
end
theorem wx {L:Int}:∀{rows:List (List Tr)},iZ L rows->∀r∈rows,aS L r
 | [],_,r,h=>by cases h
 | r0::rs,h,r,hr=>by
  rw[iZ]at h;rcases d8.1 hr with rfl|hr
  ·exact h.1
  ·exact wx h.2 r hr
def xn:Tr->RC'
 | .lst sz rows=> .arr sz rows
 | .int k n=> .t (.int k n)
 | .bool b=> .t (.bool b)
 | .str s=> .t (.str s)
end Go.Sim
namespace Go.Sim
open Go.RowKit
def Ws (m:Bool)(P:Program)(Γ:Env)(N:Nat)(c:Code)(K:Out->St->Prop)(st:St):Prop:=
 Γ.chk P=true->P.follows .mixedOrders=true->∀(B:Nat) (M:Nat->Prop) (w0:Start) (ρ:Rho) (a:Act) (w:World) (Q:Exit->Act->World->Prop),
  (m=true->(∀b,¬M b)/\∀o,w0.fx o=none)->(∀o v,w0.fx o=some v->o.1=0)->Conc N B M w0 ρ st.fs a w->
  (∀e O5 ρ' a' w',K e O5->Conc N B M w0 ρ' O5.fs a' w'->Q e.at a' w')->c.wp P Q a w
theorem OI:∃F:Bool->Program->Env->Nat->Code->(Out->St->Prop)->St->Prop,F=Ws:=⟨Ws,rfl⟩
noncomputable def Wo:Bool->Program->Env->Nat->Code->(Out->St->Prop)->St->Prop:=Classical.choose OI
theorem mS:Wo=Ws:=t9 OI
theorem OE:∃F:Bool->St->St->Prop,F=LeqG:=⟨LeqG,rfl⟩
noncomputable def Lo:Bool->St->St->Prop:=Classical.choose OE
theorem IV:Lo=LeqG:=t9 OE
attribute [irreducible] Wo Lo
section
variable {P:Program} {Γ:Env} {N:Nat} {m:Bool} {K:Out->St->Prop} {st O5:St} {c x y:Code}
theorem xK (h:W m P Γ N c K st):Wo m P Γ N c K st:=by rw[mS];intro hΓ aF B M w0 ρ a w Q hM hF hc hQ;exact PJ hΓ aF hM hF c K st ρ a w Q h hc hQ
theorem W6 (h:LeqG m st O5):Lo m st O5:=by rw[IV];exact h
theorem W1 (h:Wo m P Γ N x (fun e O5=>(match e with
   | .normal=>Wo m P Γ N y K O5
   | e=>K e O5)) st):Wo m P Γ N (.seq x y) K st:=by
 rw[mS]at *
 intro hΓ aF B M w0 ρ a w Q hM hF hc hQ;refine wp_seq (h hΓ aF B M w0 ρ a w _ hM hF hc fun e O5 ρ' a' w' hK O8=>?_)
 cases e with|normal=>exact hK hΓ aF B M w0 ρ' a' w' Q hM hF O8 hQ|exit id=>exact hQ (.exit id) _ _ _ _ hK O8|pan v=>exact hQ (.pan v) _ _ _ _ hK O8|ret=>exact hQ .ret _ _ _ _ hK O8
theorem lb (ι:Type)(S:ι->St)(h:Wo m P Γ N x (fun e O5=>(match e with
    | .normal=>∃i,Lo m O5 (S i)
    | e=>K e O5)) st) (h2:∀i,Wo m P Γ N y K (S i)):Wo m P Γ N (.seq x y) K st:=by
 rw[mS]at *
 rw[IV]at h;intro hΓ aF B M w0 ρ a w Q hM hF hc hQ;refine wp_seq (h hΓ aF B M w0 ρ a w _ hM hF hc fun e O5 ρ' a' w' hK O8=>?_)
 cases e with|normal=>obtain⟨i,hi⟩:=hK;obtain⟨ρ'',VT⟩:=hi.ok hM hF O8;exact h2 i hΓ aF B M w0 ρ'' a' w' Q hM hF VT hQ|exit id=>exact hQ (.exit id) _ _ _ _ hK O8|pan v=>exact hQ (.pan v) _ _ _ _ hK O8|ret=>exact hQ .ret _ _ _ _ hK O8
theorem W2 {id:Nat}{ops:Array Oper}{draw:Bool}(h:PW P Γ N ops.toList draw st (K .normal)):Wo m P Γ N (.region id ops draw) K st:=xK (c:= .region id ops draw) h
theorem W7 (h:K .normal st):Wo m P Γ N .skip K st:=xK (c:= .skip) h
theorem W8 {id:Nat}(h:K (.exit id) st):Wo m P Γ N (.exit id) K st:=xK (c:= .exit id) h
theorem W9 (h:K .ret st):Wo m P Γ N .ret K st:=xK (c:= .ret) h
theorem W3 {d:Operand}(h:match evL (eb st.fr) d with
   | .r (.c (.t (.bool b)))=>ifB b (Wo m P Γ N x K (Az st d true)) (Wo m P Γ N y K (Az st d false))
   | _=>False):Wo m P Γ N (.cond d x y) K st:=by
 rw[mS]at *
 intro hΓ aF B M w0 ρ a w Q hM hF hc hQ;split at h
 ·rename_i b hb;have hv:=(hc.eval d).1;rw[show evL st.fs.L d=tB b from hb]at hv;refine wp_cond (gK hv) ?_
  cases b with|true=>exact(show Ws m P Γ N x K (Az st d true) from h) hΓ aF B M w0 ρ a w Q hM hF abg hQ|false=>exact(show Ws m P Γ N y K (Az st d false) from h) hΓ aF B M w0 ρ a w Q hM hF abg hQ
 ·exact h.elim
theorem W4 {id:Nat}(h:Wo m P Γ N c (fun e O5=>(match e with
   | .exit id'=>(match Nat.beq id' id with
     | true=>K .normal O5
     | false=>K (.exit id') O5)
   | e=>K e O5)) st):Wo m P Γ N (.block id c) K st:=by
 rw[mS]at *
 intro hΓ aF B M w0 ρ a w Q hM hF hc hQ;refine wp_block (h hΓ aF B M w0 ρ a w _ hM hF hc fun e O5 ρ' a' w' hK O8=>?_);exact V23
theorem W5 (h:∃(ι:Type) (S:ι->St) (μ:ι->Nat) (i0:ι),Lo m st (S i0)/\∀i,Wo m P Γ N c (fun e O5=>(match e with
   | .normal=>∃j,Lo m O5 (S j)/\μ j<μ i
   | e=>K e O5)) (S i)):Wo m P Γ N (.loop c) K st:=by
  rw[mS,IV]at *
  intro hΓ aF B M w0 ρ a w Q hM hF hc hQ
  have ih:∀(K:Out->St->Prop) (st:St) (ρ:Rho) (a:Act) (w:World) (Q:Exit->Act->World->Prop),Ws m P Γ N c K st->Conc N B M w0 ρ st.fs a w->
   (∀e O5 ρ' a' w',K e O5->Conc N B M w0 ρ' O5.fs a' w'->Q e.at a' w')->c.wp P Q a w:=fun K st ρ a w Q h hc hQ=>h hΓ aF B M w0 ρ a w Q hM hF hc hQ
  exact V1
@[reducible] def Wn (m:Bool) (P:Program) (Γ:Env) (N:Nat) (K:Out->St->Prop) (st:St):Code->Prop
 | .skip=>K .normal st
 | .region _ ops draw=>(match draw with
   | false=>nQ P Γ N ops.toList ops.toList st [] fun O5 _=>K .normal O5
   | true=>nQ P Γ N ops.toList ops.toList st [] fun O5 log=>vZ ops.toList log.reverse=true/\K .normal O5)
 | .seq x y=>Wo m P Γ N x (fun e O5=>(match e with
   | .normal=>Wo m P Γ N y K O5
   | e=>K e O5)) st
 | .cond c x y=>(match evL (eb st.fr) c with
   | .r (.c (.t (.bool b)))=>ifB b (Wo m P Γ N x K (Az st c true)) (Wo m P Γ N y K (Az st c false))
   | _=>False)
 | .block id c=>Wo m P Γ N c (fun e O5=>(match e with
   | .exit id'=>(match Nat.beq id' id with
     | true=>K .normal O5
     | false=>K (.exit id') O5)
   | e=>K e O5)) st
 | .loop c=>∃(ι:Type) (S:ι->St) (μ:ι->Nat) (i0:ι),Lo m st (S i0)/\∀i,Wo m P Γ N c (fun e O5=>(match e with
   | .normal=>∃j,Lo m O5 (S j)/\μ j<μ i
   | e=>K e O5)) (S i)
 | .exit id=>K (.exit id) st
 | .ret=>K .ret st
 | _=>False
theorem Wx (h:Wn m P Γ N K st c):Wo m P Γ N c K st:=by
 cases c with
 | skip=>exact W7 h
 | region id ops draw=>
  refine W2 ?_
  cases draw with|false=>exact h|true=>exact .inl h
 | seq x y=>exact W1 h
 | cond d x y=>exact W3 h
 | block id c=>exact W4 h
 | loop c=>exact W5 h
 | exit id=>exact W8 h
 | ret=>exact W9 h
 | label=>exact h.elim
 | _=>exact h.elim
def Mq (H H':Id->Option AO)(L:Nat->AV):List (Nat×AV)->Prop
 | []=>True
 |(i,v)::r=>(v=L i\/∃c t,L i= .r (.c c)/\v= .r (.c (.t t))/\fG H c t/\∀q∈c.ids,H' q=none)/\Mq H H' L r
def Pp (H:Id->Option AO):List (Id×Option AO)->Prop
 | []=>True
 |(q,x)::r=>(x=none\/x=H q)/\Pp H r
theorem uI {H H':Id->Option AO}{L:Nat->AV}:∀{l:List (Nat×AV)} {i:Nat} {v:AV},Mq H H' L l->(i,v)∈l->v=L i\/∃c t,L i= .r (.c c)/\v= .r (.c (.t t))/\fG H c t/\∀q∈c.ids,H' q=none
 | [],_,_,_,h=>by cases h
 |(j,u)::r,i,v,h,hm=>by
  rcases d8.1 hm with e|hm
  ·injection e with e1 e2;subst e1;subst e2;exact h.1
  ·exact uI h.2 hm
theorem Ed {H:Id->Option AO}:∀{l:List (Id×Option AO)} {q:Id} {x:AO},Pp H l->(q,some x)∈l->H q=some x
 | [],_,_,_,h=>by cases h
 |(p,u)::r,q,x,h,hm=>by
  rcases d8.1 hm with e|hm
  ·injection e with e1 e2;subst e1;subst e2;rcases h.1 with e|e
   ·cases e
   ·exact e.symm
  ·exact Ed h.2 hm
theorem kX (O5:St)(h1:Mq (cI st.h) (cI O5.h) (eb st.fr) O5.fr)(h2:Pp (cI st.h) O5.h)(hu:O5.u=st.u)(h:Wo m P Γ N c K O5):Wo m P Γ N c K st:=by
 rw[mS]at *
 intro hΓ aF B M w0 ρ a w Q hM hF hc hQ;refine h hΓ aF B M w0 ρ a w Q hM hF ?_ hQ;have Ra:∀q x,O5.fs.H q=some x->st.fs.H q=some x:=fun q x hq=>Ed h2 (lM hq);have O7:∀b,okB ρ st.fs.H w b->okB ρ O5.fs.H w b:=fun b hb=>⟨hb.1,fun o x ho=>hb.2 o x (Ra o x ho)⟩
 have UR:∀t o,o∈(O5.fs.L t).ids->o∈(st.fs.L t).ids:=fun t o ho=>by
  rcases ka O5.fr t with e|hm
  ·rw[show O5.fs.L t=AV.unk from e]at ho;simp[AV.ids]at ho
  ·rcases uI h1 hm with e|⟨cc,tt,_,e2,_,_⟩
   ·exact(show O5.fs.L t=st.fs.L t from e)▸ho
   ·rw[show O5.fs.L t=_ from e2]at ho;simp[AV.ids,AR.ids,AC.ids]at ho
 refine⟨hc.size,hc.defers,fun t=>?_,fun o x ho=>?_,fun o o' x x' b ho QL=>hc.sep o o' x x' b (Ra o x ho) (Ra o' x' QL),fun o x b ho hb=>hc.rng o x b (Ra o x ho) hb,hc.keep,hc.base,hc.alw,hc.cst,fun o v hv=>⟨(hc.N5 o v hv).1,by have:=(hc.N5 o v hv).2;simpa [St.fs,hu]using this⟩,fun t o ho=>by have:=hc.usedL t o (UR t o ho);simpa [St.fs,hu]using this,fun o x ho=>by have:=hc.usedH o x (Ra o x ho);simpa [St.fs,hu]using this⟩
 ·rcases ka O5.fr t with e|hm
  ·rw[show O5.fs.L t=AV.unk from e];trivial
  ·rcases uI h1 hm with e|⟨cc,tt,e1,e2,e3,e4⟩
   ·rw[show O5.fs.L t=st.fs.L t from e];exact(hc.slot t).keep (fun b hb=>⟨rfl,O7 b hb⟩) fun _ _=>rfl
   ·rw[show O5.fs.L t=_ from e2];have hs:=hc.slot t;rw[show st.fs.L t=_ from e1]at hs;refine lk hc O7 (fun q hq x b hx hb=>?_) hs e3;have hr:=hc.rng q x b hx hb
    exact⟨⟨hr.1,hc.alw b hr.2⟩,fun o y ho Rb=>by
     have P2:o≠q:=fun e=>by
      subst e;have:=e4 o hq;rw[show cI O5.h o=some y from ho]at this
      cases this
     exact hc.sep o q y x b (Ra o y ho) hx P2 Rb hb⟩
 ·exact(hc.obj o x (Ra o x ho)).keep (fun b hb=>⟨rfl,O7 b hb⟩) (fun _ _=>rfl) rfl (fun _ h=>h) fun _ _=>rfl
end
theorem aW {P:Program}{Γ:Env}{f:FuncId}{fn:Func}{c:Code}{ts:List TV}{r:Res}(hΓ:Γ.chk P=true)(aF:P.follows .mixedOrders=true)(hf:P.funcs[f]?=some fn)(hb:fn.body=some c)(hn:(fn.name== "runtime.NumGoroutine")=false)
  (hN:Nat.ble ts.length fn.ntmps=true) (h:Wo true P Γ fn.ntmps c (OQ Γ fn.results.toList r) (st0 ts)):Spec P f ts r:=by
 rw[mS]at h;refine⟨pY hf hb hn,fun w vs S2=>calls_of_wp hf hb ?_⟩;have hc:=rM (N:=fn.ntmps) S2 (E2 hN);refine h hΓ aF _ _ _ _ _ _ _ (fun _=>⟨fun _ h=>h,fun _=>rfl⟩) (fun _ _ h=>by cases h) hc fun e O5 ρ' a' w' hK O8=>?_;exact V21
theorem ax {P:Program}{Γ:Env}{f:FuncId}{fn:Func}{c:Code}{xs:List AV}{h0:List (Id×AO)}{r:AV}{h1:List (Id×AO)}(hΓ:Γ.chk P=true)(aF:P.follows .mixedOrders=true)(hf:P.funcs[f]?=some fn)(hb:fn.body=some c)(hn:(fn.name== "runtime.NumGoroutine")=false)
  (hN:Nat.ble xs.length fn.ntmps=true) (Rv:uJ xs h0 .unk []=true) (h:Wo false P Γ fn.ntmps c (OV Γ fn.results.toList r h1) (stG xs h0)):bh P f xs h0 r h1:=by
 rw[mS]at h;refine⟨pY hf hb hn,fun w vs ρ S2 hl QZ=>calls_of_wp hf hb ?_⟩;have hc:=wy (N:=fn.ntmps) Rv S2 hl QZ (E2 hN)
 have hF:∀o v,(if(lkH h0 o).isSome=true then some (ρ o)else none)=some v->o.1=0:=fun o v hv=>by
  exact V80
 refine h hΓ aF _ _ _ _ _ _ _ s_ hF hc fun e O5 ρ' a' w' hK O8=>?_;exact V7
def vwC (H H':Id->Option AO)(c d:AC):Prop:=d=c\/(∃n m,c= .nils n/\d= .nils m)\/∃t,d= .t t/\fG H c t/\∀q∈c.ids,H' q=none
def Jy (H H':Id->Option AO):List AC->List AC->Prop
 | [],[]=>True
 | c::cs,d::ds=>vwC H H' c d/\Jy H H' cs ds
 | _,_=>False
def OY (H H':Id->Option AO)(L:Nat->AV):List (Nat×AV)->Prop
 | []=>True
 |(i,v)::r=>(v=L i\/(∃c d,L i= .r (.c c)/\v= .r (.c d)/\vwC H H' c d)\/∃cs ds,L i= .r (.agg cs)/\v= .r (.agg ds)/\Jy H H' cs ds)/\OY H H' L r
def vwO (H H':Id->Option AO)(y x:Option AO):Prop:=x=y\/(∃cs ds,y=some (.box cs)/\x=some (.box ds)/\Jy H H' cs ds)\/
 ∃sz rows i off n row t,y=some (.dar sz rows (some (i,off,n)))/\rows[i]?=some row/\off<sz/\fG H (.own n) t/\H' n=none/\x=some (.dar sz (rows.set i (row.set off (.t t))) none)
def vwH (H H':Id->Option AO):List (Id×Option AO)->Prop
 | []=>True
 |(q,x)::r=>(x=none\/vwO H H' (H q) x)/\vwH H H' r
theorem yr {H H':Id->Option AO}{L:Nat->AV}:∀{l:List (Nat×AV)} {i:Nat} {v:AV},OY H H' L l->(i,v)∈l->(v=L i\/(∃c d,L i= .r (.c c)/\v= .r (.c d)/\vwC H H' c d)\/∃cs ds,L i= .r (.agg cs)/\v= .r (.agg ds)/\Jy H H' cs ds)
 | [],_,_,_,h=>by cases h
 |(j,u)::r,i,v,h,hm=>by
  rcases d8.1 hm with e|hm
  ·injection e with e1 e2;subst e1;subst e2;exact h.1
  ·exact yr h.2 hm
theorem IZ {H H':Id->Option AO}:∀{l:List (Id×Option AO)} {q:Id} {x:AO},vwH H H' l->(q,some x)∈l->vwO H H' (H q) (some x)
 | [],_,_,_,h=>by cases h
 |(p,u)::r,q,x,h,hm=>by
  rcases d8.1 hm with e|hm
  ·injection e with e1 e2;subst e1;subst e2;rcases h.1 with e|e
   ·cases e
   ·exact e
  ·exact IZ h.2 hm
theorem Ii {H H':Id->Option AO}{c d:AC}(h:vwC H H' c d):∀o∈d.ids,o∈c.ids:=by
 rcases h with rfl|⟨n,m,rfl,rfl⟩|⟨t,rfl,_⟩
 ·exact fun _ h=>h
 ·intro o ho;simp[AC.ids]at ho
 ·intro o ho;simp[AC.ids]at ho
theorem zi {H H':Id->Option AO}:∀{cs ds:List AC},Jy H H' cs ds->∀o∈ds.flatMap AC.ids,o∈cs.flatMap AC.ids
 | [],[],_,_,h=>h
 | c::cs,d::ds,h,o,ho=>by
  simp only[v3,f0]at ho⊢
  exact ho.imp (Ii h.1 o) (zi h.2 o)
 | [],_::_,h,_,_=>h.elim
 | _::_,[],h,_,_=>h.elim
section
variable {P:Program} {Γ:Env} {N:Nat} {m:Bool} {K:Out->St->Prop} {st O5:St} {c x y:Code}
theorem oK (O5:St)(h1:Lo m st O5)(h:Wo m P Γ N c K O5):Wo m P Γ N c K st:=by
 rw[mS]at *
 rw[IV]at h1;intro hΓ aF B M w0 ρ a w Q hM hF hc hQ;obtain⟨ρ',O8⟩:=h1.ok hM hF hc;exact h hΓ aF B M w0 ρ' a w Q hM hF O8 hQ
theorem lC (O5:St)(h1:OY (cI st.h) (cI O5.h) (eb st.fr) O5.fr)(h2:vwH (cI st.h) (cI O5.h) O5.h)(hu:O5.u=st.u)(h:Wo m P Γ N c K O5):Wo m P Γ N c K st:=by
 rw[mS]at *
 intro hΓ aF B M w0 ρ a w Q hM hF hc hQ;refine h hΓ aF B M w0 ρ a w Q hM hF ?_ hQ;have hO:∀q x,O5.fs.H q=some x->vwO (cI st.h) (cI O5.h) (cI st.h q) (some x):=fun q x hq=>IZ h2 (lM hq)
 have Ra:∀q x,O5.fs.H q=some x->∃y,st.fs.H q=some y:=fun q x hq=>by
  rcases hO q x hq with e|⟨cs,ds,e,_⟩|⟨_,_,_,_,_,_,_,e,_⟩
  ·exact⟨x,e.symm⟩
  ·exact⟨_,e⟩
  ·exact⟨_,e⟩
 have O7:∀b,okB ρ st.fs.H w b->okB ρ O5.fs.H w b:=fun b hb=>⟨hb.1,fun o x ho=>by obtain⟨y,hy⟩:=Ra o x ho;exact hb.2 o y hy⟩
 have XV:∀q,cI O5.h q=none->∀x b,st.fs.H q=some x->Own ρ q b->okB ρ O5.fs.H w b:=by
  intro q hq x b hx hb;have hr:=hc.rng q x b hx hb;refine⟨⟨hr.1,hc.alw b hr.2⟩,fun o y ho Rb=>?_⟩
  have P2:o≠q:=fun e=>by
   subst e;rw[show O5.fs.H o=none from hq]at ho
   cases ho
  obtain⟨y',UO⟩:=Ra o y ho;exact hc.sep o q y' x b UO hx P2 Rb hb
 have P5:∀{v:Value} {c d:AC},RC B ρ w (okB ρ st.fs.H w) v c->vwC (cI st.h) (cI O5.h) c d->RC B ρ w (okB ρ O5.fs.H w) v d:=by
  intro v c d hv ZK;rcases ZK with rfl|⟨n,m,rfl,rfl⟩|⟨t,rfl,e3,e4⟩
  ·exact hv.keep (fun b hb=>⟨rfl,O7 b hb⟩) fun _ _=>rfl
  ·exact hv
  ·exact lk hc O7 (fun q hq x b hx hb=>XV q (e4 q hq) x b hx hb) hv e3
 have QH:∀{vs:List Value} {cs ds:List AC},RCs B ρ w (okB ρ st.fs.H w) vs cs->Jy (cI st.h) (cI O5.h) cs ds->RCs B ρ w (okB ρ O5.fs.H w) vs ds:=by
  intro vs
  induction vs with
  | nil=>
   intro cs ds h1 h2
   cases cs with
   | nil=>cases ds with
    | nil=>trivial
    | cons=>exact h2.elim
   | cons=>exact h1.elim
  | cons v vs ih=>
   intro cs ds h1 h2
   cases cs with
   | nil=>exact h1.elim
   | cons c cs=>cases ds with
    | nil=>exact h2.elim
    | cons d ds=>exact⟨P5 h1.1 h2.1,ih h1.2 h2.2⟩
 have UR:∀t o,o∈(O5.fs.L t).ids->o∈(st.fs.L t).ids:=fun t o ho=>by
  rcases ka O5.fr t with e|hm
  ·rw[show O5.fs.L t=AV.unk from e]at ho;simp[AV.ids]at ho
  ·rcases yr h1 hm with e|⟨c,d,e1,e2,e3⟩|⟨cs,ds,e1,e2,e3⟩
   ·exact(show O5.fs.L t=st.fs.L t from e)▸ho
   ·rw[show O5.fs.L t=_ from e2]at ho;rw[show st.fs.L t=_ from e1];exact Ii e3 o ho
   ·rw[show O5.fs.L t=_ from e2]at ho;rw[show st.fs.L t=_ from e1];exact zi e3 o ho
 refine⟨hc.size,hc.defers,fun t=>?_,fun o x ho=>?_,fun o o' x x' b ho QL=>by obtain⟨y,hy⟩:=Ra o x ho;obtain⟨y',UO⟩:=Ra o' x' QL;exact hc.sep o o' y y' b hy UO,fun o x b ho hb=>by obtain⟨y,hy⟩:=Ra o x ho;exact hc.rng o y b hy hb,hc.keep,hc.base,hc.alw,hc.cst,fun o v hv=>⟨(hc.N5 o v hv).1,by have:=(hc.N5 o v hv).2;simpa [St.fs,hu]using this⟩,fun t o ho=>by have:=hc.usedL t o (UR t o ho);simpa [St.fs,hu]using this,fun o x ho=>?_⟩
 ·rcases ka O5.fr t with e|hm
  ·rw[show O5.fs.L t=AV.unk from e];trivial
  ·rcases yr h1 hm with e|⟨c,d,e1,e2,e3⟩|⟨cs,ds,e1,e2,e3⟩
   ·rw[show O5.fs.L t=st.fs.L t from e];exact(hc.slot t).keep (fun b hb=>⟨rfl,O7 b hb⟩) fun _ _=>rfl
   ·rw[show O5.fs.L t=_ from e2];have hs:=hc.slot t;rw[show st.fs.L t=_ from e1]at hs;exact P5 hs e3
   ·rw[show O5.fs.L t=_ from e2];have hs:=hc.slot t;rw[show st.fs.L t=_ from e1]at hs;obtain⟨us,hv,hs⟩:=hs;exact⟨us,hv,QH hs e3⟩
 ·rcases hO o x ho with e|⟨cs,ds,e1,e2,e3⟩|⟨sz,rows,i,off,n,row,t,e1,e2,e3,e4,e5,e6⟩
  ·exact(hc.obj o x e.symm).keep (fun b hb=>⟨rfl,O7 b hb⟩) (fun _ _=>rfl) rfl (fun _ h=>h) fun _ _=>rfl
  ·injection e2 with e2;subst e2;obtain⟨b,cur,t,fz,g1,g2,g3,g4⟩:=hc.obj o _ e1;exact⟨b,cur,t,fz,g1,g2,g3,QH g4 e3⟩
  ·injection e6 with e6;subst e6;obtain⟨Rp,g⟩:=hc.obj o _ e1
   have P9:∀r∈rows.set i (row.set off (DC.t t)),r.length=sz:=fun r hr=>by
    rcases u9 hr with h'|h'
    ·exact Rp r h'
    ·rw[h',o8];exact Rp row (c9 e2)
   refine⟨P9,?_⟩;rcases g with⟨_,_,g⟩|⟨b,cap,cur,e,fz,Fp,g1,g2,g3,g4,g5,g6,g7,g8,g9⟩
   ·cases g
   ·refine .inr ⟨b,cap,cur,e,fz,Fp,by rw[o8];exact g1,g2,g3,by rw[o8];exact g4,g5,g6,g7,g8,?_⟩
    have P7:=lR (off:=off) (row:=row) (row':=row.set off (DC.t t)) (ts:=[DC.t t]) (sz:=sz) (by have:=Rp row (c9 e2);simp;omega) (by
     rw[List.set_eq_take_append_cons_drop,b9 (by have:=Rp row (c9 e2);omega)];simp) rows i Rp e2
    have hi:i<rows.length:=by
     rcases n5 i rows.length with h'|h'
     ·exact h'
     ·rw[e9 h']at e2;cases e2
    have Yf:=bm sz rows Rp;have P6:(i+1)*sz<=rows.length*sz:=m5 _ hi;have hm:(i+1)*sz=i*sz+sz:=(by rw[p8];omega);have O2:i*sz+off+[DC.t t].length<=rows.flatten.length:=(by rw[Yf];simp;omega);refine⟨?_,fun p v d hv hd=>?_⟩
    ·rw[o8,P7];have:=g9.1;simp only[c7,k0,y9]at this⊢;omega
    ·rw[o8]at hv;simp only[cT];rw[P7,Ae O2]at hd;have h9:=g9.2 p v;by_cases q1:p=i*sz+off
     ·rw[b8 o_,b9 aad]at hd;have q2:p-(i*sz+off)=0:=o_;rw[q2,f9]at hd;injection hd with hd;subst hd;obtain⟨d0,Vk⟩:∃d0,rows.flatten[p]?=some d0:=⟨_,i9 (by rw[q1];simp at O2;omega)⟩;have:=h9 d0 hv Vk;simp only[cT,b9 q1]at this;rw[this.1]
      have Su:∃A n' c',ρ n= .slice A n' c':=by
       simp only[fG]at e4;split at e4
       ·rename_i fr QQ rows' hq;obtain⟨_,g⟩:=hc.obj n _ hq;rcases g with⟨g,_⟩|⟨_,_,_,_,_,g,_⟩
        ·exact⟨_,_,_,g⟩
        ·exact⟨_,_,_,g⟩
       ·rename_i QQ rows' hq;obtain⟨_,g⟩:=hc.obj n _ hq;rcases g with⟨g,_⟩|⟨_,_,_,_,_,_,g,_⟩
        ·exact⟨_,_,_,g⟩
        ·exact⟨_,_,_,g⟩
       ·exact e4.elim
      exact lk (c:= .own n) (v:=ρ n) hc O7 (fun q hq x b hx hb=>by
       simp only[AC.ids,d8,m8,or_false]at hq;subst hq
       exact XV _ e5 x b hx hb) ⟨Su,rfl⟩ e4
     ·have TL:rows.flatten[p]?=some d:=by
       split at hd
       ·exact hd
       ·rw[b8 aad]at hd;exact hd
      have:=h9 d hv TL;simp only[cT,b8 q1]at this;exact RD.keep this (fun b hb=>⟨rfl,O7 b hb⟩) fun _ h=>⟨rfl,h⟩
 ·rcases hO o x ho with e|⟨cs,ds,e1,e2,e3⟩|⟨sz,rows,i,off,n,row,t,e1,e2,e3,e4,e5,e6⟩
  ·have:=hc.usedH o x e.symm;simpa [St.fs,hu]using this
  ·injection e2 with e2;subst e2;obtain⟨k1,k2⟩:=hc.usedH o _ e1;refine⟨by simpa [St.fs,hu]using k1,fun o' QL=>?_⟩;have:=k2 o' (zi e3 o' QL);simpa [St.fs,hu]using this
  ·injection e6 with e6;subst e6;obtain⟨k1,k2⟩:=hc.usedH o _ e1;exact⟨by simpa [St.fs,hu]using k1,fun o' QL=>by simp[AO.ids]at QL⟩
def gvR:List (List DC)->List (List DC)->Prop
 | [],[]=>True
 | r::rs,t::ts=>(r.length=t.length/\∀(p:Nat) (c d:DC),r[p]?=some c->t[p]?=some d->d=c\/d=DC.t c.tr\/∃a b,c.tr= .lst a []/\d=DC.t (.lst b []))/\gvR rs ts
 | _,_=>False
theorem pR:∀{rs ts:List (List DC)},gvR rs ts->rs.length=ts.length
 | [],[],_=>rfl
 | _::_,_::_,h=>by rw[d6,d6,pR h.2]
 | [],_::_,h=>h.elim
 | _::_,[],h=>h.elim
theorem FK {sz:Nat}:∀{rs ts:List (List DC)},gvR rs ts->(∀r∈rs,r.length=sz)->∀r∈ts,r.length=sz
 | [],[],_,_,_,h=>by cases h
 | r::rs,t::ts,h,hu,x,hx=>by
  rcases d8.1 hx with rfl|hx
  ·rw[<-h.1.1];exact hu r s_
  ·exact FK h.2 (fun r hr=>hu r aaX) x hx
 | [],_::_,h,_,_,_=>h.elim
 | _::_,[],h,_,_,_=>h.elim
theorem V46{p:Prop}(h:p:=by
 refine⟨by simp only[t7,c7,h.1.1,h1],fun p c d hc hd=>?_⟩;rw[t7,H3]at hc hd;rw[h.1.1]at hc;split at hc
 ·rename_i hp;rw[b9 hp]at hd;exact h.1.2 p c d hc hd
 ·rename_i hp;rw[b8 hp]at hd;exact h2 _ c d hc hd):p:=h
theorem EC:∀{rs ts:List (List DC)},gvR rs ts->rs.flatten.length=ts.flatten.length/\∀(p:Nat) (c d:DC),rs.flatten[p]?=some c->ts.flatten[p]?=some d->d=c\/d=DC.t c.tr\/∃a b,c.tr= .lst a []/\d=DC.t (.lst b [])
 | [],[],_=>⟨rfl,fun p c d h=>by simp at h⟩
 | r::rs,t::ts,h=>by
  obtain⟨h1,h2⟩:=EC h.2
  exact V46
 | [],_::_,h=>h.elim
 | _::_,[],h=>h.elim
theorem RT.empty {w:World}{ok:Nat->Prop}{v:Value}{a b:Nat}(h:RT w ok v (.lst a [])):RT w ok v (.lst b []):=by
 cases h with
 | emp A c sz hc=>exact .emp _ _ _ hc
 | lst ad n c sz rows us hn hc hm hu O7 hl P5 RN=>
  have:n=0:=by simpa using hn.symm
  subst this;exact .emp _ _ _ hm
theorem V85{p:Prop}(h:p:=by
 have:p<rows'.flatten.length:=by
  rcases n5 p rows'.flatten.length with h'|h'
  ·exact h'
  ·rw[e9 h']at hd;cases hd
 exact⟨_,i9 o_⟩):p:=h
theorem JQ (o:Id){sz:Nat}{rows rows':List (List DC)}(ho:cI st.h o=some (.dar sz rows none))(hg:gvR rows rows')(h:Wo m P Γ N c K ⟨st.fr,(o,some (.dar sz rows' none))::st.h,st.u⟩):Wo m P Γ N c K st:=by
 rw[mS]at *
 intro hΓ aF B M w0 ρ a w Q hM hF hc hQ
 have P2:∀q,q≠o->cI ((o,some (AO.dar sz rows' none))::st.h) q=cI st.h q:=fun q hq=>by
  have:gw q o=false:=by cases hb:gw q o with|false=>rfl|true=>exact absurd (idEq_iff.1 hb) hq
  simp[cI,this]
 have Ui:cI ((o,some (AO.dar sz rows' none))::st.h) o=some (.dar sz rows' none):=by have:gw o o=true:=idEq_iff.2 rfl;simp[cI,this]
 obtain⟨hu,g⟩:=hc.obj o _ ho
 have key:∃ρ':Rho,ρ'.val=ρ.val/\ρ'.al=ρ.al/\(∀q,q≠o->∀b,ρ'.fp q b↔ρ.fp q b)/\(∀b,ρ'.fp o b->ρ.fp o b)/\∀ok':Nat->Prop,(∀b,okB ρ st.fs.H w b->ok' b)->(∀b,ρ.fp o b->blk (ρ o)≠some b->¬ρ'.fp o b->ok' b)->RO B ρ' w ok' o (.dar sz rows' none):=by
  rcases g with⟨g1,g2,g3⟩|⟨b,cap,cur,e,fz,Fp,g1,g2,g3,g4,g5,g6,g7,g8,g9⟩
  ·subst g2
   have:rows'=[]:=by have:=pR hg;exact z4.1 this.symm
   subst this;exact⟨ρ,rfl,rfl,fun _ _ _=>Iff.rfl,fun _ h=>h,fun ok' _ _=>⟨fun r hr=>by simp at hr,.inl ⟨g1,rfl,rfl⟩⟩⟩
  ·obtain⟨f1,f2⟩:=EC hg
   refine⟨⟨ρ.val,fun q c=>if q=o then(∃p x,rows'.flatten[p]?=some (.d x)/\Fp p c)else ρ.fp q c,ρ.al⟩,rfl,rfl,fun q hq b=>by simp only[b8 hq],fun c Tx=>by
    simp only[if_true]at Tx;obtain⟨p,_,_,hp⟩:=Tx
    exact(g7 p c hp).1,fun ok' hk Rf=>⟨FK hg hu,.inr ⟨b,cap,cur,e,fz,fun p c=>(∃x,rows'.flatten[p]?=some (.d x))/\Fp p c,by rw[<-pR hg];exact g1,g2,g3,by rw[<-pR hg];exact g4,g5,g6,fun p c Sn=>?_,fun p q c WT h1 h2=>g8 p q c WT h1.2 h2.2,?_,fun p v d hv hd=>?_⟩⟩⟩
   ·refine⟨?_,(g7 p c Sn.2).2⟩;simp only[if_true];obtain⟨⟨x,hx⟩,h2⟩:=Sn;exact⟨p,x,hx,h2⟩
   ·rw[<-f1,<-pR hg];exact g9.1
   ·rw[<-pR hg]at hv;simp only[cT]
    obtain⟨c0,Tw⟩:∃c0,rows.flatten[p]?=some c0:=by exact V85
    have:=g9.2 p v c0 hv Tw;simp only[cT]at this
    have UH:(∀x,c0= .d x->d≠.d x)->RT w ok' v c0.tr:=by
     intro P2
     cases c0 with
     | t x=>exact RT.keep this fun b' Rc=>⟨rfl,hk b' Rc⟩
     | d x=>
      refine DT.toRT this fun b' Rc=>Rf b' (g7 p b' Rc).1 (fun SS=>?_) fun hf=>?_
      ·rw[g1]at SS;injection SS with SS;exact(g7 p b' Rc).2 SS.symm
      ·simp only[if_true]at hf;obtain⟨q,y,hq,WE⟩:=hf;by_cases WT:p=q
       ·subst WT;rw[hd]at hq;injection hq with hq;subst hq;rcases f2 p _ _ Tw hd with e|e|⟨_,_,_,e⟩
        ·exact P2 x rfl e
        ·cases e
        ·cases e
       ·exact g8 p q b' WT Rc WE
    rcases f2 p c0 d Tw hd with rfl|rfl|⟨a1,b1,ea,rfl⟩
    ·cases d with
     | t x=>exact RT.keep this fun b' Rc=>⟨rfl,hk b' Rc⟩
     | d x=>exact DT.keep this fun b' Rc=>⟨rfl,⟨x,hd⟩,Rc⟩
    ·exact UH fun x _ e=>by cases e
    ·have:=UH fun x _ e=>by cases e
     rw[ea]at this;exact RT.empty this
 obtain⟨ρ',r1,r2,r3,r4,r5⟩:=key;have hv:∀q,ρ' q=ρ q:=fun q=>by show ρ'.val q=ρ.val q;rw[r1]
 have P8:∀q b,Own ρ' q b->Own ρ q b:=fun q b hb=>by
  rcases hb with hb|hb
  ·exact .inl (by rw[<-hv q];exact hb)
  ·by_cases hq:q=o
   ·subst hq;exact .inr (r4 b hb)
   ·exact .inr ((r3 q hq b).1 hb)
 refine h hΓ aF B M w0 ρ' a w Q hM hF ?_ hQ
 have Ra:∀q x,cI ((o,some (AO.dar sz rows' none))::st.h) q=some x->∃y,cI st.h q=some y:=fun q x hx=>by
  by_cases hq:q=o
  ·subst hq;exact⟨_,ho⟩
  ·rw[P2 q hq]at hx;exact⟨x,hx⟩
 have O7:∀b,okB ρ st.fs.H w b->okB ρ' (cI ((o,some (AO.dar sz rows' none))::st.h)) w b:=fun b hb=>⟨⟨hb.1.1,by rw[r2];exact hb.1.2⟩,fun q x hx Rb=>by obtain⟨y,hy⟩:=Ra q x hx;exact hb.2 q y hy (P8 q b Rb)⟩
 refine⟨hc.size,hc.defers,fun t=>(hc.slot t).keep (fun b hb=>⟨rfl,O7 b hb⟩) fun q _=>hv q,fun q x hx=>?_,fun q q' x x' b hx TA hqq hb Rc=>by
   obtain⟨y,hy⟩:=Ra q x hx;obtain⟨y',UO⟩:=Ra q' x' TA
   exact hc.sep q q' y y' b hy UO hqq (P8 q b hb) (P8 q' b Rc),fun q x b hx hb=>by obtain⟨y,hy⟩:=Ra q x hx;exact hc.rng q y b hy (P8 q b hb),hc.keep,hc.base,fun b hb=>by rw[r2];exact hc.alw b hb,by rw[r2];exact hc.cst,fun q v hq=>⟨by rw[hv];exact(hc.N5 q v hq).1,(hc.N5 q v hq).2⟩,hc.usedL,fun q x hx=>?_⟩
 ·by_cases hq:q=o
  ·subst hq;have TA:=hx;rw[show(St.fs ⟨st.fr,(q,some (AO.dar sz rows' none))::st.h,st.u⟩).H q=cI ((q,some (AO.dar sz rows' none))::st.h) q from rfl,Ui]at TA;injection TA with TA;subst TA;refine r5 _ O7 fun b hb SS SX=>⟨⟨(hc.rng q _ b ho (.inr hb)).1,by rw[r2];exact hc.alw b (hc.rng q _ b ho (.inr hb)).2⟩,fun q' x' hx2 Rb=>?_⟩;by_cases P4:q'=q
   ·subst P4;rcases Rb with Rb|Rb
    ·exact SS (by rw[<-hv q'];exact Rb)
    ·exact SX Rb
   ·obtain⟨y',UO⟩:=Ra q' x' hx2;exact hc.sep q' q y' _ b UO ho P4 (P8 q' b Rb) (.inr hb)
  ·have TA:cI st.h q=some x:=(by rw[<-P2 q hq];exact hx);exact(hc.obj q x TA).keep (fun b hb=>⟨rfl,O7 b hb⟩) (fun _ _=>hv _) (hv q) (fun b hb=>(r3 q hq b).2 hb) fun _ _=>rfl
 ·by_cases hq:q=o
  ·subst hq;have TA:=hx;rw[show(St.fs ⟨st.fr,(q,some (AO.dar sz rows' none))::st.h,st.u⟩).H q=cI ((q,some (AO.dar sz rows' none))::st.h) q from rfl,Ui]at TA;injection TA with TA;subst TA;exact⟨(hc.usedH q _ ho).1,fun o' QL=>by simp[AO.ids]at QL⟩
  ·have TA:cI st.h q=some x:=(by rw[<-P2 q hq];exact hx);exact hc.usedH q x TA
end
def emE (c d:Tr):Prop:=d=c\/∃a b,c= .lst a []/\d= .lst b []
def emR:List (List Tr)->List (List Tr)->Prop
 | [],[]=>True
 | r::rs,t::ts=>(r.length=t.length/\∀(p:Nat) (c d:Tr),r[p]?=some c->t[p]?=some d->emE c d)/\emR rs ts
 | _,_=>False
theorem DK:∀{rs ts:List (List Tr)},emR rs ts->rs.length=ts.length
 | [],[],_=>rfl
 | _::_,_::_,h=>by rw[d6,d6,DK h.2]
 | [],_::_,h=>h.elim
 | _::_,[],h=>h.elim
theorem EJ {sz:Nat}:∀{rs ts:List (List Tr)},emR rs ts->(∀r∈rs,r.length=sz)->∀r∈ts,r.length=sz
 | [],[],_,_,_,h=>by cases h
 | r::rs,t::ts,h,hu,x,hx=>by
  rcases d8.1 hx with rfl|hx
  ·rw[<-h.1.1];exact hu r s_
  ·exact EJ h.2 (fun r hr=>hu r aaX) x hx
 | [],_::_,h,_,_,_=>h.elim
 | _::_,[],h,_,_,_=>h.elim
theorem Es:∀{rs ts:List (List Tr)},emR rs ts->rs.flatten.length=ts.flatten.length/\∀(p:Nat) (c d:Tr),rs.flatten[p]?=some c->ts.flatten[p]?=some d->emE c d
 | [],[],_=>⟨rfl,fun p c d h=>by simp at h⟩
 | r::rs,t::ts,h=>by
  obtain⟨h1,h2⟩:=Es h.2
  exact V46
 | [],_::_,h=>h.elim
 | _::_,[],h=>h.elim
theorem RT.rows {w:World}{ok:Nat->Prop}{v:Value}{sz:Nat}{rows rows':List (List Tr)}(h:RT w ok v (.lst sz rows))(hg:emR rows rows'):RT w ok v (.lst sz rows'):=by
 cases h with
 | emp A c sz hc=>
  have:rows'=[]:=z4.1 (DK hg).symm;subst this
  exact .emp _ _ _ hc
 | lst ad n c sz rows us hn hc hm hu O7 hl P5 RN=>
  obtain⟨f1,f2⟩:=Es hg;refine .lst ad n c sz rows' us ((DK hg).symm.trans hn) hc hm (EJ hg hu) O7 (hl.trans f1) P5 fun p v d hv hd=>?_
  obtain⟨c0,Tw⟩:∃c0,rows.flatten[p]?=some c0:=by exact V85
  have:=RN p v c0 hv Tw;rcases f2 p c0 d Tw hd with rfl|⟨a,b,rfl,rfl⟩
  ·exact this
  ·exact RT.empty this
section
variable {P:Program} {Γ:Env} {N:Nat} {m:Bool} {K:Out->St->Prop} {st:St} {c:Code}
theorem vT (i:Nat){sz:Nat}{rows rows':List (List Tr)}(hi:eb st.fr i= .r (.c (.t (.lst sz rows))))(hg:emR rows rows')(h:Wo m P Γ N c K ⟨(i,.r (.c (.t (.lst sz rows'))))::st.fr,st.h,st.u⟩):Wo m P Γ N c K st:=by
 rw[mS]at *
 intro hΓ aF B M w0 ρ a w Q hM hF hc hQ;refine h hΓ aF B M w0 ρ a w Q hM hF ?_ hQ
 have Wt:∀t,t≠i->eb ((i,AV.r (.c (.t (.lst sz rows'))))::st.fr) t=eb st.fr t:=fun t ht=>by
  have:Nat.beq t i=false:=by cases hb:Nat.beq t i with|false=>rfl|true=>exact absurd (t8 hb) ht
  simp[eb,this]
 have Zr:eb ((i,AV.r (.c (.t (.lst sz rows'))))::st.fr) i= .r (.c (.t (.lst sz rows'))):=by simp[eb]
 refine⟨hc.size,hc.defers,fun t=>?_,hc.obj,hc.sep,hc.rng,hc.keep,hc.base,hc.alw,hc.cst,hc.N5,fun t o ho=>?_,hc.usedH⟩
 ·by_cases ht:t=i
  ·subst ht;have hs:=hc.slot t;rw[show st.fs.L t=_ from hi]at hs;show RV _ _ _ _ _ (eb _ t);rw[Zr];exact RT.rows hs hg
  ·show RV _ _ _ _ _ (eb _ t);rw[Wt t ht];exact hc.slot t
 ·have ho:o∈(eb ((i,AV.r (.c (.t (.lst sz rows'))))::st.fr) t).ids:=ho;by_cases ht:t=i
  ·subst ht;rw[Zr]at ho;simp[AV.ids,AR.ids,AC.ids]at ho
  ·rw[Wt t ht]at ho;exact hc.usedL t o ho
end
section
variable {P:Program} {Γ:Env} {N:Nat} {m:Bool} {K:Out->St->Prop} {st:St} {ops:List Oper}
end
section
variable {N B:Nat} {M:Nat->Prop} {w0:Start} {ρ:Rho} {s:F_} {a:Act} {w:World}
end
section
variable {P:Program} {ops:Array Oper} {Q:Exit->Act->List Frame->World->Prop} {a:Act} {cs:List Frame} {w:World}
end
theorem Conc.frame {N N' B:Nat}{M:Nat->Prop}{w0:Start}{ρ:Rho}{s:F_}{a a':Act}{w:World}(hc:Conc N B M w0 ρ s a w)(L':Nat->AV)(RK:a'.tmps.size=N')(hs:∀t,RV B ρ w (okB ρ s.H w) (a'.tmps.getD t undef) (L' t))(hi:∀t o,o∈(L' t).ids->s.U o.1):
  Conc N' B M ⟨w0.w,w0.al,w0.fx,a'.defers⟩ ρ ⟨L',s.H,s.U⟩ a' w:=
 ⟨RK,rfl,hs,hc.obj,hc.sep,hc.rng,hc.keep,hc.base,hc.alw,hc.cst,hc.N5,hi,hc.usedH⟩
section
variable {P:Program} {Γ:Env} {N B:Nat} {M:Nat->Prop} {w0:Start} {ρ:Rho} {a:Act} {w:World}
end
end Go.Sim
