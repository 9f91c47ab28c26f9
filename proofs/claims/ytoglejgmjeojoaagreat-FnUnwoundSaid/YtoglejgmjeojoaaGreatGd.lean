import Derived.Test.YtoglejgmjeojoaaGreatGc
namespace Go.Sim
open Go.RowKit
abbrev Ren:=List (Id×Option (Id×Option Nat))
def gK:Ren->Id->Option (Option (Id×Option Nat))
 | [],_=>none
 |(i,x)::r,o=>bif fu o i then some x else gK r o
def HD:Option (Id×Option Nat)->Option (Id×Option Nat)->Prop
 | none,none=>True
 | some (a,none),some (b,none)=>fu a b=true
 | some (a,some k),some (b,some k')=>fu a b=true/\k=k'
 | _,_=>False
def tie (r:Ren)(o:Id)(x:Option (Id×Option Nat))(K:Ren->Prop):Prop:=
 match gK r o with|some y=>HD y x/\K r|none=>K ((o,x)::r)
def leC (r:Ren):AC->AC->(Ren->Prop)->Prop
 | .t x,.t y,K=>x=y/\K r
 | .f x,.t y,K=>x=y/\K r
 | .f x,.f y,K=>x=y/\K r
 | .nils _,.t y,K=>(∃sz,y= .lst sz [])/\K r
 | .nils _,.f y,K=>(∃sz,y= .lst sz [])/\K r
 | .nils _,.nils _,K=>K r
 | .nils _,.own o',K=>tie r o' none K
 | .nilp,.nilp,K=>K r
 | .own o,.own o',K=>tie r o' (some (o,none)) K
 | .sub o k,.sub o' k',K=>k=k'/\tie r o' (some (o,none)) K
 | .sub o k,.own o',K=>tie r o' (some (o,some k)) K
 | .ptr o n,.ptr o' n',K=>n=n'/\tie r o' (some (o,none)) K
 | .mpv o,.mpv o',K=>tie r o' (some (o,none)) K
 | _,.opq,K=>K r
 | _,_,_=>False
abbrev Gl (r:Ren):List AC->List AC->(Ren->Prop)->Prop
 | [],[],K=>K r
 | x::xs,y::ys,K=>leC r x y fun r=>Gl r xs ys K
 | _,_,_=>False
def leR (r:Ren):AR->AR->(Ren->Prop)->Prop
 | .c x,.c y,K=>leC r x y K
 | .agg xs,.agg ys,K=>Gl r xs ys K
 | _,_,_=>False
abbrev Kf (r:Ren):List AR->List AR->(Ren->Prop)->Prop
 | [],[],K=>K r
 | x::xs,y::ys,K=>leR r x y fun r=>Kf r xs ys K
 | _,_,_=>False
def leV (r:Ren)(x:AV):AV->(Ren->Prop)->Prop
 | .unk,K=>K r
 | .r y,K=>(match x with
   | .r x=>leR r x y K
   | _=>False)
 | .tup ys,K=>(match x with
   | .tup xs=>Kf r xs ys K
   | _=>False)
 | .el o' MR i' Ri,K=>(match x with
   | .el o sz i off=>sz=MR/\i=i'/\off=Ri/\tie r o' (some (o,none)) K
   | _=>False)
 | .ro fr' row' Ri,K=>(match x with
   | .ro fr row off=>fr=fr'/\row=row'/\off=Ri/\K r
   | _=>False)
abbrev Kr (fr:List (Nat×AV)):List (Nat×AV)->Ren->(Ren->Prop)->Prop
 | [],r,K=>K r
 |(t,y)::rest,r,K=>leV r (di fr t) y fun r=>Kr fr rest r K
def leB (m fr fr':Bool)(rows:List (List Tr)):Prop:=
 match fr' with
 | false=>True
 | true=>(match fr with
   | true=>True
   | false=>m=true/\flat rows)
def leO (m:Bool)(r:Ren)(cutAt:Option Nat):AO->AO->(Ren->Prop)->Prop
 | .arr fr sz rows,.arr fr' MR rows',K=>(match cutAt with
   | none=>sz=MR/\rows=rows'/\leB m fr fr' rows'/\K r
   | some k=>k<=rows.length/\sz=MR/\rows.take k=rows'/\leB m fr fr' rows'/\K r)
 | .box xs,.box ys,K=>(match cutAt with
   | none=>Gl r xs ys K
   | some _=>False)
 | .dar sz rows none,.dar MR rows' none,K=>(match cutAt with
   | none=>sz=MR/\rows=rows'/\K r
   | some k=>k<=rows.length/\sz=MR/\rows.take k=rows'/\K r)
 | .arr _ sz rows,.dar MR rows' none,K=>(match cutAt with
   | none=>sz=MR/\flat rows/\aK rows=rows'/\K r
   | some _=>False)
 | .dar sz rows none,.arr fr' MR rows',K=>(match cutAt with
   | none=>sz=MR/\rows=aK rows'/\(!fr'||m)=true/\K r
   | some _=>False)
 | .mp kk es,.mp U5 NW,K=>(match cutAt with
   | none=>kk=U5/\es=NW/\K r
   | some _=>False)
 | _,_,_=>False
abbrev leH (m:Bool)(h:List (Id×Option AO)):List (Id×Option AO)->Ren->(Ren->Prop)->Prop
 | [],r,K=>K r
 |(_,none)::rest,r,K=>leH m h rest r K
 |(o',some x)::rest,r,K=>(match gK r o' with
   | some none=>(match x with
    | .arr _ _ rows=>rows=[]/\leH m h rest r K
    | .dar _ rows none=>rows=[]/\leH m h rest r K
    | _=>False)
   | some (some (o,c))=>(match cj h o with
    | some y=>leO m r c y x fun r=>leH m h rest r K
    | none=>False)
   | none=>False)
def vV (o:Id):Ren->Bool
 | []=>false
 |(_,some (o',_))::r=>fu o o'||vV o r
 |(_,none)::r=>vV o r
def vz:Ren->Bool
 | []=>true
 |(_,some (o,_))::r=>!vV o r&&vz r
 |(_,none)::r=>vz r
def vL (u:List Nat):List Id->Bool
 | []=>true
 | o::l=>used u o.1&&vL u l
def yX (u:List Nat):List (Nat×AV)->Bool
 | []=>true
 |(_,v)::l=>vL u v.ids&&yX u l
def usedH (u:List Nat):List (Id×Option AO)->Bool
 | []=>true
 |(o,some x)::l=>used u o.1&&(vL u x.ids&&usedH u l)
 |(_,none)::l=>usedH u l
def pOk (r:Ren):Bool:=r.all fun p=>!(Nat.beq p.1.1 0)||(match p.2 with
 | some (o,none)=>fu o p.1
 | _=>false)
def DP (m:Bool):List (Id×Option AO)->Ren
 | []=>[]
 |(o,some _)::l=>(match !m&&Nat.beq o.1 0 with
   | true=>(o,some (o,none))::DP m l
   | false=>DP m l)
 |(_,none)::l=>DP m l
def Leq (m:Bool)(st Mx:St):Prop:=
 ((yX Mx.u Mx.fr&&usedH Mx.u Mx.h)&&(m||used Mx.u 0))=true/\Kr st.fr Mx.fr (DP m Mx.h) fun r=>leH m st.h Mx.h r fun r=>(vz r&&(m||pOk r))=true
def iZ:List (Id×Option AO)->List Id->List Id
 | [],_=>[]
 |(o,x)::l,seen=>(match ku o seen with
   | true=>iZ l seen
   | false=>(match x with
    | some (.dar _ _ (some _))=>o::iZ l (o::seen)
    | _=>iZ l (o::seen)))
abbrev iy:List Id->St->(St->Prop)->Prop
 | [],st,K=>K st
 | o::l,st,K=>pW (cj st.h) (.el o 0 0 0) fun _ us _=>wL us st.h fun h=>iy l ⟨st.fr,h,st.u⟩ K
def LeqG (m:Bool)(st Mx:St):Prop:=iy (iZ st.h []) st fun st=>Leq m st Mx
inductive Out where
 | normal
 | exit (id:Nat)
 | ret
 | pan (v:Value)
def Out.at:Out->Exit
 | .normal=> .normal
 | .exit id=> .exit id
 | .ret=> .ret
 | .pan v=> .panic [{v,recovered:=false}]
def xc (st:St)(c:Operand)(b:Bool):St:=
 match c with|.tmp t=>lit st t b|_=>st
def Lh (P:Program)(Γ:Env)(N:Nat)(ops:List Oper)(draw:Bool)(st:St)(K:St->Prop):Prop:=
 match draw with
 | false=>lC P Γ N ops ops st [] fun Mx _=>K Mx
 | true=>(lC P Γ N ops ops st [] fun Mx log=>sK ops log.reverse=true/\K Mx)\/∃xi xj:Nat,JO P Γ N ops xi xj st K
def W (m:Bool)(P:Program)(Γ:Env)(N:Nat):Code->(Out->St->Prop)->St->Prop
 | .skip,K,st=>K .normal st
 | .label _,K,st=>K .normal st
 | .region _ ops draw,K,st=>Lh P Γ N ops.toList draw st (K .normal)
 | .seq x y,K,st=>W m P Γ N x (fun e Mx=>(match e with
   | .normal=>W m P Γ N y K Mx
   | e=>K e Mx)) st\/
   ∃(ι:Type) (S:ι->St),W m P Γ N x (fun e Mx=>(match e with
    | .normal=>∃i,LeqG m Mx (S i)
    | e=>K e Mx)) st/\∀i,W m P Γ N y K (S i)
 | .cond c x y,K,st=>(match evL (di st.fr) c with
   | .r (.c (.t (.bool b)))=>ifB b (W m P Γ N x K (xc st c true)) (W m P Γ N y K (xc st c false))
   | _=>False)
 | .block id c,K,st=>W m P Γ N c (fun e Mx=>(match e with
   | .exit id'=>(match Nat.beq id' id with
     | true=>K .normal Mx
     | false=>K (.exit id') Mx)
   | e=>K e Mx)) st
 | .loop c,K,st=>∃(ι:Type) (S:ι->St) (μ:ι->Nat) (i0:ι),LeqG m st (S i0)/\∀i,W m P Γ N c (fun e Mx=>(match e with
   | .normal=>∃j,LeqG m Mx (S j)/\μ j<μ i
   | e=>K e Mx)) (S i)
 | .exit id,K,st=>K (.exit id) st
 | .ret,K,st=>K .ret st
 | _,_,_=>False
theorem aB {A:Prop}{Q:Nat->Nat->Prop}(h:A):A\/∃xi xj:Nat,Q xi xj:=Or.inl h
theorem ER {A:Prop}{Q:Nat->Nat->Prop}(xi xj:Nat)(h:Q xi xj):A\/∃xi xj:Nat,Q xi xj:=Or.inr ⟨xi,xj,h⟩
section
variable {P:Program} {Γ:Env} {N B:Nat} {M:Nat->Prop} {w0:Start} {w:World} {ρ:Rho} {st Mx:St} {a:Act} {m:Bool}
def Ext (r r':Ren):Prop:=∀o x,gK r o=some x->gK r' o=some x
theorem Ext.refl (r:Ren):Ext r r:=fun _ _ h=>h
theorem Ext.trans {r r' r'':Ren}(h:Ext r r')(h':Ext r' r''):Ext r r'':=fun o x hx=>h' o x (h o x hx)
theorem HR {r:Ren}{o:Id}{x:Option (Id×Option Nat)}(h:gK r o=none):Ext r ((o,x)::r):=by
 intro o' x' h';rw[gK]
 cases hb:fu o' o with
 | true=>rw[idEq_iff.1 hb,h]at h';cases h'
 | false=>exact h'
def vrv (ρ:Id->Value):Option (Id×Option Nat)->Value
 | some (o,none)=>ρ o
 | some (o,some k)=>(match ρ o with
   | .slice A _ c=> .slice A k c
   | v=>v)
 | none=> .slice none 0 0
def vr (ρ:Id->Value)(r:Ren)(o:Id):Value:=
 match gK r o with|some x=>vrv ρ x|none=>ρ o
theorem tp {ρ:Id->Value}{r:Ren}{o:Id}{x:Option (Id×Option Nat)}(h:gK r o=some x):vr ρ r o=vrv ρ x:=by unfold vr;rw[h]
theorem EX {x y:Option (Id×Option Nat)}(h:HD x y):x=y:=by
 unfold HD at h;split at h
 ·rfl
 ·rw[idEq_iff.1 h]
 ·rw[idEq_iff.1 h.1,h.2]
 ·exact h.elim
theorem oB {r:Ren}{o:Id}{x:Option (Id×Option Nat)}{K:Ren->Prop}(h:tie r o x K):∃r',Ext r r'/\gK r' o=some x/\K r':=by
 unfold tie at h;split at h
 ·rename_i y hy;exact⟨r,.refl r,by rw[hy,EX h.1],h.2⟩
 ·rename_i hy;exact⟨_,HR hy,by rw[gK,idEq_iff.2 rfl];rfl,h⟩
def Lf (r:Ren)(x y:AC):Prop:=∀{B:Nat} {ρ ρ':Rho} {w:World} {ok ok':Nat->Prop} {v:Value},(∀o,ρ' o=vr ρ r o)->(∀b,ok b->ok' b)->RC B ρ w ok v x->RC B ρ' w ok' v y
def Hy (r:Ren)(x y:List AC):Prop:=∀{B:Nat} {ρ ρ':Rho} {w:World} {ok ok':Nat->Prop} {v:List Value},(∀o,ρ' o=vr ρ r o)->(∀b,ok b->ok' b)->RCs B ρ w ok v x->RCs B ρ' w ok' v y
def Lv (r:Ren)(x y:AR):Prop:=∀{B:Nat} {ρ ρ':Rho} {w:World} {ok ok':Nat->Prop} {v:Value},(∀o,ρ' o=vr ρ r o)->(∀b,ok b->ok' b)->RR B ρ w ok v x->RR B ρ' w ok' v y
def KC (r:Ren)(x y:List AR):Prop:=∀{B:Nat} {ρ ρ':Rho} {w:World} {ok ok':Nat->Prop} {v:List Value},(∀o,ρ' o=vr ρ r o)->(∀b,ok b->ok' b)->RRs B ρ w ok v x->RRs B ρ' w ok' v y
def JZ (r:Ren)(x y:AV):Prop:=∀{B:Nat} {ρ ρ':Rho} {w:World} {ok ok':Nat->Prop} {v:Value},(∀o,ρ' o=vr ρ r o)->(∀b,ok b->ok' b)->RV B ρ w ok v x->RV B ρ' w ok' v y
theorem RT.up {w:World}{ok ok':Nat->Prop}{v:Value}{t:Tr}(h:RT w ok v t)(hk:∀b,ok b->ok' b):RT w ok' v t:=h.keep fun b hb=>⟨rfl,hk b hb⟩
theorem V55{p:Prop}(h:p:=by
 obtain⟨r',h1,h2,h3⟩:=oB h;refine⟨r',h1,fun f hf B ρ ρ' w ok ok' v hρ hk hv=>?_,h3⟩;have e:=hf _ _ h2;have e':=(hρ _).trans (tp (ρ:=ρ) e);simp only[vrv]at e';simp only[RC,e']at hv⊢
 exact hv):p:=h
theorem V46{p:Prop}(h:p:=by
 obtain⟨Ph,h⟩:=h;subst Ph;obtain⟨r',h1,h2,h3⟩:=oB h;refine⟨r',h1,fun f hf B ρ ρ' w ok ok' v hρ hk hv=>?_,h3⟩;have e:=hf _ _ h2;have e':=(hρ _).trans (tp (ρ:=ρ) e);simp only[vrv]at e';simp only[RC,e']at hv⊢
 exact hv):p:=h
theorem Iz {r:Ren}{x y:AC}{K:Ren->Prop}(h:leC r x y K):∃r',Ext r r'/\(∀f,Ext r' f->Lf f x y)/\K r':=by
 cases x<;>cases y<;>simp only[leC]at h
 case t.t=>exact⟨r,.refl r,fun f _ B ρ ρ' w ok ok' v hρ hk hv=>by rw[<-h.1];exact RT.up hv hk,h.2⟩
 case f.t=>exact⟨r,.refl r,fun f _ B ρ ρ' w ok ok' v hρ hk hv=>by rw[<-h.1];exact RT.up hv fun b hb=>hk b hb.1,h.2⟩
 case f.f=>exact⟨r,.refl r,fun f _ B ρ ρ' w ok ok' v hρ hk hv=>by rw[<-h.1];exact RT.up hv fun b hb=>⟨hk b hb.1,hb.2⟩,h.2⟩
 case nils.t=>obtain⟨⟨sz,rfl⟩,h⟩:=h;exact⟨r,.refl r,fun f _ B ρ ρ' w ok ok' v hρ hk hv=>by rw[show v=_ from hv];exact .emp _ _ _ (by simp[maxLen]),h⟩
 case nils.f=>obtain⟨⟨sz,rfl⟩,h⟩:=h;exact⟨r,.refl r,fun f _ B ρ ρ' w ok ok' v hρ hk hv=>by rw[show v=_ from hv];exact .emp _ _ _ (by simp[maxLen]),h⟩
 case nils.nils=>exact⟨r,.refl r,fun f _ B ρ ρ' w ok ok' v hρ hk hv=>hv,h⟩
 case nilp.nilp=>exact⟨r,.refl r,fun f _ B ρ ρ' w ok ok' v hρ hk hv=>hv,h⟩
 case t.opq|f.opq|nils.opq|nilp.opq|own.opq|sub.opq|ptr.opq|opq.opq|mpv.opq=>exact⟨r,.refl r,fun f _ B ρ ρ' w ok ok' v hρ hk hv=>⟨RC.one hv,RC.cells1 hv⟩,h⟩
 case nils.own=>obtain⟨r',h1,h2,h3⟩:=oB h;refine⟨r',h1,fun f hf B ρ ρ' w ok ok' v hρ hk hv=>?_,h3⟩;have e:=hf _ _ h2;have e':=(hρ _).trans (tp (ρ:=ρ) e);simp only[vrv]at e';simp only[RC,e']at hv⊢;exact⟨⟨_,_,_,rfl⟩,hv⟩
 case own.own=>exact V55
 case sub.own=>obtain⟨r',h1,h2,h3⟩:=oB h;refine⟨r',h1,fun f hf B ρ ρ' w ok ok' v hρ hk hv=>?_,h3⟩;have e:=hf _ _ h2;have e':=(hρ _).trans (tp (ρ:=ρ) e);simp only[vrv]at e';simp only[RC,e']at hv⊢;obtain⟨A,n,c,g1,g2,g3⟩:=hv;rw[g1];exact⟨⟨_,_,_,rfl⟩,g2⟩
 case sub.sub=>exact V46
 case mpv.mpv=>exact V55
 case ptr.ptr=>exact V46
theorem V65{p:Prop}(h:p:=by
 refine⟨r2,h1.trans h4,fun f hf B ρ ρ' w ok ok' v hρ hk hv=>?_,h6⟩
 cases v with
 | nil=>exact hv.elim
 | cons v vs=>exact⟨h2 f (h4.trans hf) hρ hk hv.1,h5 f hf hρ hk hv.2⟩):p:=h
theorem yW:∀{xs ys:List AC} {r:Ren} {K:Ren->Prop},Gl r xs ys K->∃r',Ext r r'/\(∀f,Ext r' f->Hy f xs ys)/\K r'
 | [],[],r,K,h=>⟨r,.refl r,fun f _ B ρ ρ' w ok ok' v hρ hk hv=>by cases v<;>simp[RCs]at hv⊢,h⟩
 | x::xs,y::ys,r,K,h=>by
  obtain⟨r1,h1,h2,h3⟩:=Iz h;obtain⟨r2,h4,h5,h6⟩:=yW h3
  exact V65
 | [],_::_,_,_,h=>h.elim
 | _::_,[],_,_,h=>h.elim
theorem Hl {r:Ren}{x y:AR}{K:Ren->Prop}(h:leR r x y K):∃r',Ext r r'/\(∀f,Ext r' f->Lv f x y)/\K r':=by
 cases x<;>cases y<;>simp only[leR]at h
 case c.c=>exact Iz h
 case agg.agg=>obtain⟨r1,h1,h2,h3⟩:=yW h;exact⟨r1,h1,fun f hf B ρ ρ' w ok ok' v hρ hk hv=>let ⟨us,e,hu⟩:=hv;⟨us,e,h2 f hf hρ hk hu⟩,h3⟩
theorem EL:∀{xs ys:List AR} {r:Ren} {K:Ren->Prop},Kf r xs ys K->∃r',Ext r r'/\(∀f,Ext r' f->KC f xs ys)/\K r'
 | [],[],r,K,h=>⟨r,.refl r,fun f _ B ρ ρ' w ok ok' v hρ hk hv=>by cases v<;>simp[RRs]at hv⊢,h⟩
 | x::xs,y::ys,r,K,h=>by
  obtain⟨r1,h1,h2,h3⟩:=Hl h;obtain⟨r2,h4,h5,h6⟩:=EL h3
  exact V65
 | [],_::_,_,_,h=>h.elim
 | _::_,[],_,_,h=>h.elim
theorem KQ {r:Ren}{x y:AV}{K:Ren->Prop}(h:leV r x y K):∃r',Ext r r'/\(∀f,Ext r' f->JZ f x y)/\K r':=by
 cases y with
 | unk=>exact⟨r,.refl r,fun f _ B ρ ρ' w ok ok' v hρ hk hv=>trivial,h⟩
 | r y=>
  cases x<;>simp only[leV]at h
  exact Hl h
 | tup ys=>
  cases x<;>simp only[leV]at h
  obtain⟨r1,h1,h2,h3⟩:=EL h
  exact⟨r1,h1,fun f hf B ρ ρ' w ok ok' v hρ hk hv=>let ⟨us,e,hu⟩:=hv;⟨us,e,h2 f hf hρ hk hu⟩,h3⟩
 | el o' sz i off=>
  cases x<;>simp only[leV]at h
  obtain⟨rfl,rfl,rfl,h⟩:=h;obtain⟨r',h1,h2,h3⟩:=oB h;refine⟨r',h1,fun f hf B ρ ρ' w ok ok' v hρ hk hv=>?_,h3⟩;have e:=hf _ _ h2;have e':=(hρ _).trans (tp (ρ:=ρ) e);simp only[vrv]at e';simp only[RV,e']at hv⊢
  exact hv
 | ro fr row off=>
  cases x<;>simp only[leV]at h
  obtain⟨rfl,rfl,rfl,h⟩:=h;refine⟨r,.refl r,fun f hf B ρ ρ' w ok ok' v hρ hk hv=>?_,h⟩;exact RV.keep (ρ:=ρ) (ρ':=ρ') (w:=w) (w':=w) (x:= .ro _ _ _) hv (fun b hb=>⟨rfl,hk b hb⟩) aaO
theorem DO {fr:List (Nat×AV)}:∀{l:List (Nat×AV)} {r:Ren} {K:Ren->Prop},Kr fr l r K->∃r',Ext r r'/\(∀f,Ext r' f->∀t y,(t,y)∈l->JZ f (di fr t) y)/\K r'
 | [],r,K,h=>⟨r,.refl r,fun _ _ t y hm=>(by cases hm),h⟩
 |(t,y)::l,r,K,h=>by
  obtain⟨r1,h1,h2,h3⟩:=KQ h;obtain⟨r2,h4,h5,h6⟩:=DO h3;refine⟨r2,h1.trans h4,fun f hf t' y' hm=>?_,h6⟩;rcases d6.1 hm with he|hm
  ·injection he with e1 e2;subst e1;subst e2;exact fun hρ hk hv=>h2 f (h4.trans hf) hρ hk hv
  ·exact fun hρ hk hv=>h5 f hf t' y' hm hρ hk hv
def Kv (m:Bool)(f:Ren)(h:List (Id×Option AO))(o':Id)(x:AO):Prop:=
 (gK f o'=some none/\((∃fr sz,x= .arr fr sz [])\/∃sz,x= .dar sz [] none))\/
 ∃o c y,gK f o'=some (some (o,c))/\cj h o=some y/\
  (
   (c=none/\∃xs ys,y= .box xs/\x= .box ys/\Hy f xs ys)\/
   (∃fr sz rows fr' rows',y= .arr fr sz rows/\x= .arr fr' sz rows'/\leB m fr fr' rows'/\((c=none/\rows'=rows)\/∃k,c=some k/\k<=rows.length/\rows'=rows.take k))\/
   (∃sz rows rows',y= .dar sz rows none/\x= .dar sz rows' none/\((c=none/\rows'=rows)\/∃k,c=some k/\k<=rows.length/\rows'=rows.take k))\/
   (c=none/\∃fr sz rows,y= .arr fr sz rows/\flat rows/\x= .dar sz (aK rows) none)\/
   (c=none/\∃sz rows fr,y= .dar sz (aK rows) none/\x= .arr fr sz rows/\(fr=true->m=true))\/
   (c=none/\∃kk es,y= .mp kk es/\x= .mp kk es))
theorem CU {h:List (Id×Option AO)}:∀{l:List (Id×Option AO)} {r:Ren} {K:Ren->Prop},leH m h l r K->∃r',Ext r r'/\(∀f,Ext r' f->∀o x,(o,some x)∈l->Kv m f h o x)/\K r'
 | [],r,K,hh=>⟨r,.refl r,fun _ _ o x hm=>(by cases hm),hh⟩
 |(o',none)::l,r,K,hh=>by
  obtain⟨r1,h1,h2,h3⟩:=CU (l:=l) hh;refine⟨r1,h1,fun f hf o x hm=>?_,h3⟩;rcases d6.1 hm with he|hm
  ·injection he with e1 e2;cases e2
  ·exact h2 f hf o x hm
 |(o',some z)::l,r,K,hh=>by
  have one:∀{r0:Ren},Ext r r0->leH m h l r0 K->(∀f,Ext r0 f->Kv m f h o' z)->∃r',Ext r r'/\(∀f,Ext r' f->∀o x,(o,some x)∈(o',some z)::l->Kv m f h o x)/\K r':=by
   intro r0 h0 hh hz;obtain⟨r1,h1,h2,h3⟩:=CU (l:=l) hh;refine⟨r1,h0.trans h1,fun f hf o x hm=>?_,h3⟩;rcases d6.1 hm with he|hm
   ·injection he with e1 e2;injection e2 with e2;subst e1;subst e2;exact hz f (h1.trans hf)
   ·exact h2 f hf o x hm
  unfold leH at hh;split at hh
  ·rename_i hr;split at hh
   ·rename_i fr sz rows;obtain⟨rfl,hh⟩:=hh;exact one (.refl r) hh fun f hf=> .inl ⟨hf _ _ hr,.inl ⟨_,_,rfl⟩⟩
   ·rename_i sz rows;obtain⟨rfl,hh⟩:=hh;exact one (.refl r) hh fun f hf=> .inl ⟨hf _ _ hr,.inr ⟨_,rfl⟩⟩
   ·exact hh.elim
  ·rename_i o0 c hr;split at hh
   ·rename_i y hy;unfold leO at hh;split at hh
    ·rename_i fr sz rows fr' MR rows'
     have key:sz=MR/\leB m fr fr' rows'/\((c=none/\rows'=rows)\/∃k,c=some k/\k<=rows.length/\rows'=rows.take k)/\leH m h l r K:=by cases c with|none=>obtain⟨a1,a2,a3,a4⟩:=(show _/\_/\_/\_ from hh);exact⟨a1,a3,.inl ⟨rfl,a2.symm⟩,a4⟩|some k=>obtain⟨a0,a1,a2,a3,a4⟩:=(show _/\_/\_/\_/\_ from hh);exact⟨a1,a3,.inr ⟨k,rfl,a0,a2.symm⟩,a4⟩
     obtain⟨rfl,k1,k2,hh⟩:=key;exact one (.refl r) hh fun f hf=> .inr ⟨o0,c,_,hf _ _ hr,hy,.inr (.inl ⟨fr,sz,rows,fr',rows',rfl,rfl,k1,k2⟩)⟩
    ·rename_i xs ys
     cases c with
     | some _=>exact hh.elim
     | none=>obtain⟨r1,h1,h2,h3⟩:=yW (show Gl r xs ys _ from hh);exact one h1 h3 fun f hf=> .inr ⟨o0,none,_,(h1.trans hf) _ _ hr,hy,.inl ⟨rfl,xs,ys,rfl,rfl,fun hρ hk hv=>h2 f hf hρ hk hv⟩⟩
    ·rename_i sz rows MR rows'
     have key:sz=MR/\((c=none/\rows'=rows)\/∃k,c=some k/\k<=rows.length/\rows'=rows.take k)/\leH m h l r K:=by cases c with|none=>obtain⟨a1,a2,a4⟩:=(show _/\_/\_ from hh);exact⟨a1,.inl ⟨rfl,a2.symm⟩,a4⟩|some k=>obtain⟨a0,a1,a2,a4⟩:=(show _/\_/\_/\_ from hh);exact⟨a1,.inr ⟨k,rfl,a0,a2.symm⟩,a4⟩
     obtain⟨rfl,k2,hh⟩:=key;exact one (.refl r) hh fun f hf=> .inr ⟨o0,c,_,hf _ _ hr,hy,.inr (.inr (.inl ⟨sz,rows,rows',rfl,rfl,k2⟩))⟩
    ·rename_i fr sz rows MR rows'
     cases c with
     | some _=>exact hh.elim
     | none=>obtain⟨rfl,a2,rfl,a4⟩:=(show _/\_/\_/\_ from hh);exact one (.refl r) a4 fun f hf=> .inr ⟨o0,none,_,hf _ _ hr,hy,.inr (.inr (.inr (.inl ⟨rfl,fr,sz,rows,rfl,a2,rfl⟩)))⟩
    ·rename_i sz rows fr' MR rows'
     cases c with
     | some _=>exact hh.elim
     | none=>obtain⟨rfl,rfl,a3,a4⟩:=(show _/\_/\_/\_ from hh);exact one (.refl r) a4 fun f hf=> .inr ⟨o0,none,_,hf _ _ hr,hy,.inr (.inr (.inr (.inr (.inl ⟨rfl,sz,rows',fr',rfl,rfl,fun e=>by subst e;simpa using a3⟩))))⟩
    ·rename_i kk es U5 NW
     cases c with
     | some _=>exact hh.elim
     | none=>obtain⟨rfl,rfl,a4⟩:=(show _/\_/\_ from hh);exact one (.refl r) a4 fun f hf=> .inr ⟨o0,none,_,hf _ _ hr,hy,.inr (.inr (.inr (.inr (.inr ⟨rfl,kk,es,rfl,rfl⟩))))⟩
    ·exact hh.elim
   ·exact hh.elim
  ·exact hh.elim
theorem kR:∀{h:List (Id×Option AO)} {o:Id} {x:AO},cj h o=some x->(o,some x)∈h
 | [],_,_,h=>by simp[cj]at h
 |(i,y)::r,o,x,h=>by
  rw[cj]at h
  cases hb:fu o i with|true=>rw[hb]at h;have:=idEq_iff.1 hb;subst this;simp only[cond_true]at h;rw[h];simp|false=>rw[hb]at h;exact z9 _ (kR h)
theorem iH:∀(fr:List (Nat×AV)) (t:Nat),di fr t= .unk\/(t,di fr t)∈fr
 | [],_=> .inl rfl
 |(i,y)::r,t=>by
  rw[di]
  cases hb:Nat.beq t i with|true=>have:=r9 hb;subst this;right;simp|false=>exact(iH r t).imp id (z9 _)
theorem uY:∀{r:Ren} {o' o:Id} {c:Option Nat},gK r o'=some (some (o,c))->vV o r=true
 | [],_,_,_,h=>by simp[gK]at h
 |(i,x)::r,o',o,c,h=>by
  rw[gK]at h
  cases hb:fu o' i with
  | true=>
   rw[hb]at h;simp only[cond_true,Option.some.injEq]at h;subst h
   simp[vV,idEq_iff.2 rfl]
  | false=>
   rw[hb]at h;have:=uY (r:=r) h
   cases x<;>simp[vV,this]
theorem rf:∀{r:Ren} {o1 o2 o:Id} {c1 c2:Option Nat},vz r=true->gK r o1=some (some (o,c1))->gK r o2=some (some (o,c2))->o1=o2
 | [],_,_,_,_,_,_,h,_=>by simp[gK]at h
 |(i,x)::r,o1,o2,o,c1,c2,hr,h1,h2=>by
  rw[gK]at h1 h2
  have Pu:vz r=true:=by cases x with|none=>exact hr|some p=>simp only[vz,b9]at hr;exact hr.2
  have MQ:∀c,x=some (o,c)->vV o r=false:=fun c hx=>by
   subst hx;simp only[vz,b9,u9]at hr;exact hr.1
  cases Nj:fu o1 i with
  | true=>
   rw[Nj]at h1;simp only[cond_true,Option.some.injEq]at h1
   cases Nd:fu o2 i with
   | true=>exact(idEq_iff.1 Nj).trans (idEq_iff.1 Nd).symm
   | false=>
    rw[Nd]at h2;have:=uY (r:=r) h2;rw[MQ c1 h1]at this
    cases this
  | false=>
   rw[Nj]at h1
   cases Nd:fu o2 i with
   | true=>
    rw[Nd]at h2;simp only[cond_true,Option.some.injEq]at h2;have:=uY (r:=r) h1;rw[MQ c2 h2]at this
    cases this
   | false=>rw[Nd]at h2;exact rf Pu h1 h2
theorem rQ {u:List Nat}:∀{l:List Id},vL u l=true->∀o∈l,used u o.1=true
 | [],_,o,ho=>by cases ho
 | i::l,h,o,ho=>by
  simp only[vL,b9]at h;rcases d6.1 ho with rfl|ho
  ·exact h.1
  ·exact rQ h.2 o ho
theorem yc {u:List Nat}:∀{l:List (Nat×AV)},yX u l=true->∀t v,(t,v)∈l->∀o∈v.ids,used u o.1=true
 | [],_,t,v,hm=>by cases hm
 |(i,x)::l,h,t,v,hm=>by
  simp only[yX,b9]at h;rcases d6.1 hm with he|hm
  ·injection he with e1 e2;subst e2;exact rQ h.1
  ·exact yc h.2 t v hm
theorem wF {u:List Nat}:∀{l:List (Id×Option AO)},usedH u l=true->∀o x,(o,some x)∈l->used u o.1=true/\∀o'∈x.ids,used u o'.1=true
 | [],_,t,v,hm=>by cases hm
 |(i,none)::l,h,o,x,hm=>by
  rcases d6.1 hm with he|hm
  ·injection he with e1 e2;cases e2
  ·exact wF (l:=l) h o x hm
 |(i,some y)::l,h,o,x,hm=>by
  simp only[usedH,b9]at h;rcases d6.1 hm with he|hm
  ·injection he with e1 e2;injection e2 with e2;subst e1;subst e2;exact⟨h.1,rQ h.2.1⟩
  ·exact wF h.2.2 o x hm
theorem RT.flat {w:World}{ok ok':Nat->Prop}{v:Value}{t:Tr}(h:RT w ok v t)(hf:∀sz rs,t≠.lst sz rs):RT w ok' v t:=by cases h with|int k n=>exact .int k n|bool b=>exact .bool b|str s=>exact .str s|emp _ _ sz=>exact absurd rfl (hf _ _)|lst=>exact absurd rfl (hf _ _)
theorem RTs.flat {w:World}{ok ok':Nat->Prop}:∀{vs:List Value} {ts:List Tr},RTs w ok vs ts->(∀t∈ts,∀sz rs,t≠.lst sz rs)->RTs w ok' vs ts
 | [],[],_,_=>trivial
 | _::_,_::_,h,hf=>⟨h.1.flat (hf _ s_),RTs.flat h.2 fun t ht=>hf t (by simp[ht])⟩
 | [],_::_,h,_=>h.elim
 | _::_,[],h,_=>h.elim
theorem lw {α:Type}{sz:Nat}:∀{rows:List (List α)} (k:Nat),(∀r∈rows,r.length=sz)->k<=rows.length->(rows.take k).flatten=rows.flatten.take (k*sz)
 | _,0,_,_=>s_
 | [],_+1,_,h=>by simp at h
 | r::rows,k+1,hu,h=>by
  have hr:=hu r s_;rw[q8,r8,r8,lw k (fun r hr=>hu r aay) aae,I2,hr];rw[gt (l:=r) (by rw[hr,p8];omega)];congr 2;rw[p8];omega
theorem zV:∀{r:Ren} {o:Id} {x:Option (Id×Option Nat)},gK r o=some x->(o,x)∈r
 | [],_,_,h=>by simp[gK]at h
 |(i,y)::r,o,x,h=>by
  rw[gK]at h
  cases hb:fu o i with|true=>rw[hb]at h;have:=idEq_iff.1 hb;subst this;simp only[cond_true,Option.some.injEq]at h;subst h;simp|false=>rw[hb]at h;exact z9 _ (zV h)
theorem RDs.take {ρ ρ':Rho}{w:World}{ok ok':Nat->Prop}{sz n:Nat}{Fp:Nat->Nat->Prop}{us:List Value}{cs:List DC}(h:RDs ρ w ok sz none Fp us cs)(hk:∀b,ok b->ok' b):RDs ρ' w ok' sz none Fp (us.take n) (cs.take n):=by
 refine⟨by rw[l6,l6,h.1],fun p v c hv hc=>?_⟩;rw[n3]at hv hc;split at hv
 ·rename_i hp;rw[c7 hp]at hc;have:=h.2 p v c hv hc;simp only[cq]at this⊢;exact this.keep (fun b hb=>⟨rfl,hk b hb⟩) fun b hb=>⟨rfl,hb⟩
 ·cases hv
theorem V93{p:Prop}(h:p:=by
 rw[H0,l6,y6 MY];congr 1
 exact(y6 (l9 _ MY)).symm):p:=h
theorem Leq.ok' (hM:m=true->(∀b,¬M b)/\∀o,w0.fx o=none)(hF:∀o v,w0.fx o=some v->o.1=0)(h:Leq m st Mx)(hc:Conc N B M w0 ρ st.fs a w):∃ρ',Conc N B M w0 ρ' Mx.fs a w/\
  (∀b,okB ρ st.fs.H w b->okB ρ' Mx.fs.H w b)/\
  ∀(t:Nat) (v:Value) (ok ok':Nat->Prop),(∀b,ok b->ok' b)->RV B ρ w ok v (di st.fr t)->RV B ρ' w ok' v (di Mx.fr t):=by
 obtain⟨hu,h⟩:=h;rw[b9,b9]at hu;obtain⟨hu,Xn⟩:=hu;obtain⟨r1,_,hL,h⟩:=DO h;obtain⟨f,h1,hH,U2⟩:=CU h;rw[b9]at U2;obtain⟨hr,hP⟩:=U2;have hL:=hL f h1;have hH:=hH f (.refl f)
 let ρ':Rho:=⟨vr ρ f,fun o c=>(∃sz rows hole,Mx.fs.H o=some (.dar sz rows hole))/\∃q k,gK f o=some (some (q,k))/\ρ.fp q c,ρ.al⟩
 have hρ:∀o,ρ' o=vr ρ f o:=fun _=>rfl;have NZ:∀{o:Id} {x:Option (Id×Option Nat)},gK f o=some x->ρ' o=vrv ρ x:=fun e=>tp e;refine⟨ρ',?_⟩
 have old:∀o x b,Mx.fs.H o=some x->Own ρ' o b->∃q y c,gK f o=some (some (q,c))/\st.fs.H q=some y/\Own ρ q b:=by
  intro o x b ho hb;rcases hH o x (kR ho)with⟨g1,_⟩|⟨q,c,y,g1,g2,_⟩
  ·rcases hb with hb|⟨_,q,k,e,_⟩
   ·rw[NZ g1]at hb;simp[vrv,blk]at hb
   ·rw[g1]at e;cases e
  ·refine⟨q,y,c,g1,g2,?_⟩;rcases hb with hb|⟨_,q',k,e,hf⟩
   ·left;rw[NZ g1]at hb
    cases c with
    | none=>exact hb
    | some k=>
     simp only[vrv]at hb;split at hb
     ·rename_i A n cc e;rw[e]
      cases A<;>exact hb
     ·exact hb
   ·rw[g1]at e;injection e with e;injection e with e;injection e with e1 e2;subst e1;exact .inr hf
 have hk:∀b,okB ρ st.fs.H w b->okB ρ' Mx.fs.H w b:=by intro b hb;refine⟨hb.1,fun o x ho he=>?_⟩;obtain⟨q,y,_,_,g2,g3⟩:=old o x b ho he;exact hb.2 q y g2 g3
 refine⟨?_,hk,fun t v ok ok' MA hv=>?_⟩
 rotate_left
 ·rcases iH Mx.fr t with e|hm
  ·rw[e];trivial
  ·exact hL t _ hm hρ MA hv
 refine⟨hc.size,hc.defers,fun t=>?_,fun o x ho=>?_,fun o o' x x' b ho MV ME he Nn=>?_,fun o x b ho he=>?_,hc.keep,hc.base,hc.alw,hc.cst,fun o v hv=>?_,fun t o ho=>?_,fun o x ho=>?_⟩
 ·rcases iH Mx.fr t with e|hm
  ·show RV _ _ _ _ _ (di Mx.fr t);rw[e];trivial
  ·exact hL t _ hm hρ hk (hc.slot t)
 ·rcases hH o x (kR ho)with⟨g1,⟨fr,sz,rfl⟩|⟨sz,rfl⟩⟩|⟨q,c,y,g1,g2,g3⟩
  ·exact⟨fun r hr=>(by cases hr),.inl ⟨NZ g1,rfl⟩⟩
  ·exact⟨fun r hr=>(by cases hr),.inl ⟨NZ g1,rfl,rfl⟩⟩
  ·have M2:=hc.obj q y g2;have MO:=NZ g1;rcases g3 with⟨rfl,xs,ys,rfl,rfl,g4⟩|⟨fr,sz,rows,fr',rows',rfl,rfl,g4,g5⟩|⟨sz,rows,rows',rfl,rfl,g5⟩|⟨rfl,fr,sz,rows,rfl,MM,rfl⟩|⟨rfl,sz,rows,fr,rfl,rfl,Nh⟩|⟨rfl,kk,es,rfl,rfl⟩
   ·obtain⟨b,cur,t,fz,k1,k2,k3,k4⟩:=M2;exact⟨b,cur,t,fz,by rw[MO];exact k1,k2,k3,g4 hρ hk k4⟩
   ·obtain⟨Rh,M2⟩:=M2
    have M0:∀r∈rows',r∈rows:=by
     rcases g5 with⟨_,rfl⟩|⟨k,_,_,rfl⟩
     ·exact fun r h=>h
     ·exact fun r h=>t8 h
    refine⟨fun r hr=>Rh r (M0 r hr),?_⟩;rcases M2 with⟨k1,k2⟩|⟨b,cap,cur,e,fz,k1,k2,k3,k4,k5,k6,k7,k8⟩
    ·subst k2;left;rcases g5 with⟨rfl,rfl⟩|⟨k,rfl,MY,rfl⟩
     ·exact⟨by rw[MO];exact k1,rfl⟩
     ·simp only[i8,Nat.le_zero]at MY;subst MY;exact⟨by rw[MO];simp only[vrv,k1],s_⟩
    ·right;have hB:m=true->B<=b:=fun hm=>((hc.rng q _ b g2 (.inl (by rw[k1];rfl))).2).resolve_right ((hM hm).1 b)
     have tup:∀{l:List Value},RTs w (okF B (okB ρ st.fs.H w) fr) l rows'.flatten->RTs w (okF B (okB ρ' Mx.fs.H w) fr') l rows'.flatten:=by
      intro l hl
      cases fr' with
      | false=>exact hl.keep fun b hb=>⟨rfl,hk b hb.1,fun e=>by cases e⟩
      | true=>
       cases fr with
       | true=>exact hl.keep fun b hb=>⟨rfl,hk b hb.1,hb.2⟩
       | false=>refine hl.flat fun t ht=>?_;obtain⟨row,h1,h2⟩:=E4.1 ht;exact g4.2 row h1 t h2
     have Nh:fr'=true->B<=b:=by
      intro e;subst e
      cases fr with|true=>exact k8 rfl|false=>exact hB g4.1
     rcases g5 with⟨rfl,rfl⟩|⟨k,rfl,MY,rfl⟩
     ·exact⟨b,cap,cur,e,fz,by rw[MO];exact k1,k2,k3,k4,k5,k6,tup k7,Nh⟩
     ·refine⟨b,cap,cur,e,fz,?_,k2,k3,?_,k5,k6,tup ?_,Nh⟩
      ·rw[MO];simp only[vrv,k1,l6,y6 MY]
      ·simp only[l6];omega
      ·rw[lw k Rh MY]
       have:cur.toList.take ((rows.take k).length*sz)=(cur.toList.take (rows.length*sz)).take (k*sz):=by exact V93
       rw[this];exact k7.take _
   ·obtain⟨Rh,M2⟩:=M2
    have M0:∀r∈rows',r∈rows:=by
     rcases g5 with⟨_,rfl⟩|⟨k,_,_,rfl⟩
     ·exact fun r h=>h
     ·exact fun r h=>t8 h
    refine⟨fun r hr=>Rh r (M0 r hr),?_⟩;rcases M2 with⟨k1,k2,_⟩|⟨b,cap,cur,e,fz,Fp,k1,k2,k3,k4,k5,k6,k7,k8,k9⟩
    ·subst k2;left;rcases g5 with⟨rfl,rfl⟩|⟨k,rfl,MY,rfl⟩
     ·exact⟨by rw[MO];exact k1,rfl,rfl⟩
     ·simp only[i8,Nat.le_zero]at MY;subst MY;exact⟨by rw[MO];simp only[vrv,k1],s_,rfl⟩
    ·right;have NR:∀p d,Fp p d->ρ'.fp o d/\d≠b:=fun p d hd=>⟨⟨⟨_,_,_,ho⟩,q,c,g1,(k7 p d hd).1⟩,(k7 p d hd).2⟩;rcases g5 with⟨rfl,rfl⟩|⟨k,rfl,MY,rfl⟩
     ·exact⟨b,cap,cur,e,fz,Fp,by rw[MO];exact k1,k2,k3,k4,k5,k6,NR,k8,k9.keep (fun c MB=>⟨rfl,hk c MB⟩) (fun p c MB=>⟨rfl,MB⟩) fun _ _ _ e=>by cases e⟩
     ·refine⟨b,cap,cur,e,fz,Fp,?_,k2,k3,?_,k5,k6,NR,k8,?_⟩
      ·rw[MO];simp only[vrv,k1,l6,y6 MY]
      ·simp only[l6];omega
      ·rw[lw k Rh MY]
       have:cur.toList.take ((rows.take k).length*sz)=(cur.toList.take (rows.length*sz)).take (k*sz):=by exact V93
       rw[this];exact k9.take hk
   ·exact(CR hc g2 MM).toDar MO fun d hd ME=>hd.elim (fun e=>absurd e ME) fun hd=>⟨⟨_,_,_,ho⟩,q,none,g1,hd⟩
   ·obtain⟨Rh,M2⟩:=M2;refine⟨fun r hr=>?_,?_⟩
    ·have:=Rh (r.map .d) (n7.2 ⟨r,hr,rfl⟩);simpa using this
    have Mv:(aK rows).length=rows.length:=(by simp[aK]);rcases M2 with⟨k1,k2,_⟩|⟨b,cap,cur,e,fz,Fp,k1,k2,k3,k4,k5,k6,k7,k8,k9⟩
    ·left;exact⟨by rw[MO];exact k1,by simpa [aK]using k2⟩
    ·right;rw[Mv]at k1 k4 k9;rw[lD]at k9;have Uq:∀d,Own ρ q d->fr=true->B<=d:=fun d hd e=>((hc.rng q _ d g2 hd).2).resolve_right ((hM (Nh e)).1 d);have hb:Own ρ q b:= .inl (by rw[k1];rfl)
     have hin:∀p d,Fp p d->okF B (okB ρ' Mx.fs.H w) fr d:=fun p d hd=>by
      obtain⟨S6,Ym⟩:=k7 p d hd;have M7:=hc.rng q _ d g2 (.inr S6);refine⟨⟨⟨M7.1,hc.alw d M7.2⟩,fun o2 x2 XO Oy=>?_⟩,Uq d (.inr S6)⟩;obtain⟨q2,y2,c2,e1,e2,e3⟩:=old o2 x2 d XO Oy;by_cases e:q2=q
      ·subst e;have:=rf hr e1 g1;subst this;rcases Oy with Oy|⟨⟨_,_,_,Oy⟩,_⟩
       ·rw[MO]at Oy;simp only[vrv,k1,blk]at Oy;injection Oy with Oy;exact Ym Oy.symm
       ·rw[ho]at Oy;injection Oy with Oy;cases Oy
      ·exact hc.sep q2 q y2 _ d e2 g2 e e3 (.inr S6)
     refine⟨b,cap,cur,e,fz,by rw[MO];exact k1,k2,k3,k4,k5,k6,RTs.of (by rw[k9.1,e7]) fun p v t hv ht=>?_,Uq b hb⟩;have:=k9.2 p v (.d t) hv (by rw[p6,ht];rfl);simp only[cq]at this;exact DT.toRT this (hin p)
   ·obtain⟨b,ents,clock,k1,k2,k3⟩:=M2;exact⟨b,ents,clock,by rw[MO];exact k1,k2,k3⟩
 ·obtain⟨q,y,c,g1,g2,g3⟩:=old o x b ho he;obtain⟨q',y',c',g4,g5,g6⟩:=old o' x' b MV Nn;by_cases e:q=q'
  ·subst e;exact ME (rf hr g1 g4)
  ·exact hc.sep q q' y y' b g2 g5 e g3 g6
 ·obtain⟨q,y,c,g1,g2,g3⟩:=old o x b ho he;exact hc.rng q y b g2 g3
 ·cases m with
  | true=>rw[(hM rfl).2 o]at hv;cases hv
  | false=>
   have h0:=hF o v hv;simp only[C7]at hP Xn;refine⟨?_,by show used Mx.u o.1=true;rw[h0];exact Xn⟩;have e:=(hc.Mp o v hv).1;rw[hρ];unfold vr
   cases hg:gK f o with
   | none=>exact e
   | some x=>
    have:=o8.1 hP _ (zV hg);simp only[h0,Nat.beq_refl,Bool.not_true,C7]at this;split at this
    ·rename_i o1;rw[idEq_iff]at this;subst this;exact e
    ·cases this
 ·rcases iH Mx.fr t with e|hm
  ·simp only[St.fs]at ho;rw[e]at ho;simp[AV.ids]at ho
  ·exact yc hu.1 t _ hm o ho
 ·exact wF hu.2 o x (kR ho)
theorem Leq.ok (hM:m=true->(∀b,¬M b)/\∀o,w0.fx o=none)(hF:∀o v,w0.fx o=some v->o.1=0)(h:Leq m st Mx)(hc:Conc N B M w0 ρ st.fs a w):∃ρ',Conc N B M w0 ρ' Mx.fs a w:=
 let ⟨ρ',h,_⟩:=h.ok' hM hF hc
 ⟨ρ',h⟩
theorem jU:∀(l:List Id) (st:St) (K:St->Prop) (ρ:Rho),iy l st K->Conc N B M w0 ρ st.fs a w->(∀o∈l,True)->∃st1 ρ1,K st1/\Conc N B M w0 ρ1 st1.fs a w/\st1.fr=st.fr
 | [],st,K,ρ,h,hc,_=>⟨st,ρ,h,hc,rfl⟩
 | o::l,st,K,ρ,h,hc,_=>by
  obtain⟨H',us,R,h1,h2⟩:=px h;rw[rR]at h1;obtain⟨⟨ρ1,N5⟩,_⟩:=h2 hc fun _ _=>rfl;have Po:(⟨st.fs.L,bP st.fs.H us,st.fs.U⟩:FS)=(⟨st.fr,sV us st.h,st.u⟩:St).fs:=FS.ext' (fun _=>rfl) (fun o=>(nG us st.h o).symm) fun _=>Iff.rfl;rw[Po]at N5;obtain⟨st1,ρ2,g1,g2,g3⟩:=jU l _ K ρ1 h1 N5 fun _ _=>trivial;exact⟨st1,ρ2,g1,g2,g3⟩
theorem LeqG.ok (hM:m=true->(∀b,¬M b)/\∀o,w0.fx o=none)(hF:∀o v,w0.fx o=some v->o.1=0)(h:LeqG m st Mx)(hc:Conc N B M w0 ρ st.fs a w):∃ρ',Conc N B M w0 ρ' Mx.fs a w:=by obtain⟨st1,ρ1,g1,g2,_⟩:=jU _ st _ ρ h hc fun _ _=>trivial;exact g1.ok hM hF g2
theorem uh {st:St}{c:Operand}{b:Bool}(h:evL (di st.fr) c=tB b):(xc st c b).fs=st.fs:=by
 unfold xc;split
 ·exact ul h
 ·rfl
theorem V14{p:Prop}(h:p:=by
 cases e with
 | normal=>exact hQ .normal _ _ _ _ hK MB
 | ret=>exact hQ .ret _ _ _ _ hK MB
 | pan v=>exact hQ (.pan v) _ _ _ _ hK MB
 | exit id'=>
  show if id'=id then _ else _
  by_cases he:id'=id
  ·rw[c7 he];subst he;simp only[Nat.beq_refl]at hK;exact hQ .normal _ _ _ _ hK MB
  ·rw[b8 he];have:Nat.beq id' id=false:=(by cases hb:Nat.beq id' id with|false=>rfl|true=>exact absurd (r9 hb) he);simp only[this]at hK
   exact hQ (.exit id') _ _ _ _ hK MB):p:=h
theorem V2{p:Prop}(h:p:=by
 obtain⟨ι,S,μ,i0,h0,hS⟩:=h;obtain⟨ρ0,OP⟩:=h0.ok hM hF hc
 have key:∀n i (ρ:Rho) (a:Act) (w:World),μ i<=n->Conc N B M w0 ρ (S i).fs a w->∀(b:Frame) (k:List Item) (cs:List Frame),
   ∃e a' w',Q e a' w'/\Arrives P (lone (b.at a (.code c:: .inLoop c::k)) cs w) b k cs e a' w':=by
  intro n
  induction n with
  | zero=>
   intro i ρ a w hi hc b k cs
   obtain⟨e,a1,w1,hq,NK⟩:=ih _ (S i) ρ a w (fun e a' w'=>match e with|.normal=>False|e=>Q e a' w') (hS i) hc (fun e Mx ρ' a' w' hK MB=>by
    cases e with
    | normal=>obtain⟨j,_,hj⟩:=hK;exact absurd hj o_
    | exit id=>exact hQ (.exit id) _ _ _ _ hK MB
    | pan v=>exact hQ (.pan v) _ _ _ _ hK MB
    | ret=>exact hQ .ret _ _ _ _ hK MB) b (.inLoop c::k) cs
   cases e with|normal=>exact hq.elim|exit id=>exact⟨_,a1,w1,hq,.pass (x:= .inLoop c) rfl (fun _ _=> .inl s_) NK⟩|goto l=>exact⟨_,a1,w1,hq,.pass (x:= .inLoop c) rfl (fun _ _=> .inl s_) NK⟩|ret=>exact⟨_,a1,w1,hq,.pass (x:= .inLoop c) rfl (fun _ _=> .inl s_) NK⟩|panic ch=>exact⟨_,a1,w1,hq,.pass (x:= .inLoop c) rfl (fun _ _=> .inl s_) NK⟩|outgrown=>exact⟨_,a1,w1,hq,.pass (x:= .inLoop c) rfl (fun _ _=> .inl s_) NK⟩
  | succ n ihn=>
   intro i ρ a w hi hc b k cs
   obtain⟨e,a1,w1,hq,NK⟩:=ih _ (S i) ρ a w (fun e a' w'=>match e with|.normal=>∃j ρ',μ j<=n/\Conc N B M w0 ρ' (S j).fs a' w'|e=>Q e a' w') (hS i) hc (fun e Mx ρ' a' w' hK MB=>by
    cases e with
    | normal=>obtain⟨j,Ve,PP⟩:=hK;obtain⟨ρ'',Qd⟩:=Ve.ok hM hF MB;exact⟨j,ρ'',o_,Qd⟩
    | exit id=>exact hQ (.exit id) _ _ _ _ hK MB
    | pan v=>exact hQ (.pan v) _ _ _ _ hK MB
    | ret=>exact hQ .ret _ _ _ _ hK MB) b (.inLoop c::k) cs
   cases e with
   | normal=>
    obtain⟨j,ρ',hj,MB⟩:=hq;obtain⟨e2,a2,w2,Sh,Uf⟩:=ihn j ρ' a1 w1 hj MB b k cs
    exact⟨e2,a2,w2,Sh,.of_steps (Steps.trans NK (.one step_inLoop)) Uf⟩
   | exit id=>exact⟨_,a1,w1,hq,.pass (x:= .inLoop c) rfl (fun _ _=> .inl s_) NK⟩
   | goto l=>exact⟨_,a1,w1,hq,.pass (x:= .inLoop c) rfl (fun _ _=> .inl s_) NK⟩
   | ret=>exact⟨_,a1,w1,hq,.pass (x:= .inLoop c) rfl (fun _ _=> .inl s_) NK⟩
   | panic ch=>exact⟨_,a1,w1,hq,.pass (x:= .inLoop c) rfl (fun _ _=> .inl s_) NK⟩
   | outgrown=>exact⟨_,a1,w1,hq,.pass (x:= .inLoop c) rfl (fun _ _=> .inl s_) NK⟩
 intro b k cs;obtain⟨e,a',w',hq,NK⟩:=key (μ i0) i0 ρ0 a w (d8 _) OP b k cs
 exact⟨e,a',w',hq,.of_steps (.one step_loop) NK⟩):p:=h
theorem KM (hΓ:Γ.chk P=true)(aG:P.follows .mixedOrders=true)(hM:m=true->(∀b,¬M b)/\∀o,w0.fx o=none)(hF:∀o v,w0.fx o=some v->o.1=0):
  ∀(c:Code) (K:Out->St->Prop) (st:St) (ρ:Rho) (a:Act) (w:World) (Q:Exit->Act->World->Prop),W m P Γ N c K st->Conc N B M w0 ρ st.fs a w->
   (∀e Mx ρ' a' w',K e Mx->Conc N B M w0 ρ' Mx.fs a' w'->Q e.at a' w')->c.wp P Q a w:=by
 intro c
 induction c with
 | skip=>intro K st ρ a w Q h hc hQ;exact wp_skip (hQ .normal _ _ _ _ h hc)
 | label l=>intro K st ρ a w Q h hc hQ;exact wp_label (hQ .normal _ _ _ _ h hc)
 | exit id=>intro K st ρ a w Q h hc hQ;exact wp_exit (hQ (.exit id) _ _ _ _ h hc)
 | ret=>intro K st ρ a w Q h hc hQ;exact wp_ret (hQ .ret _ _ _ _ h hc)
 | goto l=>intro K st ρ a w Q h;exact h.elim
 | refuse y=>intro K st ρ a w Q h;exact h.elim
 | scope b _=>intro K st ρ a w Q h;exact h.elim
 | rangeFunc f ps x y _ _=>intro K st ρ a w Q h;exact h.elim
 | region id ops draw=>
  intro K st ρ a w Q h hc hQ
  cases draw with
  | false=>
   obtain⟨es,Mx,h1,h2,h3,h4⟩:=tV hΓ ops.toList st [] _ h;refine wp_region_list ?_;have:=qQ (P:=P) (N:=N) (ops:=ops.toList) (B:=B) (M:=M) (w0:=w0) (Q:=Q) ops.toList es st.fs ρ a w h2 hc fun ρ' a' w' MB=>hQ .normal Mx ρ' a' w' h4 (by rw[h3];exact MB)
   simpa using this
  | true=>
   have NA:∀i o,ops.toList[i]?=some o->(Array.replicate ops.size false).getD i true=true->∀j∈cJ o,(Array.replicate ops.size false).getD j true=true:=fun i o ho hl=>by
    have hi:i<ops.size:=by
     rcases m7 i ops.size with h'|h'
     ·exact h'
     ·rw[e9 (by simpa using h')]at ho;cases ho
    simp[r7,hi]at hl
   have MB:∀es:List (Bool×Eff),Conc N B M w0 ρ (sel st.fs ops.toList es (fun i=>(Array.replicate ops.size false).getD i true) 0) a {w with drawn:=w.drawn+1}:=by
    intro es
    rw[mJ _ _ _ _ _ fun i _ hi=>by
     have:i<ops.size:=by simpa using hi
     simp[r7,this]]
    exact hc.step (fun _=>False) [] (Turn.drew _ w) hc.size hc.defers (fun _ _=>rfl) (fun _ _ _ _=>rfl) rfl (fun _ _=>rfl) (fun _ h=>h) (fun _ _ h=>h) (fun _ _ _ _ _ _ h=>h) (fun _ _ _ h=>h)
     (fun o x b h=>by cases h) (fun o o' x x' b h=>by cases h) (fun _ o x h=>by cases h) (fun _ t=> .inl ⟨rfl,rfl⟩)
   refine wp_region_any aG ?_;rcases h with h|⟨xi,xj,h⟩
   ·obtain⟨es,Mx,h1,h2,h3,h4,h5⟩:=tV hΓ ops.toList st [] _ h;simp only[m6,List.reverse_reverse]at h4
    have:=FW (P:=P) (N:=N) (ops:=ops.toList) (B:=B) (M:=M) (w0:=w0) (Q:=Q) st.fs es h1 h2 h4 (fun ρ' a' w' MB=>hQ .normal Mx ρ' a' w' h5 (by rw[h3];exact MB))
     ops.size (Array.replicate ops.size false) ρ a _ s_ s_ NA (MB es)
    simpa using this
   ·obtain⟨es,Mx,h1,h2,My,h4,⟨oi,oj,bj,ei,ej,g1,g2,g3,g4,g5⟩,h3,h5⟩:=Ii hΓ h
    have:=DD (P:=P) (N:=N) (ops:=ops.toList) (B:=B) (M:=M) (w0:=w0) (Q:=Q) st.fs es h1 h2 My h4 g1 g2 g3 g4 g5 (fun ρ' a' w' MB=>hQ .normal Mx ρ' a' w' h5 (by rw[h3];exact MB))
     ops.size (Array.replicate ops.size false) ρ a _ s_ s_ NA (MB es)
    simpa using this
 | seq x y ihx ihy=>
  intro K st ρ a w Q h hc hQ;rcases h with h|⟨ι,S,h,h2⟩
  ·refine wp_seq (ihx _ st ρ a w _ h hc fun e Mx ρ' a' w' hK MB=>?_)
   cases e with|normal=>exact ihy K Mx ρ' a' w' Q hK MB hQ|exit id=>exact hQ (.exit id) _ _ _ _ hK MB|pan v=>exact hQ (.pan v) _ _ _ _ hK MB|ret=>exact hQ .ret _ _ _ _ hK MB
  ·refine wp_seq (ihx _ st ρ a w _ h hc fun e Mx ρ' a' w' hK MB=>?_)
   cases e with|normal=>obtain⟨i,hi⟩:=hK;obtain⟨ρ'',Qd⟩:=hi.ok hM hF MB;exact ihy K (S i) ρ'' a' w' Q (h2 i) Qd hQ|exit id=>exact hQ (.exit id) _ _ _ _ hK MB|pan v=>exact hQ (.pan v) _ _ _ _ hK MB|ret=>exact hQ .ret _ _ _ _ hK MB
 | cond c x y ihx ihy=>
  intro K st ρ a w Q h hc hQ;rw[W]at h;split at h
  ·rename_i b hb;have hv:=(hc.eval c).1;rw[show evL st.fs.L c=tB b from hb]at hv;refine wp_cond (fy hv) ?_
   cases b with|true=>exact ihx K _ ρ a w Q h aaL hQ|false=>exact ihy K _ ρ a w Q h aaL hQ
  ·exact h.elim
 | block id c ih=>
  intro K st ρ a w Q h hc hQ;refine wp_block (ih _ st ρ a w _ h hc fun e Mx ρ' a' w' hK MB=>?_)
  exact V14
 | loop c ih=>intro K st ρ a w Q h hc hQ;exact V2
end
def TV.av:TV->AV
 | .c x=> .r (.c (.t x))
 | .agg xs=> .r (.agg (xs.map .t))
def ve:Nat->List TV->List (Nat×AV)
 | _,[]=>[]
 | i,t::ts=>(i,t.av)::ve (i+1) ts
def st0 (ts:List TV):St:=⟨ve 0 ts,[],[]⟩
def DA:AC->Prop
 | .t x=>(match x with
   | .lst _ _=>False
   | _=>True)
 | _=>True
def yV:List AC->Prop
 | []=>True
 | c::cs=>DA c/\yV cs
def Da:AR->Prop
 | .c x=>DA x
 | .agg cs=>yV cs
def zo:List AR->Prop
 | []=>True
 | c::cs=>Da c/\zo cs
def qw:List (Id×AO)->Bool
 | []=>true
 |(o,_)::l=>!(l.any fun p=>fu o p.1)&&qw l
def JB (Γ:Env)(st:St):ResultVar->Option AR
 | .tmp t=>(match di st.fr t with
   | .r x=>some x
   | _=>none)
 | .cell a T=>(match di st.fr a,Γ.get T with
   | .r (.c (.ptr o 0)),some ti=>(match cj st.h o with
    | some (.box cells)=>(match ti.agg,Nat.beq cells.length ti.size,cells with
      | true,true,cs=>some (.agg cs)
      | false,true,[c]=>some (.c c)
      | _,_,_=>none)
    | _=>none)
   | _,_=>none)
def yf (Γ:Env)(st:St):List ResultVar->Option (List AR)
 | []=>some []
 | rv::rvs=>(match JB Γ st rv,yf Γ st rvs with
   | some x,some xs=>some (x::xs)
   | _,_=>none)
def IF (v:AV)(st:St)(r:Res):Prop:=qw (r.os 0)=true/\Leq true ⟨[(0,v)],st.h,st.u⟩ ⟨[(0,r.av 0)],r.us 0,[0]⟩
def KY (Γ:Env)(rvs:List ResultVar)(r:Res)(st:St):Prop:=
 match yf Γ st rvs with|some [x]=>Da x/\IF (.r x) st r|some xs=>zo xs/\IF (.tup xs) st r|none=>False
def fin (Γ:Env)(rvs:List ResultVar)(st:St)(r:Res):Prop:=iy (iZ st.h []) st (KY Γ rvs r)
def JT (Γ:Env)(rvs:List ResultVar)(r:Res):Out->St->Prop
 | .exit _,_=>False
 | .pan _,_=>False
 | _,st=>fin Γ rvs st r
def Ai (Γ:Env)(rvs:List ResultVar)(r:AV)(h1:List (Id×AO))(st:St):Prop:=
 match yf Γ st rvs with|some [x]=>Leq false ⟨[(0,.r x)],st.h,st.u⟩ ⟨[(0,r)],h1.map (fun p=>(p.1,some p.2)),[1,0]⟩|some xs=>Leq false ⟨[(0,.tup xs)],st.h,st.u⟩ ⟨[(0,r)],h1.map (fun p=>(p.1,some p.2)),[1,0]⟩|none=>False
def Kd (Γ:Env)(rvs:List ResultVar)(r:AV)(h1:List (Id×AO)):Out->St->Prop
 | .exit _,_=>False
 | .pan _,_=>False
 | _,st=>iy (iZ st.h []) st (Ai Γ rvs r h1)
structure Obl (p:Prop):Prop where
 out:p
theorem vj {P:Program}{f:FuncId}{H:Id->Option AO}{xs:List AV}{ts:List TV}{r:Res}{K:List TV->Res->Prop}(h:Sim.Spec P f ts r)(h1:eu H xs ts)(h2:K ts r):∃ts r,eu H xs ts/\Sim.Spec P f ts r/\K ts r:=
 ⟨ts,r,h1,h,h2⟩
theorem AX {P:Program}{f:FuncId}{nm:Nat}{args:List AV}{H:Id->Option AO}{K:Eff->Prop}{X:Prop}{xs:List AV}{h0:List (Id×AO)}{r:AV}{h1:List (Id×AO)}(h:bA P f xs h0 r h1)
  (h2:Gt H [] [] args xs fun θ bw=>maO H θ bw h0 fun θ bw=>(okI θ bw h0&&okJ h0 r h1&&(bw.isEmpty||(Im r&&vW h1)))=true/\K ⟨r.re θ nm,usG θ nm h1,some nm,(θ.map (·.2))++(bw++args.flatMap AV.ids)⟩):X\/Gv P f nm args H K:=
 .inr ⟨xs,h0,r,h1,h,h2⟩
theorem ai {p q:Prop}(h:p)(k:q):p/\q:=And.intro h k
theorem oi {p q:Prop}(h:Obl p)(k:q):p/\q:=And.intro h.out k
theorem fi {b:Bool}{X Y:Prop}(h1:b=true->X)(h2:b=false->Y):ifB b X Y:=Fu h1 h2
theorem ci {P:Program}{f:FuncId}{H:Id->Option AO}{xs:List AV}{ts:List TV}{r:Res}{K:List TV->Res->Prop}(h:Sim.Spec P f ts r)(h1:eu H xs ts)(h2:K ts r):∃ts r,eu H xs ts/\Sim.Spec P f ts r/\K ts r:=vj h h1 h2
theorem cl {P:Program}{f:FuncId}{H:Id->Option AO}{xs:List AV}{ts:List TV}{r:Res}{K:List TV->Res->Prop}{X:Prop}(h:Sim.Spec P f ts r)(h2:K ts r)(h1:eu H xs ts:=by first|((repeat' (first|exact trivial|refine And.intro ?_ ?_|exact rfl));done)|fail):(∃ts r,eu H xs ts/\Sim.Spec P f ts r/\K ts r)\/X:= .inl ⟨ts,r,h1,h,h2⟩
theorem cg {P:Program}{f:FuncId}{nm:Nat}{args:List AV}{H:Id->Option AO}{K:Eff->Prop}{X:Prop}{xs:List AV}{h0:List (Id×AO)}{r:AV}{h1:List (Id×AO)}(h:bA P f xs h0 r h1)
  (h2:Gt H [] [] args xs fun θ bw=>maO H θ bw h0 fun θ bw=>(okI θ bw h0&&okJ h0 r h1&&(bw.isEmpty||(Im r&&vW h1)))=true/\K ⟨r.re θ nm,usG θ nm h1,some nm,(θ.map (·.2))++(bw++args.flatMap AV.ids)⟩):X\/Gv P f nm args H K:=AX h h2
theorem Wm {α:Type}{p:α->Prop}{a:α}{l:List α}(h:p a)(t:∀x∈l,p x):∀x∈a::l,p x:=List.forall_mem_cons.2 ⟨h,t⟩
theorem KO {p:Prop}(h:p:=by first|((with_reducible show sK _ _=true);kernel_rfl)|((with_reducible show vb _ _=true);kernel_rfl)|rfl|exact trivial|((repeat' (first|exact trivial|refine And.intro ?_ ?_));done)|decide|((repeat' (first|exact G5 _|refine Wm rfl ?_));done)|(refine And.intro ?_ ?_<;>simp only[e7,c8,d5,i8]<;>omega)|fail):p:=h
theorem KP {p:Prop}(h:p:=by first|((with_reducible show sK _ _=true);kernel_rfl)|((with_reducible show vb _ _=true);kernel_rfl)|rfl|exact trivial|((repeat' (first|exact trivial|refine And.intro ?_ ?_));done)|decide|((repeat' (first|exact G5 _|refine Wm rfl ?_));done)|fail):p:=h
theorem KR {p:Prop}(h:p:=by first|((with_reducible show sK _ _=true);kernel_rfl)|((with_reducible show lf _ _ _ _=true);kernel_rfl)|((with_reducible show Iv _ _ _ _ _ _);(conv=>whnf);rfl)|rfl|exact trivial|((repeat' (first|exact trivial|refine And.intro ?_ ?_));done)|decide|((repeat' (first|exact G5 _|refine Wm rfl ?_));done)|fail):p:=h
theorem KW {k:IntKind}{a b:Int}(h:a=b:=by first|rfl|(simp(disch:=omega)only[c6];done)|((try simp(disch:=omega)only[c6]);omega)):Tr.int k a=Tr.int k b:=congrArg (Tr.int k) h
theorem KX {p:Prop}(h:False:=by simp only[p9,j5]at *;omega):p:=h.elim
theorem KK {p:Prop}(h:False:=by simp only[w8,B4,ne_eq,j5,p9]at *;omega):p:=h.elim
section
variable {P:Program} {Γ:Env} {N B:Nat} {M:Nat->Prop} {w0:Start} {w:World} {ρ:Rho} {st Mx:St} {a:Act}
theorem xn {ok:Nat->Prop}{v:Value}{x:AC}(h:DA x)(hv:RC B ρ w ok v x):RC B ρ w (okF B ok true) v x:=by
 cases x with
 | t x=>cases x with|lst=>exact h.elim|int k n=>exact RT.flat hv s_|bool b=>exact RT.flat hv s_|str b=>exact RT.flat hv s_
 | f x=>exact RT.up (show RT w (okF B ok true) v x from hv) fun b hb=>⟨hb,hb.2⟩
 | nils sz=>exact hv
 | nilp=>exact hv
 | own o=>exact hv
 | sub o k=>exact hv
 | ptr o k=>exact hv
 | opq=>exact hv
 | mpv o=>exact hv
theorem wH {ok:Nat->Prop}:∀{vs:List Value} {xs:List AC},yV xs->RCs B ρ w ok vs xs->RCs B ρ w (okF B ok true) vs xs
 | [],[],_,_=>trivial
 | _::_,_::_,h,hv=>⟨xn h.1 hv.1,wH h.2 hv.2⟩
 | [],_::_,_,h=>h.elim
 | _::_,[],_,h=>h.elim
theorem yg {ok:Nat->Prop}{v:Value}{x:AR}(h:Da x)(hv:RR B ρ w ok v x):RR B ρ w (okF B ok true) v x:=by cases x with|c x=>exact xn h hv|agg cs=>obtain⟨us,e,hu⟩:=hv;exact⟨us,e,wH h hu⟩
theorem vf {ok:Nat->Prop}:∀{vs:List Value} {xs:List AR},zo xs->RRs B ρ w ok vs xs->RRs B ρ w (okF B ok true) vs xs
 | [],[],_,_=>trivial
 | _::_,_::_,h,hv=>⟨yg h.1 hv.1,vf h.2 hv.2⟩
 | [],_::_,_,h=>h.elim
 | _::_,[],_,h=>h.elim
theorem pS:∀{l:List (Id×AO)} {o:Id} {x:AO},qw l=true->(o,x)∈l->cj (l.map fun p=>(p.1,some p.2)) o=some x
 | [],_,_,_,h=>by cases h
 |(i,y)::l,o,x,h,hm=>by
  simp only[qw,b9,u9,F5]at h;rw[p7,cj];rcases d6.1 hm with he|O9
  ·injection he with e1 e2;subst e1;subst e2;rw[idEq_iff.2 rfl];rfl
  ·cases hb:fu o i with|true=>have:=idEq_iff.1 hb;subst this;exact absurd (idEq_iff.2 rfl) (h.1 (o,x) O9)|false=>exact pS h.2 O9
theorem Conc.alone (hc:Conc N B M w0 ρ st.fs a w){v:Value}{x:AV}(hv:RV B ρ w (okB ρ st.fs.H w) v x)(hi:∀o∈x.ids,st.fs.U o.1):Conc 1 B M w0 ρ (St.fs ⟨[(0,x)],st.h,st.u⟩) ⟨#[v],w0.df⟩ w:=by
 refine⟨rfl,rfl,fun t=>?_,hc.obj,hc.sep,hc.rng,hc.keep,hc.base,hc.alw,hc.cst,hc.Mp,fun t o ho=>?_,hc.usedH⟩
 ·show RV _ _ _ _ _ (bif Nat.beq t 0 then x else .unk)
  cases t with|zero=>exact hv|succ t=>trivial
 ·have ho:o∈(bif Nat.beq t 0 then x else .unk).ids:=ho
  cases t with|zero=>exact hi o ho|succ t=>have:o∈AV.ids .unk:=ho;simp[AV.ids]at this
theorem Ei {r:Res}{v:Value}{x:AV}(hM:∀b,¬M b)(hX:∀o,w0.fx o=none)(hc:Conc N B M w0 ρ st.fs a w)(h:IF x st r)(hv:RV B ρ w (okB ρ st.fs.H w) v x)(NH:RV B ρ w (okF B (okB ρ st.fs.H w) true) v x)(hi:∀o∈x.ids,st.fs.U o.1):vH B w v r:=by
 obtain⟨h1,h2⟩:=h;obtain⟨ρ',MB,hk,hS⟩:=h2.ok' (M:=M) (fun _=>⟨hM,hX⟩) (fun o v hv=>by rw[hX]at hv;cases hv) (hc.alone hv hi);have cj:∀o y,(o,y)∈r.os 0->(St.fs ⟨[(0,r.av 0)],r.us 0,[0]⟩).H o=some y:=fun o y hm=>pS h1 hm;refine⟨ρ',okF B (okB ρ' (St.fs ⟨[(0,r.av 0)],r.us 0,[0]⟩).H w) true,fun b hb=>⟨hb.1.1.1,hb.2 rfl⟩,?_,fun o y hm=>?_,fun o o' y y' hm PX ME b hb MK=>MB.sep o o' y y' b (cj o y hm) (cj o' y' PX) ME (.inl hb) (.inl MK)⟩
 ·exact hS 0 v _ _ (fun b hb=>⟨hk b hb.1,hb.2⟩) NH
 ·have ho:=cj o y hm;obtain⟨sz,rows,rfl⟩:=zf hm;refine⟨?_,fun b hb=>?_⟩
  ·obtain⟨hu,PG⟩:=MB.obj o _ ho;refine⟨hu,?_⟩;rcases PG with h|⟨b,cap,cur,e,fz,k1,k2,k3,k4,k5,k6,k7,k8⟩
   ·exact .inl h
   ·exact .inr ⟨b,cap,cur,e,fz,k1,k2,k3,k4,k5,k6,k7.keep fun b hb=>⟨rfl,hb,hb.2⟩,k8⟩
  ·have:=MB.rng o _ b ho (.inl hb);refine⟨this.2.resolve_right (hM b),this.1,fun MA=>MA.1.2 o _ ho (.inl hb)⟩
abbrev vI (tmps:Array Value)(rv:ResultVar):Sem Value:=match rv with
 | .tmp t=>pure (tmps.getD t undef)
 | .cell a t=>do loadVar t (←asAddr (tmps.getD a undef))
theorem JG (hΓ:Γ.chk P=true)(hc:Conc N B M w0 ρ st.fs a w){rv:ResultVar}{x:AR}(h:JB Γ st rv=some x):
  ∃v,(vI a.tmps rv).run P w= .ok v w/\RR B ρ w (okB ρ st.fs.H w) v x/\∀o∈x.ids,st.fs.U o.1:=by
 cases rv with
 | tmp t=>
  simp only[JB]at h;split at h
  ·rename_i y hy;injection h with h;subst h;have hs:=hc.slot t;rw[show st.fs.L t= .r y from hy]at hs;exact⟨_,rfl,hs,fun o ho=>hc.usedL t o (by rw[show st.fs.L t= .r y from hy];exact ho)⟩
  ·cases h
 | cell t T=>
  simp only[JB]at h;split at h
  ·rename_i o ti hl hT;split at h
   ·rename_i cells hh;obtain⟨i,d,fit⟩:=Env.fit hΓ hT;obtain⟨b,us,t',fz,g1,g2,g3,g4,g5⟩:=hc.box (q:=o) hh;have hs:=hc.slot t;rw[show st.fs.L t= .r (.c (.ptr o 0)) from hl]at hs;obtain⟨b',e1,e2⟩:=hs;rw[g1]at e1;injection e1 with e1;injection e1 with e1;injection e1 with e1;subst e1;have PA:∀o'∈cells.flatMap AC.ids,st.fs.U o'.1:=(hc.usedH o _ hh).2;have O3:(asAddr (a.tmps.getD t undef)).run P w= .ok (⟨b,0,none⟩:Addr) w:=(by rw[e2];rfl);split at h
    ·rename_i cs ha hb;injection h with h;subst h;have Mv:us.toList.length=ti.size:=(by rw[g4.length];simpa using hb);have h1:=run_loadCells_list (P:=P) w ⟨b,0,none⟩ us.toList g5;rw[Mv,<-fit.size]at h1;refine⟨.agg us.toList.toArray,?_,⟨_,rfl,by simpa using g4⟩,PA⟩;simp only[vI,m8,O3,i9];simp[loadVar,jl fit.und,fit.agg,ha,cn fit.info,h1]
    ·rename_i c ha hb;injection h with h;subst h;obtain⟨u,hu,RA⟩:=g4.get 0 c rfl;have MH:=g5 0 u hu;rw[fS]at MH;refine⟨u,?_,RA,fun o ho=>PA o (by simpa using(show o∈c.ids from ho))⟩;simp only[vI,m8,O3,i9];simp[loadVar,jl fit.und,fit.agg,ha,run_load,MH]
    ·cases h
   ·cases h
  ·cases h
theorem nj (hΓ:Γ.chk P=true)(hc:Conc N B M w0 ρ st.fs a w):∀{rvs:List ResultVar} {xs:List AR},yf Γ st rvs=some xs->
  ∃vs,(rvs.mapM (vI a.tmps)).run P w= .ok vs w/\RRs B ρ w (okB ρ st.fs.H w) vs xs/\∀o∈xs.flatMap AR.ids,st.fs.U o.1
 | [],xs,h=>by
  simp only[yf,Option.some.injEq]at h;subst h
  exact⟨[],s_,trivial,s_⟩
 | rv::rvs,xs,h=>by
  simp only[yf]at h;split at h
  ·rename_i x WR h1 h2;injection h with h;subst h;obtain⟨v,g1,g2,g3⟩:=JG hΓ hc h1;obtain⟨vs,g4,g5,g6⟩:=nj hΓ hc h2;refine⟨v::vs,?_,⟨g2,g5⟩,fun o ho=>?_⟩
   ·rw[List.mapM_cons,m8,g1,i9,m8,g4,i9,o9]
   ·simp only[u7,d9]at ho;exact ho.elim (g3 o) (g6 o)
  ·cases h
theorem jW {fn:Func}{a:Act}{vs:List Value}(Pg:(fn.results.toList.mapM (vI a.tmps)).run P w= .ok vs w):(results fn a.tmps).run P w= .ok (if h:vs.length=1 then vs[0]else .tuple vs.toArray) w:=by unfold results;rw[show fn.results=fn.results.toList.toArray by simp];simp only[List.mapM_toArray,bind_map_left,m8];refine(congrArg (fun x=>Result.andThen x _) Pg).trans ?_;simp only[i9,o9,B0,List.getElem_toArray]
theorem V67{p:Prop}(h:p:=by
 intro hl;obtain⟨v,rfl⟩:=List.length_eq_one_iff.1 hl
 match xs,g2,ME with
 | [x],_,ME=>exact ME x rfl
 | [],g2,_=>exact g2.elim
 | _::_::_,g2,_=>exact g2.2.elim):p:=h
theorem IK {r:Res}{fn:Func}(hΓ:Γ.chk P=true)(hM:∀b,¬M b)(hX:∀o,w0.fx o=none)(hc:Conc N B M w0 ρ st.fs a w)(h:KY Γ fn.results.toList r st):
  ∃v,(results fn a.tmps).run P w= .ok v w/\vH B w v r:=by
 unfold KY at h;split at h
 ·rename_i x hx;obtain⟨vs,g1,g2,g3⟩:=nj hΓ hc hx
  match vs,g2 with
  | [v],g2=>
   refine⟨_,jW g1,?_⟩;simp only[d5,i8,u5,dite_true,List.getElem_cons_zero]
   exact Ei hM hX hc h.2 g2.1 (yg h.1 g2.1) fun o ho=>g3 o (by simpa using(show o∈x.ids from ho))
  | [],g2=>exact g2.elim
  | _::_::_,g2=>exact g2.2.elim
 ·rename_i xs ME hx;obtain⟨vs,g1,g2,g3⟩:=nj hΓ hc hx;refine⟨_,jW g1,?_⟩
  have hl:¬vs.length=1:=by exact V67
  rw[dif_neg hl];exact Ei hM hX hc h.2 ⟨_,rfl,by simpa using g2⟩ ⟨_,rfl,by simpa using vf h.1 g2⟩ g3
 ·exact h.elim
theorem Hr {r:Res}{fn:Func}(hΓ:Γ.chk P=true)(hM:∀b,¬M b)(hX:∀o,w0.fx o=none)(hc:Conc N B M w0 ρ st.fs a w)(h:fin Γ fn.results.toList st r):
  ∃v,(results fn a.tmps).run P w= .ok v w/\vH B w v r:=by
 obtain⟨st1,ρ1,g1,g2,_⟩:=jU _ st _ ρ h hc fun _ _=>trivial;exact IK hΓ hM hX g2 g1
theorem DF {r:AV}{h1:List (Id×AO)}{fn:Func}(hΓ:Γ.chk P=true)(hF:∀o v,w0.fx o=some v->o.1=0)(hc:Conc N B M w0 ρ st.fs a w)(h:iy (iZ st.h []) st (Ai Γ fn.results.toList r h1)):
  ∃v ρ',(results fn a.tmps).run P w= .ok v w/\Conc 1 B M w0 ρ' (St.fs ⟨[(0,r)],h1.map (fun p=>(p.1,some p.2)),[1,0]⟩) ⟨#[v],w0.df⟩ w:=by
 obtain⟨st1,ρ1,h,hc,_⟩:=jU _ st _ ρ h hc fun _ _=>trivial;unfold Ai at h;split at h
 ·rename_i x hx;obtain⟨vs,g1,g2,g3⟩:=nj hΓ hc hx
  match vs,g2 with
  | [v],g2=>
   obtain⟨ρ2,h2⟩:=h.ok s_ hF (hc.alone (x:= .r x) g2.1 fun o ho=>g3 o (by simpa using(show o∈x.ids from ho)));refine⟨_,ρ2,jW g1,?_⟩
   simpa using h2
  | [],g2=>exact g2.elim
  | _::_::_,g2=>exact g2.2.elim
 ·rename_i xs ME hx;obtain⟨vs,g1,g2,g3⟩:=nj hΓ hc hx
  have hl:¬vs.length=1:=by exact V67
  obtain⟨ρ2,h2⟩:=h.ok s_ hF (hc.alone (x:= .tup xs) (v:= .tuple vs.toArray) ⟨_,rfl,by simpa using g2⟩ g3);refine⟨_,ρ2,jW g1,?_⟩;rw[dif_neg hl];exact h2
 ·exact h.elim
theorem V71{p:Prop}(h:p:=by
 by_cases h1:t<i
 ·rw[c7 h1,c7 o_]
 ·rw[b8 h1,b8 o_];obtain⟨k,hk⟩:∃k,t-i=k+1:=⟨t-i-1,o_⟩;rw[hk,show t-(i+1)=k by omega]
  simp):p:=h
theorem rk:∀(ts:List TV) (i t:Nat),di (ve i ts) t=if t<i then .unk else(match ts[t-i]? with|some x=>x.av|none=> .unk)
 | [],i,t=>by simp[ve,di]
 | x::ts,i,t=>by
  rw[ve,di]
  cases hb:Nat.beq t i with
  | true=>have:=r9 hb;subst this;simp
  | false=>
   have ME:t≠i:=fun e=>by subst e;simp at hb
   rw[cond_false,rk ts (i+1) t];exact V71
theorem TV.av_ids (t:TV):t.av.ids=[]:=by
 cases t with
 | c x=>rfl
 | agg xs=>
  show(xs.map AC.t).flatMap AC.ids=[]
  induction xs with
  | nil=>rfl
  | cons x xs ih=>simp[AC.ids]
theorem RTs.toT {ok:Nat->Prop}:∀{vs:List Value} {ts:List Tr},RTs w ok vs ts->RCs B ρ w ok vs (ts.map .t)
 | [],[],_=>trivial
 | _::_,_::_,h=>⟨h.1,RTs.toT h.2⟩
 | [],_::_,h=>h.elim
 | _::_,[],h=>h.elim
theorem RTV.toRV {ok:Nat->Prop}{v:Value}{t:TV}(h:RTV w ok v t):RV B ρ w ok v t.av:=by cases t with|c x=>exact h|agg xs=>obtain⟨us,e,h⟩:=h;exact⟨us,e,h.toT⟩
theorem RTVs.len {ok:Nat->Prop}:∀{vs:List Value} {ts:List TV},RTVs w ok vs ts->vs.length=ts.length
 | [],[],_=>rfl
 | _::vs,_::ts,h=>by simp[RTVs.len (vs:=vs) (ts:=ts) h.2]
 | [],_::_,h=>h.elim
 | _::_,[],h=>h.elim
theorem RTVs.get {ok:Nat->Prop}:∀{vs:List Value} {ts:List TV},RTVs w ok vs ts->∀(i:Nat) v t,vs[i]?=some v->ts[i]?=some t->RTV w ok v t
 | [],[],_,i,v,t,h,_=>by simp at h
 | _::_,_::_,h,0,v,t,h1,h2=>by simp at h1 h2;subst h1;subst h2;exact h.1
 | _::_,_::_,h,i+1,v,t,h1,h2=>RTVs.get h.2 i v t aai aaf
 | [],_::_,h,_,_,_,_,_=>h.elim
 | _::_,[],h,_,_,_,_,_=>h.elim
theorem wz {ts:List TV}{vs:Array Value}{w:World}(h:RTVs w (fun b=>b<w.heap.size) vs.toList ts)(hN:ts.length<=N):
  Conc N w.heap.size (fun _=>False) ⟨w,fun _=>True,fun _=>none,[]⟩ ⟨fun _=>undef,fun _ _=>False,fun _=>True⟩ (st0 ts).fs {tmps:=vs++Array.replicate (N-vs.size) undef,defers:=[]} w:=by
 have hl:vs.size=ts.length:=by simpa using h.len
 refine⟨by simp;omega,rfl,fun t=>?_,fun o x ho=>(by cases ho),fun o o' x x' b ho=>(by cases ho),fun o x b ho=>(by cases ho),⟨rfl,rfl,rfl,d8 _,fun _ _ _=>rfl⟩,d8 _,fun _ _=>trivial,rfl,fun _ _ h=>(by cases h),fun t o ho=>?_,fun o x ho=>by cases ho⟩
 ·show RV _ _ _ _ _ (di (ve 0 ts) t);rw[rk,b8 o_,y0]
  cases ht:ts[t]? with
  | none=>trivial
  | some x=>
   have My:t<vs.size:=by
    rcases m7 t ts.length with h'|h'
    ·omega
    ·rw[e9 h']at ht;cases ht
   have e:(vs++Array.replicate (N-vs.size) undef).getD t undef=vs[t]:=by rw[r7,Array.getElem?_append_left My,w7 My];rfl
   simp only;rw[e];have:=h.get t vs[t] x (by simp[My]) ht;refine RV.keep (RTV.toRV (B:=w.heap.size) (ρ:=⟨fun _=>undef,fun _ _=>False,fun _=>True⟩) this) (fun b hb=>⟨rfl,⟨hb,trivial⟩,fun o x ho=>by cases ho⟩) (fun o ho=>rfl)
 ·have ho:o∈(di (ve 0 ts) t).ids:=ho;rw[rk,b8 o_,y0]at ho
  cases ht:ts[t]? with
  | none=>rw[ht]at ho;simp[AV.ids]at ho
  | some x=>rw[ht]at ho;simp only[TV.av_ids]at ho;cases ho
theorem nB {f:FuncId}{fn:Func}{c:Code}(hf:P.funcs[f]?=some fn)(hb:fn.body=some c)(hn:(fn.name== "runtime.NumGoroutine")=false):CL P f:=by intro args w;simp only[B4]at hn;simp[callFunc,hf,hb,hn]
theorem V12{p:Prop}(h:p:=by
 have key:fin Γ fn.results.toList Mx r->a'.defers=[]/\∃v,(results fn a'.tmps).run P w'= .ok v w'/\∃v',Ending.returned v= .returned v'/\Below w.heap.size w w'/\vH w.heap.size w' v' r:=fun Nf=>by
  obtain⟨v,h1,h2⟩:=Hr (P:=P) hΓ (fun _ h=>h) (fun _=>rfl) MB Nf;exact⟨MB.defers,v,h1,v,rfl,⟨MB.keep.os,MB.keep.tape,MB.keep.output,MB.keep.size,fun k hk=>MB.keep.block k hk (fun h=>h)⟩,h2⟩
 cases e with
 | normal=>exact key hK
 | ret=>exact key hK
 | exit id=>exact hK.elim
 | pan v=>exact hK.elim):p:=h
theorem ak {f:FuncId}{fn:Func}{c:Code}{ts:List TV}{r:Res}(hΓ:Γ.chk P=true)(aG:P.follows .mixedOrders=true)(hf:P.funcs[f]?=some fn)(hb:fn.body=some c)(hn:(fn.name== "runtime.NumGoroutine")=false)
  (hN:Nat.ble ts.length fn.ntmps=true) (h:W true P Γ fn.ntmps c (JT Γ fn.results.toList r) (st0 ts)):Spec P f ts r:=by
 refine⟨nB hf hb hn,fun w vs Pg=>calls_of_wp hf hb ?_⟩;have hc:=wz (N:=fn.ntmps) Pg (D8 hN);refine KM hΓ aG (fun _=>⟨fun _ h=>h,fun _=>rfl⟩) (fun _ _ h=>by cases h) c _ _ _ _ _ _ h hc fun e Mx ρ' a' w' hK MB=>?_;exact V12
def uT:Nat->List AV->List (Nat×AV)
 | _,[]=>[]
 | i,t::ts=>(i,t)::uT (i+1) ts
def stG (xs:List AV)(h0:List (Id×AO)):St:=⟨uT 0 xs,h0.map fun p=>(p.1,some p.2),[0]⟩
theorem pa:∀(ts:List AV) (i t:Nat),di (uT i ts) t=if t<i then .unk else(match ts[t-i]? with|some x=>x|none=> .unk)
 | [],i,t=>by simp[uT,di]
 | x::ts,i,t=>by
  rw[uT,di]
  cases hb:Nat.beq t i with
  | true=>have:=r9 hb;subst this;simp
  | false=>
   have ME:t≠i:=fun e=>by subst e;simp at hb
   rw[cond_false,pa ts (i+1) t];exact V71
theorem RVs.len {ok:Nat->Prop}:∀{vs:List Value} {ts:List AV},RVs B ρ w ok vs ts->vs.length=ts.length
 | [],[],_=>rfl
 | _::vs,_::ts,h=>by simp[RVs.len (vs:=vs) (ts:=ts) h.2]
 | [],_::_,h=>h.elim
 | _::_,[],h=>h.elim
theorem RVs.get {ok:Nat->Prop}:∀{vs:List Value} {ts:List AV},RVs B ρ w ok vs ts->∀(i:Nat) v t,vs[i]?=some v->ts[i]?=some t->RV B ρ w ok v t
 | [],[],_,i,v,t,h,_=>by simp at h
 | _::_,_::_,h,0,v,t,h1,h2=>by simp at h1 h2;subst h1;subst h2;exact h.1
 | _::_,_::_,h,i+1,v,t,h1,h2=>RVs.get h.2 i v t aai aaf
 | [],_::_,h,_,_,_,_,_=>h.elim
 | _::_,[],h,_,_,_,_,_=>h.elim
theorem yQ (h0:List (Id×AO))(o:Id):cj (h0.map fun p=>(p.1,some p.2)) o=lkH h0 o:=by
 induction h0 with
 | nil=>rfl
 | cons p l ih=>simp only[p7,cj,lkH,ih]
def rd (xs:List AV)(h0:List (Id×AO))(r:AV)(h1:List (Id×AO)):Bool:=
 xs.all (fun x=>x.ids.all fun o=>Nat.beq o.1 0)&&h0.all (fun p=>Nat.beq p.1.1 0&&p.2.ids.all fun o=>Nat.beq o.1 0)
theorem sF {xs:List AV}{h0:List (Id×AO)}{vs:Array Value}{w:World}{ρ:Rho}(hn:rd xs h0 .unk []=true)(h:RVs w.heap.size ρ w (okB ρ (lkH h0) w) vs.toList xs)(hl:Lies w.heap.size ρ w h0)(M4:∀b,(w.heap.size<=b\/Ms ρ h0 b)->ρ.al b)(hN:xs.length<=N):
  Conc N w.heap.size (Ms ρ h0) ⟨w,ρ.al,fun o=>if(lkH h0 o).isSome=true then some (ρ o)else none,[]⟩ ρ (stG xs h0).fs {tmps:=vs++Array.replicate (N-vs.size) undef,defers:=[]} w:=by
 have Mv:vs.size=xs.length:=by simpa using h.len
 simp only[rd,b9,o8,H3]at hn;have hH:∀o,(stG xs h0).fs.H o=lkH h0 o:=fun o=>yQ h0 o;have TH:(stG xs h0).fs.H=lkH h0:=funext hH
 have hU:∀n,(stG xs h0).fs.U n↔n=0:=fun n=>by
  show used [0] n=true↔n=0;simp only[used]
  cases hb:Nat.beq n 0 with|true=>simpa using hb|false=>simp only[cond_false,A2,false_iff];intro e;subst e;simp at hb
 have Pz:∀o x,lkH h0 o=some x->o.1=0/\∀o'∈x.ids,o'.1=0:=fun o x hx=>by
  have:=hn.2 _ (ig hx);exact⟨by simpa using this.1,fun o' MV=>by simpa using this.2 o' MV⟩
 refine⟨by simp;omega,rfl,fun t=>?_,fun o x ho=>?_,fun o o' x x' b ho MV=>?_,fun o x b ho he=>?_,⟨rfl,rfl,rfl,d8 _,fun _ _ _=>rfl⟩,d8 _,fun b hb=>M4 b hb,rfl,fun o v hv=>?_,fun t o ho=>?_,fun o x ho=>?_⟩
 ·show RV _ _ _ _ _ (di (uT 0 xs) t);rw[pa,b8 o_,y0,TH]
  cases ht:xs[t]? with
  | none=>trivial
  | some x=>
   have My:t<vs.size:=by
    rcases m7 t xs.length with h'|h'
    ·omega
    ·rw[e9 h']at ht;cases ht
   have e:(vs++Array.replicate (N-vs.size) undef).getD t undef=vs[t]:=by rw[r7,Array.getElem?_append_left My,w7 My];rfl
   simp only;rw[e];exact h.get t vs[t] x (by simp[My]) ht
 ·rw[hH]at ho;rw[TH];exact hl.obj o x ho
 ·rw[hH]at ho MV;exact hl.sep o o' x x' b ho MV
 ·rw[hH]at ho;exact⟨hl.lt o x b ho he,.inr ⟨o,x,ho,he⟩⟩
 ·have hv:(if(lkH h0 o).isSome=true then some (ρ o)else none)=some v:=hv;split at hv
  ·rename_i hs;injection hv with hv;obtain⟨x,hx⟩:=E6.1 hs;exact⟨hv,(hU _).2 (Pz o x hx).1⟩
  ·cases hv
 ·have ho:o∈(di (uT 0 xs) t).ids:=ho;rw[pa,b8 o_,y0]at ho
  cases ht:xs[t]? with|none=>rw[ht]at ho;simp[AV.ids]at ho|some x=>rw[ht]at ho;exact(hU _).2 (by simpa using hn.1 x (c9 ht) o ho)
 ·rw[hH]at ho;obtain⟨g1,g2⟩:=Pz o x ho;exact⟨(hU _).2 g1,fun o' MV=>(hU _).2 (g2 o' MV)⟩
theorem V54{p:Prop}(h:p:=by
 split at hv
 ·rename_i hs;obtain⟨x,hx⟩:=E6.1 hs;simp only[rd,b9,o8,H3]at Nb;simpa using(Nb.2 _ (ig hx)).1
 ·cases hv):p:=h
theorem V5{p:Prop}(h:p:=by
 have key:iy (iZ Mx.h []) Mx (Ai Γ fn.results.toList r h1)->a'.defers=[]/\∃v,(results fn a'.tmps).run P w'= .ok v w'/\∃v' ρ2,Ending.returned v= .returned v'/\Keep w.heap.size (Ms ρ h0) w w'/\(∀o,(lkH h0 o).isSome=true->ρ2 o=ρ o)/\ρ2.al=ρ.al/\
   RV w.heap.size ρ2 w' (okB ρ2 (lkH h1) w') v' r/\Lies w.heap.size ρ2 w' h1/\∀o x b,lkH h1 o=some x->Own ρ2 o b->w.heap.size<=b\/Ms ρ h0 b:=fun Nf=>by
  obtain⟨v,ρ2,k1,k2⟩:=DF (P:=P) hΓ hF MB Nf;have hH:∀o,(St.fs ⟨[(0,r)],h1.map (fun p=>(p.1,some p.2)),[1,0]⟩).H o=lkH h1 o:=fun o=>yQ h1 o;have TH:(St.fs ⟨[(0,r)],h1.map (fun p=>(p.1,some p.2)),[1,0]⟩).H=lkH h1:=funext hH;refine⟨MB.defers,v,k1,v,ρ2,rfl,k2.keep,fun o ho=>?_,k2.cst,?_,⟨fun o x ho=>?_,fun o o' x x' b ho MV=>?_,fun o x b ho he=>?_⟩,fun o x b ho he=>?_⟩
  ·have:=k2.Mp o (ρ o) (by show(if(lkH h0 o).isSome=true then some (ρ o)else none)=_;rw[c7 ho]);exact this.1
  ·have:=k2.slot 0;rw[TH]at this;exact this
  ·have:=k2.obj o x aaR;rw[TH]at this;exact this
  ·exact k2.sep o o' x x' b aaR (by rw[hH];exact MV)
  ·exact(k2.rng o x b aaR he).1
  ·exact(k2.rng o x b aaR he).2
 cases e with
 | normal=>exact key hK
 | ret=>exact key hK
 | exit id=>exact hK.elim
 | pan v=>exact hK.elim):p:=h
theorem eP {f:FuncId}{fn:Func}{c:Code}{xs:List AV}{h0:List (Id×AO)}{r:AV}{h1:List (Id×AO)}(hΓ:Γ.chk P=true)(aG:P.follows .mixedOrders=true)(hf:P.funcs[f]?=some fn)(hb:fn.body=some c)(hn:(fn.name== "runtime.NumGoroutine")=false)
  (hN:Nat.ble xs.length fn.ntmps=true) (Nb:rd xs h0 .unk []=true) (h:W false P Γ fn.ntmps c (Kd Γ fn.results.toList r h1) (stG xs h0)):bA P f xs h0 r h1:=by
 refine⟨nB hf hb hn,fun w vs ρ Pg hl M4=>calls_of_wp hf hb ?_⟩;have hc:=sF (N:=fn.ntmps) Nb Pg hl M4 (D8 hN)
 have hF:∀o v,(if(lkH h0 o).isSome=true then some (ρ o)else none)=some v->o.1=0:=fun o v hv=>by
  exact V54
 refine KM hΓ aG s_ hF c _ _ _ _ _ _ h hc fun e Mx ρ' a' w' hK MB=>?_;exact V5
end
end Go.Sim
namespace Go.Sim
open Go.RowKit Go.ChangeShapes Go.WideShapes Go.ChangeAt
def Ge (okT:TypeId->Bool):Nat->List (Nat×Nat×TypeId)->Nat->Bool
 | o,[],sz=>Nat.beq o sz
 | o,(off,s,t)::r,sz=>Nat.beq off o&&okT t&&Ge okT (o+s) r sz
def okT (Γ:Env):Nat->TypeId->Bool
 | 0,_=>false
 | n+1,t=>match Γ.get t with
  | none=>false
  | some ti=>match ti.kind,ti.bool||ti.str,ti.elem,ti.fields with
   | some _,_,_,_=>Nat.beq ti.size 1
   | none,true,_,_=>Nat.beq ti.size 1
   | none,false,some e,_=>Nat.beq ti.size 1&&okT Γ n e
   | none,false,none,f::fs=>Ge (okT Γ n) 0 (f::fs) ti.size
   | none,false,none,[]=>false
def yM (T:TypeId->List Tr->Prop):List (Nat×Nat×TypeId)->List Tr->Prop
 | [],ts=>ts=[]
 |(_,_,t)::fs,ts=>∃xs rest,ts=xs++rest/\T t xs/\yM T fs rest
def ec (Γ:Env)(t:TypeId):Nat:=match Γ.get t with|some ti=>ti.size|none=>0
def ov (Γ:Env):Nat->TypeId->List Tr->Prop
 | 0,_,_=>False
 | n+1,t,ts=>match Γ.get t with
  | none=>False
  | some ti=>match ti.kind,ti.bool,ti.str,ti.elem with
   | some k,_,_,_=>∃m,ts=[.int k m]/\(Lit.int k m).wf=true
   | none,true,_,_=>∃b,ts=[.bool b]
   | none,false,true,_=>∃s:List UInt8,ts=[.str s]/\s.length<=maxLen
   | none,false,false,some e=>∃rows,ts=[.lst (ec Γ e) rows]/\rows.length<=maxLen/\∀r∈rows,ov Γ n e r
   | none,false,false,none=>yM (ov Γ n) ti.fields ts
def yZ (Γ:Env)(n:Nat)(t:TypeId)(x:TV):Prop:=
 match Γ.get t with
 | none=>False
 | some ti=>match ti.agg with
  | true=>∃xs,x= .agg xs/\ov Γ n t xs
  | false=>∃y,x= .c y/\ov Γ n t [y]
def ql (Γ:Env)(n:Nat):List TypeId->List TV->Prop
 | [],[]=>True
 | t::ts,x::xs=>yZ Γ n t x/\ql Γ n ts xs
 | _,_=>False
section
variable {H:Type} {enc:TypeId×Value->H} {P:Program} {Γ:Env} {w:World} {sp:Nat->Bool} {QV:Bool}
theorem AA (s:ByteArray):s=⟨s.data.toList.toArray⟩:=by cases s;simp
theorem Cq (hΓ:Γ.chk P=true):∀(n:Nat) (t:TypeId) (fuel:Nat) (cs:List Value) (x:DataW H×List MemPlace),okT Γ n t=true->DataW.trod enc P w 0 sp QV fuel t cs=some x->
  ∃ts,RTs w (fun b=>b<w.heap.size) cs ts/\ov Γ n t ts/\ts.length=ec Γ t:=by
 intro n
 induction n with
 | zero=>intro t fuel cs x h;simp[okT]at h
 | succ n ih=>
  intro t fuel cs x MA hx;simp only[okT]at MA
  cases hT:Γ.get t with
  | none=>rw[hT]at MA;simp at MA
  | some ti=>
   obtain⟨i,d,fit⟩:=Env.fit hΓ hT;rw[hT]at MA;simp only at MA;simp only[ov,hT,ec]
   cases d with
   | int k=>
    obtain⟨m,rfl,rfl,hw⟩:=DataW.trod_int fit.und hx;have hk:ti.kind=some k:=fit.kind.symm;simp only[hk,F9]at MA⊢
    exact⟨[.int k m],⟨.int k m,trivial⟩,⟨m,rfl,hw⟩,MA.symm⟩
   | bool=>
    obtain⟨b,rfl,rfl⟩:=DataW.trod_bool fit.und hx;have hk:ti.kind=none:=fit.kind.symm;have hb:ti.bool=true:=fit.bool.symm;simp only[hk,hb,Bool.true_or,F9]at MA⊢
    exact⟨[.bool b],⟨.bool b,trivial⟩,⟨b,rfl⟩,MA.symm⟩
   | string=>
    obtain⟨s,rfl,rfl,hs⟩:=DataW.trod_string fit.und hx;have hk:ti.kind=none:=fit.kind.symm;have hb:ti.bool=false:=fit.bool.symm;have M5:ti.str=true:=fit.str.symm;simp only[hk,hb,M5,Bool.or_true,F9]at MA⊢;refine⟨[.str s.data.toList],⟨?_,trivial⟩,⟨_,rfl,by simpa using hs⟩,MA.symm⟩;have:=RT.str (w:=w) (ok:=fun b=>b<w.heap.size) s.data.toList
    rwa [<-AA s]at this
   | slice e=>
    have hk:ti.kind=none:=fit.kind.symm;have hb:ti.bool=false:=fit.bool.symm;have M5:ti.str=false:=fit.str.symm;have he:ti.elem=some e:=fit.elem.symm;simp only[hk,hb,M5,he,Bool.or_self,b9,F9]at MA⊢;obtain⟨UU,MA⟩:=MA;rcases DataW.trod_slice fit.und hx with⟨rfl,rfl⟩|⟨a,len,cap,elems,rest,m,rfl,rfl,rfl,_,Mv,TO,M6,Pm,_,_⟩
    ·exact⟨[.lst (ec Γ e) []],⟨.emp _ _ _ (by simp[maxLen]),trivial⟩,⟨[],rfl,s_,s_⟩,UU.symm⟩
    ·have Nu:P.cellsOf e=ec Γ e/\ec Γ e≠0:=by
      cases hE:Γ.get e with
      | none=>cases n<;>simp[okT,hE]at MA
      | some te=>obtain⟨ie,de,fite⟩:=Env.fit hΓ hE;simp only[Program.cellsOf,fite.info,x7,B5,ec,hE];exact⟨fite.size,fite.pos⟩
     have MI:∀j,j<len->∃us row,us.length=P.cellsOf e/\(∀p,p<P.cellsOf e->w.cell? (a.add (j*P.cellsOf e+p))=us[p]?)/\RTs w (fun b=>b<w.heap.size) us row/\ov Γ n e row/\row.length=ec Γ e:=by intro j hj;have h1:=Pm j hj;have h2:j<elems.length:=o_;rw[i7 h2]at h1;obtain⟨us,g1,g2⟩:=Option.bind_eq_some_iff.1 h1;obtain⟨_,g3,g4⟩:=World.cells?_some g1;obtain⟨row,g5,g6,g7⟩:=ih e m us _ MA g2;exact⟨us,row,g3,fun p hp=>by rw[<-pH];exact g4 p hp,g5,g6,g7⟩
     obtain⟨f,hf⟩:∃f:Nat->List Value×List Tr,∀j,j<len->(f j).1.length=P.cellsOf e/\(∀p,p<P.cellsOf e->w.cell? (a.add (j*P.cellsOf e+p))=(f j).1[p]?)/\RTs w (fun b=>b<w.heap.size) (f j).1 (f j).2/\ov Γ n e (f j).2/\(f j).2.length=ec Γ e:=by refine⟨fun j=>if h:j<len then(⟨(MI j h).choose,(MI j h).choose_spec.choose⟩)else([],[]),fun j hj=>?_⟩;simp only[dif_pos hj];exact(MI j hj).choose_spec.choose_spec
     let rows:=(List.range len).map fun j=>(f j).2
     let us:=((List.range len).map fun j=>(f j).1).flatten
     have Nm:∀r∈rows,r.length=ec Γ e/\ov Γ n e r:=by intro r hr;obtain⟨j,hj,rfl⟩:=n7.1 hr;have:=hf j aaz;exact⟨this.2.2.2.2,this.2.2.2.1⟩
     have Np:∀k,k<=len->RTs w (fun b=>b<w.heap.size) ((List.range k).map fun j=>(f j).1).flatten ((List.range k).map fun j=>(f j).2).flatten/\((List.range k).map fun j=>(f j).1).flatten.length=k*P.cellsOf e/\
       ∀p,p<k*P.cellsOf e->w.cell? (a.add p)=(((List.range k).map fun j=>(f j).1).flatten)[p]?:=by
      intro k
      induction k with
      | zero=>intro _;exact⟨trivial,s_,fun p hp=>by simp at hp⟩
      | succ k ihk=>
       intro Ph;obtain⟨q1,q2,q3⟩:=ihk o_;obtain⟨r1,r2,r3,_,_⟩:=hf k o_;have e1:((List.range (k+1)).map fun j=>(f j).1).flatten=((List.range k).map fun j=>(f j).1).flatten++(f k).1:=(by rw[G3];simp);have e2:((List.range (k+1)).map fun j=>(f j).2).flatten=((List.range k).map fun j=>(f j).2).flatten++(f k).2:=(by rw[G3];simp);rw[e1,e2];refine⟨RTs.append q1 r3,by rw[c8,q2,r1,p8];omega,fun p hp=>?_⟩;rcases m7 p (k*P.cellsOf e)with My|MS
       ·rw[j7 o_];exact q3 p My
       ·rw[m5 o_,q2];have:=r2 (p-k*P.cellsOf e) (by rw[p8]at hp;omega);rwa [show k*P.cellsOf e+(p-k*P.cellsOf e)=p by omega]at this
     obtain⟨q1,q2,q3⟩:=Np len (d8 _);have RE:rows.length=len:=(by simp[rows]);refine⟨[.lst (ec Γ e) rows],⟨?_,trivial⟩,⟨rows,rfl,by rw[RE];omega,fun r hr=>(Nm r hr).2⟩,UU.symm⟩
     cases v3 len with
     | inl h0=>
      have:rows=[]:=(by simp[rows,h0]);rw[this,h0]
      exact .emp _ _ _ TO
     | inr M9=>
      refine .lst a len cap (ec Γ e) rows us RE Mv TO (fun r hr=>(Nm r hr).1) ?_ q1.length (fun p v hv=>?_) (fun p v u hv hu=>q1.get p v u hv hu)
      ·have Rv:0<len*P.cellsOf e:=Nat.mul_pos M9 (by rw[Nu.1];omega);have:=q3 0 Rv;have h0:0<us.length:=(by show 0<(((List.range len).map fun j=>(f j).1).flatten).length;omega);have h2:w.cell? (a.add 0)=some us[0]:=(by rw[this];exact i7 h0);have:=World.block_lt_of_cell? w _ h2;rwa [ic]at this
      ·have hp:p<len*P.cellsOf e:=by
        rw[<-q2];rcases m7 p us.length with h'|h'
        ·exact h'
        ·rw[e9 h']at hv;cases hv
       rw[q3 p hp];exact hv
   | struct fs=>
    have hk:ti.kind=none:=fit.kind.symm;have hb:ti.bool=false:=fit.bool.symm;have M5:ti.str=false:=fit.str.symm;have he:ti.elem=none:=fit.elem.symm;simp only[hk,hb,M5,he,Bool.or_self]at MA⊢;obtain⟨xs,m,rfl,rfl,hl,Qr,Po⟩:=DataW.trod_struct fit.und hx
    have PI:cs.length=ti.size:=by rw[hl];simp only[Program.cellsOf,fit.info,x7,B5];exact fit.size
    have Xc:Ge (okT Γ n) 0 ti.fields ti.size=true:=by cases MM:ti.fields with|nil=>rw[MM]at MA;simp at MA|cons f fl=>rw[MM]at MA;exact MA
    have key:∀(l:List (Nat×Nat×TypeId)) (o:Nat),Ge (okT Γ n) o l ti.size=true->(∀f∈l,∃y,DataW.trod enc P w 0 sp QV m f.2.2 ((cs.drop f.1).take f.2.1)=some y/\P.cellsOf f.2.2=f.2.1)->o<=ti.size->
      ∃ts,RTs w (fun b=>b<w.heap.size) (cs.drop o) ts/\yM (ov Γ n) l ts/\ts.length=ti.size-o:=by
     intro l
     induction l with
     | nil=>
      intro o h _ _;simp only[Ge,F9]at h;have:cs.drop o=[]:=(by rw[List.drop_eq_nil_iff];omega);rw[this]
      exact⟨[],trivial,rfl,by simp;omega⟩
     | cons f l ihl=>
      obtain⟨off,s,ft⟩:=f;intro o h hr ho;simp only[Ge,b9,F9]at h;obtain⟨⟨rfl,h2⟩,h3⟩:=h;obtain⟨y,hy,MT⟩:=hr (off,s,ft) s_;obtain⟨ts1,g1,g2,g3⟩:=ih ft m _ _ h2 hy;have hs:ts1.length=((cs.drop off).take s).length:=g1.length.symm
      have Nu:ec Γ ft=s:=by
       cases hE:Γ.get ft with
       | none=>cases n<;>simp[okT,hE]at h2
       | some te=>obtain⟨ie,de,fite⟩:=Env.fit hΓ hE;simp only at MT;rw[<-MT];simp only[Program.cellsOf,fite.info,x7,B5,ec,hE];exact fite.size.symm
      have MY:off+s<=ti.size:=by
       simp only[l6,t9]at hs
       have M9:s≠0:=by
        cases hE:Γ.get ft with
        | none=>cases n<;>simp[okT,hE]at h2
        | some te=>obtain⟨ie,de,fite⟩:=Env.fit hΓ hE;rw[<-Nu];simp only[ec,hE];exact fite.pos
       omega
      obtain⟨ts2,g4,g5,g6⟩:=ihl (off+s) h3 (fun f hf=>hr f (by simp[hf])) MY;refine⟨ts1++ts2,?_,⟨ts1,ts2,rfl,g2,g5⟩,by simp;omega⟩;have e:cs.drop off=(cs.drop off).take s++cs.drop (off+s):=(by rw[<-F1,y9]);rw[e];exact RTs.append g1 g4
    have Pq:=fit.fields;simp only[jL,b9,j5]at Pq
    obtain⟨ts,g1,g2,g3⟩:=key ti.fields 0 Xc (fun f hf=>by
     rw[<-Pq.1]at hf;obtain⟨F,h1,rfl⟩:=n7.1 hf;obtain⟨i,hi⟩:=C3 h1;have SS:fs[i]?=some F:=by simpa using hi
     have My:i<xs.length:=by
      rw[Qr];rcases m7 i fs.size with h'|h'
      ·exact h'
      ·rw[F3 h']at SS;cases SS
     exact⟨xs[i],by rw[Po i F SS,i7 My],rfl⟩) (w6 _)
    exact⟨ts,by simpa using g1,g2,by simpa using g3⟩
   | _=>have hk:ti.kind=none:=fit.kind.symm;have hb:ti.bool=false:=fit.bool.symm;have M5:ti.str=false:=fit.str.symm;have he:ti.elem=none:=fit.elem.symm;have hf:=fit.fields;simp only[jL,C8]at hf;simp[hk,hb,M5,he,hf]at MA
theorem vY (hΓ:Γ.chk P=true){r:Reach}{base n:Nat}:∀{ts:List TypeId} {vs:List Value} {ds:List (DataW H)} {ps:List MemPlace},ts.all (okT Γ n)=true->
  (∀(j:Nat) t v,ts[j]?=some t->vs[j]?=some v->Value.okWide P w r base t v)->DataW.TrodAll enc P w 0 sp QV ts vs ds ps->
  ∃xs,RTVs w (fun b=>b<w.heap.size) vs xs/\ql Γ n ts xs
 | [],vs,ds,ps,_,_,h=>by
  obtain⟨rfl,rfl,rfl⟩:=trodAll_nil h
  exact⟨[],trivial,trivial⟩
 | t::ts,vs,ds,ps,MA,hw,h=>by
  obtain⟨v,vs,d,ds,p,q,rfl,rfl,rfl,h1,h2⟩:=trodAll_cons h;simp only[E7,b9]at MA;obtain⟨xs,g1,g2⟩:=vY hΓ MA.2 (fun j t v h3 h4=>hw (j+1) t v aaA aaB) h2;obtain⟨fuel,hf⟩:=h1;obtain⟨ys,g3,g4,g5⟩:=Cq hΓ n t fuel _ _ MA.1 hf;have hv:=hw 0 t v rfl rfl
  cases hT:Γ.get t with
  | none=>cases n<;>simp[okT,hT]at MA
  | some ti=>
   obtain⟨i,d',fit⟩:=Env.fit hΓ hT;have M3:=fit.agg
   cases ha:ti.agg with
   | true=>
    rw[ha]at M3
    have:∃cs,v= .agg cs:=by
     simp only[Value.okWide,fit.und]at hv
     cases d'<;>simp[vw]at M3
     ·obtain⟨cs,h,_⟩:=hv;exact⟨cs,h⟩
     ·obtain⟨cs,h,_⟩:=hv;exact⟨cs,h⟩
    obtain⟨cs,rfl⟩:=this
    exact⟨.agg ys::xs,⟨⟨cs,rfl,g3⟩,g1⟩,⟨by simp only[yZ,hT,ha];exact⟨ys,rfl,g4⟩,g2⟩⟩
   | false=>
    rw[ha]at M3
    have Qg:v.cells=#[v]:=by
     have hk:=fit.kind;have hb:=fit.bool;have M5:=fit.str;have he:=fit.elem
     cases d' with
     | int k=>obtain⟨m,rfl⟩:=okWide_int fit.und hv;rfl
     | bool=>obtain⟨m,rfl⟩:=okWide_bool fit.und hv;rfl
     | string=>obtain⟨m,rfl⟩:=okWide_string fit.und hv;rfl
     | slice e=>obtain⟨a,l,c,rfl⟩:=okWide_slice fit.und hv;rfl
     | struct fs=>simp[vw]at M3
     | array m e=>simp[vw]at M3
     | _=>
      exfalso;have hf:=fit.fields;simp only[jL,C8]at hf;have h1:=MA.1
      cases n with
      | zero=>simp[okT]at h1
      | succ n=>simp only[okT,hT]at h1;simp[<-hk,<-hb,<-M5,<-he,hf,iV,zW,xa,Bc]at h1
    rw[Qg]at g3
    match ys,g3 with|[y],g3=>exact⟨.c y::xs,⟨g3.1,g1⟩,⟨by simp only[yZ,hT,ha];exact⟨y,rfl,g4⟩,g2⟩⟩|[],g3=>exact g3.elim|_::_::_,g3=>exact g3.2.elim
theorem oh (hl:laidOutB P=true){W W':World}{OT:Nat->Bool}(hb:Below W.heap.size W W'):∀{ts:List TypeId} {vs:List Value} {ds:List (DataW H)} {ps:List MemPlace},
  ts.all (fun t=>P.readableRec t&&decide (t<P.types.size))=true->DataW.TrodAll enc P W 0 (fun _=>true) true ts vs ds ps->(∀p∈ps,p.block<W.heap.size)->(∀p∈ps,OT p.block=true)->DataW.TrodAll enc P W' 0 OT true ts vs ds ps
 | [],vs,ds,ps,_,h,_,_=>by
  obtain⟨rfl,rfl,rfl⟩:=trodAll_nil h
  rfl
 | t::ts,vs,ds,ps,hr,h,My,hs=>by
  obtain⟨v,vs,d,ds,p,q,rfl,rfl,rfl,h1,h2⟩:=trodAll_cons h;simp only[E7,b9,j5]at hr
  exact⟨p,q,WideElems.Trod_stays hl hr.1.1 hr.1.2 h1 (fun x hx=>hb.same (My x aat)) (fun x hx=>hs x aat),
   oh hl hb (by simpa using hr.2) h2 (fun x hx=>My x aat) (fun x hx=>hs x aat),rfl⟩
theorem FX (hl:laidOutB P=true){f:FuncId}{fn:Func}{s:ChangeSpec}{W:World}{args:Array Value}{ds:List (DataW H)}{gs:List (DataW H)}{before:List MemPlace}{tb:TypeId}
  (Sf:fn.resultTypes=#[tb]) (ZB:P.underlying tb=some .bool) (NT:s.vars=[]) (QY:fn.params.toList.all (fun t=>P.readableRec t&&decide (t<P.types.size))=true)
  (PW:s.fn H ds={results:=[.lit (.bool true)],args:=ds}) {xs:List TV} (hx:RTVs W (fun b=>b<W.heap.size) args.toList xs) (hs:Sim.Spec P f xs (.r (.c (.t (.bool true)))))
  (hW:DataW.Whole enc P fn.params.toList s.vars false W args.toList ds gs before):
  Calls P f args W fun e W'=>∃v,e= .returned v/\s.post enc P fn false true false false W args v W':=by
 refine(hs.2 W args hx).mono fun e W' ⟨v,he,hb,hr⟩=>⟨v,he,?_⟩;obtain⟨ρ,okp,_,hv,_⟩:=hr;have NH:v= .bool true:=fy hv;subst NH;have VQ:=hW;have My:=hW.lt;rw[NT]at hW;obtain⟨p,q,hA,hV,Rb,hz,hn⟩:=hW;obtain⟨rfl,rfl⟩:=trodVars_none hV
 have UJ:∀(b:Nat) (sp:Nat->Bool) (hd:Bool),DataW.TrodAll enc P W' b sp hd fn.resultTypes.toList ((Value.bool true).resultList fn.resultTypes.size) (s.fn H (ds++[])).results []:=by intro b sp hd;rw[m6,PW,Sf];exact trodAll_cons_mk (shut_bool ZB _) trodAll_mk0
 refine⟨ds,[],before,[],before,[],VQ,UJ _ _ _,?_,?_,hb.frame _,fun h=>by cases h⟩
 ·rw[m6,PW];rw[m6]at Rb;subst Rb;exact oh hl hb QY hA My (fun x hx=>by simpa using My x hx)
 ·rw[NT,m6,PW];rfl
theorem sX:∀{ts:List TypeId} {vs:List Value} {ds:List (DataW H)} {ps:List MemPlace},DataW.TrodAll enc P w 0 sp QV ts vs ds ps->ds.length=ts.length
 | [],vs,ds,ps,h=>by
  obtain⟨rfl,rfl,rfl⟩:=trodAll_nil h
  rfl
 | t::ts,vs,ds,ps,h=>by
  obtain⟨v,vs,d,ds,p,q,rfl,rfl,rfl,h1,h2⟩:=trodAll_cons h;simp[sX h2]
end
theorem zw {Γ:Env}{n:Nat}{t:TypeId}{ts:List TypeId}{xs:List TV}(h:ql Γ n (t::ts) xs):∃x WR,xs=x::WR/\yZ Γ n t x/\ql Γ n ts WR:=by cases xs with|nil=>exact h.elim|cons x xs=>exact⟨x,xs,rfl,h.1,h.2⟩
theorem Bu {Γ:Env}{n:Nat}{xs:List TV}(h:ql Γ n [] xs):xs=[]:=by cases xs with|nil=>rfl|cons x xs=>exact h.elim
theorem LE {α:Type}{l:List α}{x:TypeId}(h:l.length=#[x].toList.length):∃a,l=[a]:=by
 match l,h with
 | [a],_=>exact⟨a,rfl⟩
end Go.Sim
namespace Go.Sim
mutual
def aw (L:Int):Tr->Prop
 | .str s=>(s.length:Int)<=L
 | .lst _ rows=>(rows.length:Int)<=L/\eG L rows
 | .int _ _=>True
 | .bool _=>True
def aF (L:Int):List Tr->Prop
 | []=>True
 | c::cs=>aw L c/\aF L cs
def eG (L:Int):List (List Tr)->Prop
 | []=>True
 | r::rs=>aF L r/\eG L rs
end
theorem sZ {L:Int}:∀{rows:List (List Tr)},eG L rows->∀r∈rows,aF L r
 | [],_,r,h=>by cases h
 | r0::rs,h,r,hr=>by
  rw[eG]at h;rcases d6.1 hr with rfl|hr
  ·exact h.1
  ·exact sZ h.2 r hr
def tM:Tr->RC'
 | .lst sz rows=> .arr sz rows
 | .int k n=> .t (.int k n)
 | .bool b=> .t (.bool b)
 | .str s=> .t (.str s)
end Go.Sim
namespace Go.Sim
open Go.RowKit
def Ws (m:Bool)(P:Program)(Γ:Env)(N:Nat)(c:Code)(K:Out->St->Prop)(st:St):Prop:=
 Γ.chk P=true->P.follows .mixedOrders=true->∀(B:Nat) (M:Nat->Prop) (w0:Start) (ρ:Rho) (a:Act) (w:World) (Q:Exit->Act->World->Prop),
  (m=true->(∀b,¬M b)/\∀o,w0.fx o=none)->(∀o v,w0.fx o=some v->o.1=0)->Conc N B M w0 ρ st.fs a w->
  (∀e Mx ρ' a' w',K e Mx->Conc N B M w0 ρ' Mx.fs a' w'->Q e.at a' w')->c.wp P Q a w
theorem JV:∃F:Bool->Program->Env->Nat->Code->(Out->St->Prop)->St->Prop,F=Ws:=⟨Ws,rfl⟩
noncomputable def Wo:Bool->Program->Env->Nat->Code->(Out->St->Prop)->St->Prop:=Classical.choose JV
theorem kE:Wo=Ws:=l8 JV
theorem JS:∃F:Bool->St->St->Prop,F=LeqG:=⟨LeqG,rfl⟩
noncomputable def Lo:Bool->St->St->Prop:=Classical.choose JS
theorem EE:Lo=LeqG:=l8 JS
attribute [irreducible] Wo Lo
section
variable {P:Program} {Γ:Env} {N:Nat} {m:Bool} {K:Out->St->Prop} {st Mx:St} {c x y:Code}
theorem uf (h:W m P Γ N c K st):Wo m P Γ N c K st:=by rw[kE];intro hΓ aG B M w0 ρ a w Q hM hF hc hQ;exact KM hΓ aG hM hF c K st ρ a w Q h hc hQ
theorem W6 (h:LeqG m st Mx):Lo m st Mx:=by rw[EE];exact h
theorem W1 (h:Wo m P Γ N x (fun e Mx=>(match e with
   | .normal=>Wo m P Γ N y K Mx
   | e=>K e Mx)) st):Wo m P Γ N (.seq x y) K st:=by
 rw[kE]at *
 intro hΓ aG B M w0 ρ a w Q hM hF hc hQ;refine wp_seq (h hΓ aG B M w0 ρ a w _ hM hF hc fun e Mx ρ' a' w' hK MB=>?_)
 cases e with|normal=>exact hK hΓ aG B M w0 ρ' a' w' Q hM hF MB hQ|exit id=>exact hQ (.exit id) _ _ _ _ hK MB|pan v=>exact hQ (.pan v) _ _ _ _ hK MB|ret=>exact hQ .ret _ _ _ _ hK MB
theorem nt (ι:Type)(S:ι->St)(h:Wo m P Γ N x (fun e Mx=>(match e with
    | .normal=>∃i,Lo m Mx (S i)
    | e=>K e Mx)) st) (h2:∀i,Wo m P Γ N y K (S i)):Wo m P Γ N (.seq x y) K st:=by
 rw[kE]at *
 rw[EE]at h;intro hΓ aG B M w0 ρ a w Q hM hF hc hQ;refine wp_seq (h hΓ aG B M w0 ρ a w _ hM hF hc fun e Mx ρ' a' w' hK MB=>?_)
 cases e with|normal=>obtain⟨i,hi⟩:=hK;obtain⟨ρ'',Qd⟩:=hi.ok hM hF MB;exact h2 i hΓ aG B M w0 ρ'' a' w' Q hM hF Qd hQ|exit id=>exact hQ (.exit id) _ _ _ _ hK MB|pan v=>exact hQ (.pan v) _ _ _ _ hK MB|ret=>exact hQ .ret _ _ _ _ hK MB
theorem W2 {id:Nat}{ops:Array Oper}{draw:Bool}(h:Lh P Γ N ops.toList draw st (K .normal)):Wo m P Γ N (.region id ops draw) K st:=uf (c:= .region id ops draw) h
theorem W7 (h:K .normal st):Wo m P Γ N .skip K st:=uf (c:= .skip) h
theorem W8 {id:Nat}(h:K (.exit id) st):Wo m P Γ N (.exit id) K st:=uf (c:= .exit id) h
theorem W9 (h:K .ret st):Wo m P Γ N .ret K st:=uf (c:= .ret) h
theorem W3 {d:Operand}(h:match evL (di st.fr) d with
   | .r (.c (.t (.bool b)))=>ifB b (Wo m P Γ N x K (xc st d true)) (Wo m P Γ N y K (xc st d false))
   | _=>False):Wo m P Γ N (.cond d x y) K st:=by
 rw[kE]at *
 intro hΓ aG B M w0 ρ a w Q hM hF hc hQ;split at h
 ·rename_i b hb;have hv:=(hc.eval d).1;rw[show evL st.fs.L d=tB b from hb]at hv;refine wp_cond (fy hv) ?_
  cases b with|true=>exact(show Ws m P Γ N x K (xc st d true) from h) hΓ aG B M w0 ρ a w Q hM hF aaL hQ|false=>exact(show Ws m P Γ N y K (xc st d false) from h) hΓ aG B M w0 ρ a w Q hM hF aaL hQ
 ·exact h.elim
theorem W4 {id:Nat}(h:Wo m P Γ N c (fun e Mx=>(match e with
   | .exit id'=>(match Nat.beq id' id with
     | true=>K .normal Mx
     | false=>K (.exit id') Mx)
   | e=>K e Mx)) st):Wo m P Γ N (.block id c) K st:=by
 rw[kE]at *
 intro hΓ aG B M w0 ρ a w Q hM hF hc hQ;refine wp_block (h hΓ aG B M w0 ρ a w _ hM hF hc fun e Mx ρ' a' w' hK MB=>?_);exact V14
theorem W5 (h:∃(ι:Type) (S:ι->St) (μ:ι->Nat) (i0:ι),Lo m st (S i0)/\∀i,Wo m P Γ N c (fun e Mx=>(match e with
   | .normal=>∃j,Lo m Mx (S j)/\μ j<μ i
   | e=>K e Mx)) (S i)):Wo m P Γ N (.loop c) K st:=by
  rw[kE,EE]at *
  intro hΓ aG B M w0 ρ a w Q hM hF hc hQ
  have ih:∀(K:Out->St->Prop) (st:St) (ρ:Rho) (a:Act) (w:World) (Q:Exit->Act->World->Prop),Ws m P Γ N c K st->Conc N B M w0 ρ st.fs a w->
   (∀e Mx ρ' a' w',K e Mx->Conc N B M w0 ρ' Mx.fs a' w'->Q e.at a' w')->c.wp P Q a w:=fun K st ρ a w Q h hc hQ=>h hΓ aG B M w0 ρ a w Q hM hF hc hQ
  exact V2
@[reducible] def Wn (m:Bool) (P:Program) (Γ:Env) (N:Nat) (K:Out->St->Prop) (st:St):Code->Prop
 | .skip=>K .normal st
 | .region _ ops draw=>(match draw with
   | false=>lC P Γ N ops.toList ops.toList st [] fun Mx _=>K .normal Mx
   | true=>lC P Γ N ops.toList ops.toList st [] fun Mx log=>sK ops.toList log.reverse=true/\K .normal Mx)
 | .seq x y=>Wo m P Γ N x (fun e Mx=>(match e with
   | .normal=>Wo m P Γ N y K Mx
   | e=>K e Mx)) st
 | .cond c x y=>(match evL (di st.fr) c with
   | .r (.c (.t (.bool b)))=>ifB b (Wo m P Γ N x K (xc st c true)) (Wo m P Γ N y K (xc st c false))
   | _=>False)
 | .block id c=>Wo m P Γ N c (fun e Mx=>(match e with
   | .exit id'=>(match Nat.beq id' id with
     | true=>K .normal Mx
     | false=>K (.exit id') Mx)
   | e=>K e Mx)) st
 | .loop c=>∃(ι:Type) (S:ι->St) (μ:ι->Nat) (i0:ι),Lo m st (S i0)/\∀i,Wo m P Γ N c (fun e Mx=>(match e with
   | .normal=>∃j,Lo m Mx (S j)/\μ j<μ i
   | e=>K e Mx)) (S i)
 | .exit id=>K (.exit id) st
 | .ret=>K .ret st
 | _=>False
theorem Wx (h:Wn m P Γ N K st c):Wo m P Γ N c K st:=by
 cases c with
 | skip=>exact W7 h
 | region id ops draw=>
  refine W2 ?_
  cases draw with|false=>exact h|true=>exact .inl h
 | seq x y=>exact W1 h
 | cond d x y=>exact W3 h
 | block id c=>exact W4 h
 | loop c=>exact W5 h
 | exit id=>exact W8 h
 | ret=>exact W9 h
 | label=>exact h.elim
 | _=>exact h.elim
def Gm (H H':Id->Option AO)(L:Nat->AV):List (Nat×AV)->Prop
 | []=>True
 |(i,v)::r=>(v=L i\/∃c t,L i= .r (.c c)/\v= .r (.c (.t t))/\cv H c t/\∀q∈c.ids,H' q=none)/\Gm H H' L r
def Kk (H:Id->Option AO):List (Id×Option AO)->Prop
 | []=>True
 |(q,x)::r=>(x=none\/x=H q)/\Kk H r
theorem rV {H H':Id->Option AO}{L:Nat->AV}:∀{l:List (Nat×AV)} {i:Nat} {v:AV},Gm H H' L l->(i,v)∈l->v=L i\/∃c t,L i= .r (.c c)/\v= .r (.c (.t t))/\cv H c t/\∀q∈c.ids,H' q=none
 | [],_,_,_,h=>by cases h
 |(j,u)::r,i,v,h,hm=>by
  rcases d6.1 hm with e|hm
  ·injection e with e1 e2;subst e1;subst e2;exact h.1
  ·exact rV h.2 hm
theorem Ck {H:Id->Option AO}:∀{l:List (Id×Option AO)} {q:Id} {x:AO},Kk H l->(q,some x)∈l->H q=some x
 | [],_,_,_,h=>by cases h
 |(p,u)::r,q,x,h,hm=>by
  rcases d6.1 hm with e|hm
  ·injection e with e1 e2;subst e1;subst e2;rcases h.1 with e|e
   ·cases e
   ·exact e.symm
  ·exact Ck h.2 hm
theorem nU (Mx:St)(h1:Gm (cj st.h) (cj Mx.h) (di st.fr) Mx.fr)(h2:Kk (cj st.h) Mx.h)(hu:Mx.u=st.u)(h:Wo m P Γ N c K Mx):Wo m P Γ N c K st:=by
 rw[kE]at *
 intro hΓ aG B M w0 ρ a w Q hM hF hc hQ;refine h hΓ aG B M w0 ρ a w Q hM hF ?_ hQ;have M0:∀q x,Mx.fs.H q=some x->st.fs.H q=some x:=fun q x hq=>Ck h2 (kR hq);have MA:∀b,okB ρ st.fs.H w b->okB ρ Mx.fs.H w b:=fun b hb=>⟨hb.1,fun o x ho=>hb.2 o x (M0 o x ho)⟩
 have PA:∀t o,o∈(Mx.fs.L t).ids->o∈(st.fs.L t).ids:=fun t o ho=>by
  rcases iH Mx.fr t with e|hm
  ·rw[show Mx.fs.L t=AV.unk from e]at ho;simp[AV.ids]at ho
  ·rcases rV h1 hm with e|⟨cc,tt,_,e2,_,_⟩
   ·exact(show Mx.fs.L t=st.fs.L t from e)▸ho
   ·rw[show Mx.fs.L t=_ from e2]at ho;simp[AV.ids,AR.ids,AC.ids]at ho
 refine⟨hc.size,hc.defers,fun t=>?_,fun o x ho=>?_,fun o o' x x' b ho MV=>hc.sep o o' x x' b (M0 o x ho) (M0 o' x' MV),fun o x b ho hb=>hc.rng o x b (M0 o x ho) hb,hc.keep,hc.base,hc.alw,hc.cst,fun o v hv=>⟨(hc.Mp o v hv).1,by have:=(hc.Mp o v hv).2;simpa [St.fs,hu]using this⟩,fun t o ho=>by have:=hc.usedL t o (PA t o ho);simpa [St.fs,hu]using this,fun o x ho=>by have:=hc.usedH o x (M0 o x ho);simpa [St.fs,hu]using this⟩
 ·rcases iH Mx.fr t with e|hm
  ·rw[show Mx.fs.L t=AV.unk from e];trivial
  ·rcases rV h1 hm with e|⟨cc,tt,e1,e2,e3,e4⟩
   ·rw[show Mx.fs.L t=st.fs.L t from e];exact(hc.slot t).keep (fun b hb=>⟨rfl,MA b hb⟩) fun _ _=>rfl
   ·rw[show Mx.fs.L t=_ from e2];have hs:=hc.slot t;rw[show st.fs.L t=_ from e1]at hs;refine jm hc MA (fun q hq x b hx hb=>?_) hs e3;have hr:=hc.rng q x b hx hb
    exact⟨⟨hr.1,hc.alw b hr.2⟩,fun o y ho Nd=>by
     have ME:o≠q:=fun e=>by
      subst e;have:=e4 o hq;rw[show cj Mx.h o=some y from ho]at this
      cases this
     exact hc.sep o q y x b (M0 o y ho) hx ME Nd hb⟩
 ·exact(hc.obj o x (M0 o x ho)).keep (fun b hb=>⟨rfl,MA b hb⟩) (fun _ _=>rfl) rfl (fun _ h=>h) fun _ _=>rfl
end
theorem bv {P:Program}{Γ:Env}{f:FuncId}{fn:Func}{c:Code}{ts:List TV}{r:Res}(hΓ:Γ.chk P=true)(aG:P.follows .mixedOrders=true)(hf:P.funcs[f]?=some fn)(hb:fn.body=some c)(hn:(fn.name== "runtime.NumGoroutine")=false)
  (hN:Nat.ble ts.length fn.ntmps=true) (h:Wo true P Γ fn.ntmps c (JT Γ fn.results.toList r) (st0 ts)):Spec P f ts r:=by
 rw[kE]at h;refine⟨nB hf hb hn,fun w vs Pg=>calls_of_wp hf hb ?_⟩;have hc:=wz (N:=fn.ntmps) Pg (D8 hN);refine h hΓ aG _ _ _ _ _ _ _ (fun _=>⟨fun _ h=>h,fun _=>rfl⟩) (fun _ _ h=>by cases h) hc fun e Mx ρ' a' w' hK MB=>?_;exact V12
theorem az {P:Program}{Γ:Env}{f:FuncId}{fn:Func}{c:Code}{xs:List AV}{h0:List (Id×AO)}{r:AV}{h1:List (Id×AO)}(hΓ:Γ.chk P=true)(aG:P.follows .mixedOrders=true)(hf:P.funcs[f]?=some fn)(hb:fn.body=some c)(hn:(fn.name== "runtime.NumGoroutine")=false)
  (hN:Nat.ble xs.length fn.ntmps=true) (Nb:rd xs h0 .unk []=true) (h:Wo false P Γ fn.ntmps c (Kd Γ fn.results.toList r h1) (stG xs h0)):bA P f xs h0 r h1:=by
 rw[kE]at h;refine⟨nB hf hb hn,fun w vs ρ Pg hl M4=>calls_of_wp hf hb ?_⟩;have hc:=sF (N:=fn.ntmps) Nb Pg hl M4 (D8 hN)
 have hF:∀o v,(if(lkH h0 o).isSome=true then some (ρ o)else none)=some v->o.1=0:=fun o v hv=>by
  exact V54
 refine h hΓ aG _ _ _ _ _ _ _ s_ hF hc fun e Mx ρ' a' w' hK MB=>?_;exact V5
def vwC (H H':Id->Option AO)(c d:AC):Prop:=d=c\/(∃n m,c= .nils n/\d= .nils m)\/∃t,d= .t t/\cv H c t/\∀q∈c.ids,H' q=none
def FH (H H':Id->Option AO):List AC->List AC->Prop
 | [],[]=>True
 | c::cs,d::ds=>vwC H H' c d/\FH H H' cs ds
 | _,_=>False
def KS (H H':Id->Option AO)(L:Nat->AV):List (Nat×AV)->Prop
 | []=>True
 |(i,v)::r=>(v=L i\/(∃c d,L i= .r (.c c)/\v= .r (.c d)/\vwC H H' c d)\/∃cs ds,L i= .r (.agg cs)/\v= .r (.agg ds)/\FH H H' cs ds)/\KS H H' L r
def vwO (H H':Id->Option AO)(y x:Option AO):Prop:=x=y\/(∃cs ds,y=some (.box cs)/\x=some (.box ds)/\FH H H' cs ds)\/
 ∃sz rows i off n row t,y=some (.dar sz rows (some (i,off,n)))/\rows[i]?=some row/\off<sz/\cv H (.own n) t/\H' n=none/\x=some (.dar sz (rows.set i (row.set off (.t t))) none)
def vwH (H H':Id->Option AO):List (Id×Option AO)->Prop
 | []=>True
 |(q,x)::r=>(x=none\/vwO H H' (H q) x)/\vwH H H' r
theorem wn {H H':Id->Option AO}{L:Nat->AV}:∀{l:List (Nat×AV)} {i:Nat} {v:AV},KS H H' L l->(i,v)∈l->(v=L i\/(∃c d,L i= .r (.c c)/\v= .r (.c d)/\vwC H H' c d)\/∃cs ds,L i= .r (.agg cs)/\v= .r (.agg ds)/\FH H H' cs ds)
 | [],_,_,_,h=>by cases h
 |(j,u)::r,i,v,h,hm=>by
  rcases d6.1 hm with e|hm
  ·injection e with e1 e2;subst e1;subst e2;exact h.1
  ·exact wn h.2 hm
theorem DU {H H':Id->Option AO}:∀{l:List (Id×Option AO)} {q:Id} {x:AO},vwH H H' l->(q,some x)∈l->vwO H H' (H q) (some x)
 | [],_,_,_,h=>by cases h
 |(p,u)::r,q,x,h,hm=>by
  rcases d6.1 hm with e|hm
  ·injection e with e1 e2;subst e1;subst e2;rcases h.1 with e|e
   ·cases e
   ·exact e
  ·exact DU h.2 hm
theorem EK {H H':Id->Option AO}{c d:AC}(h:vwC H H' c d):∀o∈d.ids,o∈c.ids:=by
 rcases h with rfl|⟨n,m,rfl,rfl⟩|⟨t,rfl,_⟩
 ·exact fun _ h=>h
 ·intro o ho;simp[AC.ids]at ho
 ·intro o ho;simp[AC.ids]at ho
theorem vi {H H':Id->Option AO}:∀{cs ds:List AC},FH H H' cs ds->∀o∈ds.flatMap AC.ids,o∈cs.flatMap AC.ids
 | [],[],_,_,h=>h
 | c::cs,d::ds,h,o,ho=>by
  simp only[u7,d9]at ho⊢
  exact ho.imp (EK h.1 o) (vi h.2 o)
 | [],_::_,h,_,_=>h.elim
 | _::_,[],h,_,_=>h.elim
section
variable {P:Program} {Γ:Env} {N:Nat} {m:Bool} {K:Out->St->Prop} {st Mx:St} {c x y:Code}
theorem At (Mx:St)(h1:Lo m st Mx)(h:Wo m P Γ N c K Mx):Wo m P Γ N c K st:=by
 rw[kE]at *
 rw[EE]at h1;intro hΓ aG B M w0 ρ a w Q hM hF hc hQ;obtain⟨ρ',MB⟩:=h1.ok hM hF hc;exact h hΓ aG B M w0 ρ' a w Q hM hF MB hQ
theorem fM (Mx:St)(h1:KS (cj st.h) (cj Mx.h) (di st.fr) Mx.fr)(h2:vwH (cj st.h) (cj Mx.h) Mx.h)(hu:Mx.u=st.u)(h:Wo m P Γ N c K Mx):Wo m P Γ N c K st:=by
 rw[kE]at *
 intro hΓ aG B M w0 ρ a w Q hM hF hc hQ;refine h hΓ aG B M w0 ρ a w Q hM hF ?_ hQ;have hO:∀q x,Mx.fs.H q=some x->vwO (cj st.h) (cj Mx.h) (cj st.h q) (some x):=fun q x hq=>DU h2 (kR hq)
 have M0:∀q x,Mx.fs.H q=some x->∃y,st.fs.H q=some y:=fun q x hq=>by
  rcases hO q x hq with e|⟨cs,ds,e,_⟩|⟨_,_,_,_,_,_,_,e,_⟩
  ·exact⟨x,e.symm⟩
  ·exact⟨_,e⟩
  ·exact⟨_,e⟩
 have MA:∀b,okB ρ st.fs.H w b->okB ρ Mx.fs.H w b:=fun b hb=>⟨hb.1,fun o x ho=>by obtain⟨y,hy⟩:=M0 o x ho;exact hb.2 o y hy⟩
 have R6:∀q,cj Mx.h q=none->∀x b,st.fs.H q=some x->Own ρ q b->okB ρ Mx.fs.H w b:=by
  intro q hq x b hx hb;have hr:=hc.rng q x b hx hb;refine⟨⟨hr.1,hc.alw b hr.2⟩,fun o y ho Nd=>?_⟩
  have ME:o≠q:=fun e=>by
   subst e;rw[show Mx.fs.H o=none from hq]at ho
   cases ho
  obtain⟨y',OL⟩:=M0 o y ho;exact hc.sep o q y' x b OL hx ME Nd hb
 have MH:∀{v:Value} {c d:AC},RC B ρ w (okB ρ st.fs.H w) v c->vwC (cj st.h) (cj Mx.h) c d->RC B ρ w (okB ρ Mx.fs.H w) v d:=by
  intro v c d hv Wf;rcases Wf with rfl|⟨n,m,rfl,rfl⟩|⟨t,rfl,e3,e4⟩
  ·exact hv.keep (fun b hb=>⟨rfl,MA b hb⟩) fun _ _=>rfl
  ·exact hv
  ·exact jm hc MA (fun q hq x b hx hb=>R6 q (e4 q hq) x b hx hb) hv e3
 have MJ:∀{vs:List Value} {cs ds:List AC},RCs B ρ w (okB ρ st.fs.H w) vs cs->FH (cj st.h) (cj Mx.h) cs ds->RCs B ρ w (okB ρ Mx.fs.H w) vs ds:=by
  intro vs
  induction vs with
  | nil=>
   intro cs ds h1 h2
   cases cs with
   | nil=>cases ds with
    | nil=>trivial
    | cons=>exact h2.elim
   | cons=>exact h1.elim
  | cons v vs ih=>
   intro cs ds h1 h2
   cases cs with
   | nil=>exact h1.elim
   | cons c cs=>cases ds with
    | nil=>exact h2.elim
    | cons d ds=>exact⟨MH h1.1 h2.1,ih h1.2 h2.2⟩
 have PA:∀t o,o∈(Mx.fs.L t).ids->o∈(st.fs.L t).ids:=fun t o ho=>by
  rcases iH Mx.fr t with e|hm
  ·rw[show Mx.fs.L t=AV.unk from e]at ho;simp[AV.ids]at ho
  ·rcases wn h1 hm with e|⟨c,d,e1,e2,e3⟩|⟨cs,ds,e1,e2,e3⟩
   ·exact(show Mx.fs.L t=st.fs.L t from e)▸ho
   ·rw[show Mx.fs.L t=_ from e2]at ho;rw[show st.fs.L t=_ from e1];exact EK e3 o ho
   ·rw[show Mx.fs.L t=_ from e2]at ho;rw[show st.fs.L t=_ from e1];exact vi e3 o ho
 refine⟨hc.size,hc.defers,fun t=>?_,fun o x ho=>?_,fun o o' x x' b ho MV=>by obtain⟨y,hy⟩:=M0 o x ho;obtain⟨y',OL⟩:=M0 o' x' MV;exact hc.sep o o' y y' b hy OL,fun o x b ho hb=>by obtain⟨y,hy⟩:=M0 o x ho;exact hc.rng o y b hy hb,hc.keep,hc.base,hc.alw,hc.cst,fun o v hv=>⟨(hc.Mp o v hv).1,by have:=(hc.Mp o v hv).2;simpa [St.fs,hu]using this⟩,fun t o ho=>by have:=hc.usedL t o (PA t o ho);simpa [St.fs,hu]using this,fun o x ho=>?_⟩
 ·rcases iH Mx.fr t with e|hm
  ·rw[show Mx.fs.L t=AV.unk from e];trivial
  ·rcases wn h1 hm with e|⟨c,d,e1,e2,e3⟩|⟨cs,ds,e1,e2,e3⟩
   ·rw[show Mx.fs.L t=st.fs.L t from e];exact(hc.slot t).keep (fun b hb=>⟨rfl,MA b hb⟩) fun _ _=>rfl
   ·rw[show Mx.fs.L t=_ from e2];have hs:=hc.slot t;rw[show st.fs.L t=_ from e1]at hs;exact MH hs e3
   ·rw[show Mx.fs.L t=_ from e2];have hs:=hc.slot t;rw[show st.fs.L t=_ from e1]at hs;obtain⟨us,hv,hs⟩:=hs;exact⟨us,hv,MJ hs e3⟩
 ·rcases hO o x ho with e|⟨cs,ds,e1,e2,e3⟩|⟨sz,rows,i,off,n,row,t,e1,e2,e3,e4,e5,e6⟩
  ·exact(hc.obj o x e.symm).keep (fun b hb=>⟨rfl,MA b hb⟩) (fun _ _=>rfl) rfl (fun _ h=>h) fun _ _=>rfl
  ·injection e2 with e2;subst e2;obtain⟨b,cur,t,fz,g1,g2,g3,g4⟩:=hc.obj o _ e1;exact⟨b,cur,t,fz,g1,g2,g3,MJ g4 e3⟩
  ·injection e6 with e6;subst e6;obtain⟨M8,g⟩:=hc.obj o _ e1
   have MI:∀r∈rows.set i (row.set off (DC.t t)),r.length=sz:=fun r hr=>by
    rcases u6 hr with h'|h'
    ·exact M8 r h'
    ·rw[h',q7];exact M8 row (c9 e2)
   refine⟨MI,?_⟩;rcases g with⟨_,_,g⟩|⟨b,cap,cur,e,fz,Fp,g1,g2,g3,g4,g5,g6,g7,g8,g9⟩
   ·cases g
   ·refine .inr ⟨b,cap,cur,e,fz,Fp,by rw[q7];exact g1,g2,g3,by rw[q7];exact g4,g5,g6,g7,g8,?_⟩
    have MM:=jN (off:=off) (row:=row) (row':=row.set off (DC.t t)) (ts:=[DC.t t]) (sz:=sz) (by have:=M8 row (c9 e2);simp;omega) (by
     rw[List.set_eq_take_append_cons_drop,c7 (by have:=M8 row (c9 e2);omega)];simp) rows i M8 e2
    have hi:i<rows.length:=by
     rcases m7 i rows.length with h'|h'
     ·exact h'
     ·rw[e9 h']at e2;cases e2
    have R8:=aR sz rows M8;have MY:(i+1)*sz<=rows.length*sz:=l9 _ hi;have hm:(i+1)*sz=i*sz+sz:=(by rw[p8];omega);have Mv:i*sz+off+[DC.t t].length<=rows.flatten.length:=(by rw[R8];simp;omega);refine⟨?_,fun p v d hv hd=>?_⟩
    ·rw[q7,MM];have:=g9.1;simp only[c8,l6,t9]at this⊢;omega
    ·rw[q7]at hv;simp only[cq];rw[MM,va Mv]at hd;have h9:=g9.2 p v;by_cases q1:p=i*sz+off
     ·rw[b8 o_,c7 aab]at hd;have q2:p-(i*sz+off)=0:=o_;rw[q2,e8]at hd;injection hd with hd;subst hd;obtain⟨d0,QG⟩:∃d0,rows.flatten[p]?=some d0:=⟨_,i7 (by rw[q1];simp at Mv;omega)⟩;have:=h9 d0 hv QG;simp only[cq,c7 q1]at this;rw[this.1]
      have N8:∃A n' c',ρ n= .slice A n' c':=by
       simp only[cv]at e4;split at e4
       ·rename_i fr MR rows' hq;obtain⟨_,g⟩:=hc.obj n _ hq;rcases g with⟨g,_⟩|⟨_,_,_,_,_,g,_⟩
        ·exact⟨_,_,_,g⟩
        ·exact⟨_,_,_,g⟩
       ·rename_i MR rows' hq;obtain⟨_,g⟩:=hc.obj n _ hq;rcases g with⟨g,_⟩|⟨_,_,_,_,_,_,g,_⟩
        ·exact⟨_,_,_,g⟩
        ·exact⟨_,_,_,g⟩
       ·exact e4.elim
      exact jm (c:= .own n) (v:=ρ n) hc MA (fun q hq x b hx hb=>by
       simp only[AC.ids,d6,l4,or_false]at hq;subst hq
       exact R6 _ e5 x b hx hb) ⟨N8,rfl⟩ e4
     ·have NU:rows.flatten[p]?=some d:=by
       split at hd
       ·exact hd
       ·rw[b8 aab]at hd;exact hd
      have:=h9 d hv NU;simp only[cq,b8 q1]at this;exact RD.keep this (fun b hb=>⟨rfl,MA b hb⟩) fun _ h=>⟨rfl,h⟩
 ·rcases hO o x ho with e|⟨cs,ds,e1,e2,e3⟩|⟨sz,rows,i,off,n,row,t,e1,e2,e3,e4,e5,e6⟩
  ·have:=hc.usedH o x e.symm;simpa [St.fs,hu]using this
  ·injection e2 with e2;subst e2;obtain⟨k1,k2⟩:=hc.usedH o _ e1;refine⟨by simpa [St.fs,hu]using k1,fun o' MV=>?_⟩;have:=k2 o' (vi e3 o' MV);simpa [St.fs,hu]using this
  ·injection e6 with e6;subst e6;obtain⟨k1,k2⟩:=hc.usedH o _ e1;exact⟨by simpa [St.fs,hu]using k1,fun o' MV=>by simp[AO.ids]at MV⟩
def gvR:List (List DC)->List (List DC)->Prop
 | [],[]=>True
 | r::rs,t::ts=>(r.length=t.length/\∀(p:Nat) (c d:DC),r[p]?=some c->t[p]?=some d->d=c\/d=DC.t c.tr\/∃a b,c.tr= .lst a []/\d=DC.t (.lst b []))/\gvR rs ts
 | _,_=>False
theorem nr:∀{rs ts:List (List DC)},gvR rs ts->rs.length=ts.length
 | [],[],_=>rfl
 | _::_,_::_,h=>by rw[d5,d5,nr h.2]
 | [],_::_,h=>h.elim
 | _::_,[],h=>h.elim
theorem Bp {sz:Nat}:∀{rs ts:List (List DC)},gvR rs ts->(∀r∈rs,r.length=sz)->∀r∈ts,r.length=sz
 | [],[],_,_,_,h=>by cases h
 | r::rs,t::ts,h,hu,x,hx=>by
  rcases d6.1 hx with rfl|hx
  ·rw[<-h.1.1];exact hu r s_
  ·exact Bp h.2 (fun r hr=>hu r aay) x hx
 | [],_::_,h,_,_,_=>h.elim
 | _::_,[],h,_,_,_=>h.elim
theorem V30{p:Prop}(h:p:=by
 refine⟨by simp only[r8,c8,h.1.1,h1],fun p c d hc hd=>?_⟩;rw[r8,G2]at hc hd;rw[h.1.1]at hc;split at hc
 ·rename_i hp;rw[c7 hp]at hd;exact h.1.2 p c d hc hd
 ·rename_i hp;rw[b8 hp]at hd;exact h2 _ c d hc hd):p:=h
theorem BU:∀{rs ts:List (List DC)},gvR rs ts->rs.flatten.length=ts.flatten.length/\∀(p:Nat) (c d:DC),rs.flatten[p]?=some c->ts.flatten[p]?=some d->d=c\/d=DC.t c.tr\/∃a b,c.tr= .lst a []/\d=DC.t (.lst b [])
 | [],[],_=>⟨rfl,fun p c d h=>by simp at h⟩
 | r::rs,t::ts,h=>by
  obtain⟨h1,h2⟩:=BU h.2
  exact V30
 | [],_::_,h=>h.elim
 | _::_,[],h=>h.elim
theorem RT.empty {w:World}{ok:Nat->Prop}{v:Value}{a b:Nat}(h:RT w ok v (.lst a [])):RT w ok v (.lst b []):=by
 cases h with
 | emp A c sz hc=>exact .emp _ _ _ hc
 | lst ad n c sz rows us hn hc hm hu MA hl MH Ns=>
  have:n=0:=by simpa using hn.symm
  subst this;exact .emp _ _ _ hm
theorem V61{p:Prop}(h:p:=by
 have:p<rows'.flatten.length:=by
  rcases m7 p rows'.flatten.length with h'|h'
  ·exact h'
  ·rw[e9 h']at hd;cases hd
 exact⟨_,i7 o_⟩):p:=h
theorem FO (o:Id){sz:Nat}{rows rows':List (List DC)}(ho:cj st.h o=some (.dar sz rows none))(hg:gvR rows rows')(h:Wo m P Γ N c K ⟨st.fr,(o,some (.dar sz rows' none))::st.h,st.u⟩):Wo m P Γ N c K st:=by
 rw[kE]at *
 intro hΓ aG B M w0 ρ a w Q hM hF hc hQ
 have ME:∀q,q≠o->cj ((o,some (AO.dar sz rows' none))::st.h) q=cj st.h q:=fun q hq=>by
  have:fu q o=false:=by cases hb:fu q o with|false=>rfl|true=>exact absurd (idEq_iff.1 hb) hq
  simp[cj,this]
 have PK:cj ((o,some (AO.dar sz rows' none))::st.h) o=some (.dar sz rows' none):=by have:fu o o=true:=idEq_iff.2 rfl;simp[cj,this]
 obtain⟨hu,g⟩:=hc.obj o _ ho
 have key:∃ρ':Rho,ρ'.val=ρ.val/\ρ'.al=ρ.al/\(∀q,q≠o->∀b,ρ'.fp q b↔ρ.fp q b)/\(∀b,ρ'.fp o b->ρ.fp o b)/\∀ok':Nat->Prop,(∀b,okB ρ st.fs.H w b->ok' b)->(∀b,ρ.fp o b->blk (ρ o)≠some b->¬ρ'.fp o b->ok' b)->RO B ρ' w ok' o (.dar sz rows' none):=by
  rcases g with⟨g1,g2,g3⟩|⟨b,cap,cur,e,fz,Fp,g1,g2,g3,g4,g5,g6,g7,g8,g9⟩
  ·subst g2
   have:rows'=[]:=by have:=nr hg;exact A3.1 this.symm
   subst this;exact⟨ρ,rfl,rfl,fun _ _ _=>Iff.rfl,fun _ h=>h,fun ok' _ _=>⟨fun r hr=>by simp at hr,.inl ⟨g1,rfl,rfl⟩⟩⟩
  ·obtain⟨f1,f2⟩:=BU hg
   refine⟨⟨ρ.val,fun q c=>if q=o then(∃p x,rows'.flatten[p]?=some (.d x)/\Fp p c)else ρ.fp q c,ρ.al⟩,rfl,rfl,fun q hq b=>by simp only[b8 hq],fun c N0=>by
    simp only[if_true]at N0;obtain⟨p,_,_,hp⟩:=N0
    exact(g7 p c hp).1,fun ok' hk MN=>⟨Bp hg hu,.inr ⟨b,cap,cur,e,fz,fun p c=>(∃x,rows'.flatten[p]?=some (.d x))/\Fp p c,by rw[<-nr hg];exact g1,g2,g3,by rw[<-nr hg];exact g4,g5,g6,fun p c MZ=>?_,fun p q c Rb h1 h2=>g8 p q c Rb h1.2 h2.2,?_,fun p v d hv hd=>?_⟩⟩⟩
   ·refine⟨?_,(g7 p c MZ.2).2⟩;simp only[if_true];obtain⟨⟨x,hx⟩,h2⟩:=MZ;exact⟨p,x,hx,h2⟩
   ·rw[<-f1,<-nr hg];exact g9.1
   ·rw[<-nr hg]at hv;simp only[cq]
    obtain⟨c0,OP⟩:∃c0,rows.flatten[p]?=some c0:=by exact V61
    have:=g9.2 p v c0 hv OP;simp only[cq]at this
    have Pm:(∀x,c0= .d x->d≠.d x)->RT w ok' v c0.tr:=by
     intro ME
     cases c0 with
     | t x=>exact RT.keep this fun b' MK=>⟨rfl,hk b' MK⟩
     | d x=>
      refine DT.toRT this fun b' MK=>MN b' (g7 p b' MK).1 (fun Oa=>?_) fun hf=>?_
      ·rw[g1]at Oa;injection Oa with Oa;exact(g7 p b' MK).2 Oa.symm
      ·simp only[if_true]at hf;obtain⟨q,y,hq,QJ⟩:=hf;by_cases Rb:p=q
       ·subst Rb;rw[hd]at hq;injection hq with hq;subst hq;rcases f2 p _ _ OP hd with e|e|⟨_,_,_,e⟩
        ·exact ME x rfl e
        ·cases e
        ·cases e
       ·exact g8 p q b' Rb MK QJ
    rcases f2 p c0 d OP hd with rfl|rfl|⟨a1,b1,ea,rfl⟩
    ·cases d with
     | t x=>exact RT.keep this fun b' MK=>⟨rfl,hk b' MK⟩
     | d x=>exact DT.keep this fun b' MK=>⟨rfl,⟨x,hd⟩,MK⟩
    ·exact Pm fun x _ e=>by cases e
    ·have:=Pm fun x _ e=>by cases e
     rw[ea]at this;exact RT.empty this
 obtain⟨ρ',r1,r2,r3,r4,r5⟩:=key;have hv:∀q,ρ' q=ρ q:=fun q=>by show ρ'.val q=ρ.val q;rw[r1]
 have MO:∀q b,Own ρ' q b->Own ρ q b:=fun q b hb=>by
  rcases hb with hb|hb
  ·exact .inl (by rw[<-hv q];exact hb)
  ·by_cases hq:q=o
   ·subst hq;exact .inr (r4 b hb)
   ·exact .inr ((r3 q hq b).1 hb)
 refine h hΓ aG B M w0 ρ' a w Q hM hF ?_ hQ
 have M0:∀q x,cj ((o,some (AO.dar sz rows' none))::st.h) q=some x->∃y,cj st.h q=some y:=fun q x hx=>by
  by_cases hq:q=o
  ·subst hq;exact⟨_,ho⟩
  ·rw[ME q hq]at hx;exact⟨x,hx⟩
 have MA:∀b,okB ρ st.fs.H w b->okB ρ' (cj ((o,some (AO.dar sz rows' none))::st.h)) w b:=fun b hb=>⟨⟨hb.1.1,by rw[r2];exact hb.1.2⟩,fun q x hx Nd=>by obtain⟨y,hy⟩:=M0 q x hx;exact hb.2 q y hy (MO q b Nd)⟩
 refine⟨hc.size,hc.defers,fun t=>(hc.slot t).keep (fun b hb=>⟨rfl,MA b hb⟩) fun q _=>hv q,fun q x hx=>?_,fun q q' x x' b hx Ot Zx hb MK=>by
   obtain⟨y,hy⟩:=M0 q x hx;obtain⟨y',OL⟩:=M0 q' x' Ot
   exact hc.sep q q' y y' b hy OL Zx (MO q b hb) (MO q' b MK),fun q x b hx hb=>by obtain⟨y,hy⟩:=M0 q x hx;exact hc.rng q y b hy (MO q b hb),hc.keep,hc.base,fun b hb=>by rw[r2];exact hc.alw b hb,by rw[r2];exact hc.cst,fun q v hq=>⟨by rw[hv];exact(hc.Mp q v hq).1,(hc.Mp q v hq).2⟩,hc.usedL,fun q x hx=>?_⟩
 ·by_cases hq:q=o
  ·subst hq;have Ot:=hx;rw[show(St.fs ⟨st.fr,(q,some (AO.dar sz rows' none))::st.h,st.u⟩).H q=cj ((q,some (AO.dar sz rows' none))::st.h) q from rfl,PK]at Ot;injection Ot with Ot;subst Ot;refine r5 _ MA fun b hb Oa YQ=>⟨⟨(hc.rng q _ b ho (.inr hb)).1,by rw[r2];exact hc.alw b (hc.rng q _ b ho (.inr hb)).2⟩,fun q' x' WY Nd=>?_⟩;by_cases MG:q'=q
   ·subst MG;rcases Nd with Nd|Nd
    ·exact Oa (by rw[<-hv q'];exact Nd)
    ·exact YQ Nd
   ·obtain⟨y',OL⟩:=M0 q' x' WY;exact hc.sep q' q y' _ b OL ho MG (MO q' b Nd) (.inr hb)
  ·have Ot:cj st.h q=some x:=(by rw[<-ME q hq];exact hx);exact(hc.obj q x Ot).keep (fun b hb=>⟨rfl,MA b hb⟩) (fun _ _=>hv _) (hv q) (fun b hb=>(r3 q hq b).2 hb) fun _ _=>rfl
 ·by_cases hq:q=o
  ·subst hq;have Ot:=hx;rw[show(St.fs ⟨st.fr,(q,some (AO.dar sz rows' none))::st.h,st.u⟩).H q=cj ((q,some (AO.dar sz rows' none))::st.h) q from rfl,PK]at Ot;injection Ot with Ot;subst Ot;exact⟨(hc.usedH q _ ho).1,fun o' MV=>by simp[AO.ids]at MV⟩
  ·have Ot:cj st.h q=some x:=(by rw[<-ME q hq];exact hx);exact hc.usedH q x Ot
end
def emE (c d:Tr):Prop:=d=c\/∃a b,c= .lst a []/\d= .lst b []
def emR:List (List Tr)->List (List Tr)->Prop
 | [],[]=>True
 | r::rs,t::ts=>(r.length=t.length/\∀(p:Nat) (c d:Tr),r[p]?=some c->t[p]?=some d->emE c d)/\emR rs ts
 | _,_=>False
theorem zE:∀{rs ts:List (List Tr)},emR rs ts->rs.length=ts.length
 | [],[],_=>rfl
 | _::_,_::_,h=>by rw[d5,d5,zE h.2]
 | [],_::_,h=>h.elim
 | _::_,[],h=>h.elim
theorem Cj {sz:Nat}:∀{rs ts:List (List Tr)},emR rs ts->(∀r∈rs,r.length=sz)->∀r∈ts,r.length=sz
 | [],[],_,_,_,h=>by cases h
 | r::rs,t::ts,h,hu,x,hx=>by
  rcases d6.1 hx with rfl|hx
  ·rw[<-h.1.1];exact hu r s_
  ·exact Cj h.2 (fun r hr=>hu r aay) x hx
 | [],_::_,h,_,_,_=>h.elim
 | _::_,[],h,_,_,_=>h.elim
theorem Bj:∀{rs ts:List (List Tr)},emR rs ts->rs.flatten.length=ts.flatten.length/\∀(p:Nat) (c d:Tr),rs.flatten[p]?=some c->ts.flatten[p]?=some d->emE c d
 | [],[],_=>⟨rfl,fun p c d h=>by simp at h⟩
 | r::rs,t::ts,h=>by
  obtain⟨h1,h2⟩:=Bj h.2
  exact V30
 | [],_::_,h=>h.elim
 | _::_,[],h=>h.elim
theorem RT.rows {w:World}{ok:Nat->Prop}{v:Value}{sz:Nat}{rows rows':List (List Tr)}(h:RT w ok v (.lst sz rows))(hg:emR rows rows'):RT w ok v (.lst sz rows'):=by
 cases h with
 | emp A c sz hc=>
  have:rows'=[]:=A3.1 (zE hg).symm;subst this
  exact .emp _ _ _ hc
 | lst ad n c sz rows us hn hc hm hu MA hl MH Ns=>
  obtain⟨f1,f2⟩:=Bj hg;refine .lst ad n c sz rows' us ((zE hg).symm.trans hn) hc hm (Cj hg hu) MA (hl.trans f1) MH fun p v d hv hd=>?_
  obtain⟨c0,OP⟩:∃c0,rows.flatten[p]?=some c0:=by exact V61
  have:=Ns p v c0 hv OP;rcases f2 p c0 d OP hd with rfl|⟨a,b,rfl,rfl⟩
  ·exact this
  ·exact RT.empty this
section
variable {P:Program} {Γ:Env} {N:Nat} {m:Bool} {K:Out->St->Prop} {st:St} {c:Code}
theorem sr (i:Nat){sz:Nat}{rows rows':List (List Tr)}(hi:di st.fr i= .r (.c (.t (.lst sz rows))))(hg:emR rows rows')(h:Wo m P Γ N c K ⟨(i,.r (.c (.t (.lst sz rows'))))::st.fr,st.h,st.u⟩):Wo m P Γ N c K st:=by
 rw[kE]at *
 intro hΓ aG B M w0 ρ a w Q hM hF hc hQ;refine h hΓ aG B M w0 ρ a w Q hM hF ?_ hQ
 have PV:∀t,t≠i->di ((i,AV.r (.c (.t (.lst sz rows'))))::st.fr) t=di st.fr t:=fun t ht=>by
  have:Nat.beq t i=false:=by cases hb:Nat.beq t i with|false=>rfl|true=>exact absurd (r9 hb) ht
  simp[di,this]
 have SZ:di ((i,AV.r (.c (.t (.lst sz rows'))))::st.fr) i= .r (.c (.t (.lst sz rows'))):=by simp[di]
 refine⟨hc.size,hc.defers,fun t=>?_,hc.obj,hc.sep,hc.rng,hc.keep,hc.base,hc.alw,hc.cst,hc.Mp,fun t o ho=>?_,hc.usedH⟩
 ·by_cases ht:t=i
  ·subst ht;have hs:=hc.slot t;rw[show st.fs.L t=_ from hi]at hs;show RV _ _ _ _ _ (di _ t);rw[SZ];exact RT.rows hs hg
  ·show RV _ _ _ _ _ (di _ t);rw[PV t ht];exact hc.slot t
 ·have ho:o∈(di ((i,AV.r (.c (.t (.lst sz rows'))))::st.fr) t).ids:=ho;by_cases ht:t=i
  ·subst ht;rw[SZ]at ho;simp[AV.ids,AR.ids,AC.ids]at ho
  ·rw[PV t ht]at ho;exact hc.usedL t o ho
end
end Go.Sim
