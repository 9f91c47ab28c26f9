import Derived.Test.YtoglejgmjeojoaaGreatGc
namespace Go.Sim
open Go.RowKit
abbrev Ren:=List (Id×Option (Id×Option Nat))
def iC:Ren->Id->Option (Option (Id×Option Nat))
 | [],_=>none
 |(i,x)::r,o=>bif fQ o i then some x else iC r o
def KB:Option (Id×Option Nat)->Option (Id×Option Nat)->Prop
 | none,none=>True
 | some (a,none),some (b,none)=>fQ a b=true
 | some (a,some k),some (b,some k')=>fQ a b=true/\k=k'
 | _,_=>False
def tie (r:Ren)(o:Id)(x:Option (Id×Option Nat))(K:Ren->Prop):Prop:=
 match iC r o with|some y=>KB y x/\K r|none=>K ((o,x)::r)
def leC (r:Ren):AC->AC->(Ren->Prop)->Prop
 | .t x,.t y,K=>x=y/\K r
 | .f x,.t y,K=>x=y/\K r
 | .f x,.f y,K=>x=y/\K r
 | .nils _,.t y,K=>(∃sz,y= .lst sz [])/\K r
 | .nils _,.f y,K=>(∃sz,y= .lst sz [])/\K r
 | .nils _,.nils _,K=>K r
 | .nils _,.own o',K=>tie r o' none K
 | .nilp,.nilp,K=>K r
 | .own o,.own o',K=>tie r o' (some (o,none)) K
 | .sub o k,.sub o' k',K=>k=k'/\tie r o' (some (o,none)) K
 | .sub o k,.own o',K=>tie r o' (some (o,some k)) K
 | .ptr o n,.ptr o' n',K=>n=n'/\tie r o' (some (o,none)) K
 | .mpv o,.mpv o',K=>tie r o' (some (o,none)) K
 | _,.opq,K=>K r
 | _,_,_=>False
abbrev Kt (r:Ren):List AC->List AC->(Ren->Prop)->Prop
 | [],[],K=>K r
 | x::xs,y::ys,K=>leC r x y fun r=>Kt r xs ys K
 | _,_,_=>False
def leR (r:Ren):AR->AR->(Ren->Prop)->Prop
 | .c x,.c y,K=>leC r x y K
 | .agg xs,.agg ys,K=>Kt r xs ys K
 | _,_,_=>False
abbrev Ni (r:Ren):List AR->List AR->(Ren->Prop)->Prop
 | [],[],K=>K r
 | x::xs,y::ys,K=>leR r x y fun r=>Ni r xs ys K
 | _,_,_=>False
def leV (r:Ren)(x:AV):AV->(Ren->Prop)->Prop
 | .unk,K=>K r
 | .r y,K=>(match x with
   | .r x=>leR r x y K
   | _=>False)
 | .tup ys,K=>(match x with
   | .tup xs=>Ni r xs ys K
   | _=>False)
 | .el o' OD i' Rf,K=>(match x with
   | .el o sz i off=>sz=OD/\i=i'/\off=Rf/\tie r o' (some (o,none)) K
   | _=>False)
 | .ro fr' row' Rf,K=>(match x with
   | .ro fr row off=>fr=fr'/\row=row'/\off=Rf/\K r
   | _=>False)
abbrev MQ (fr:List (Nat×AV)):List (Nat×AV)->Ren->(Ren->Prop)->Prop
 | [],r,K=>K r
 |(t,y)::rest,r,K=>leV r (dS fr t) y fun r=>MQ fr rest r K
def leB (m fr fr':Bool)(rows:List (List Tr)):Prop:=
 match fr' with
 | false=>True
 | true=>(match fr with
   | true=>True
   | false=>m=true/\flat rows)
def leO (m:Bool)(r:Ren)(cutAt:Option Nat):AO->AO->(Ren->Prop)->Prop
 | .arr fr sz rows,.arr fr' OD rows',K=>(match cutAt with
   | none=>sz=OD/\rows=rows'/\leB m fr fr' rows'/\K r
   | some k=>k<=rows.length/\sz=OD/\rows.take k=rows'/\leB m fr fr' rows'/\K r)
 | .box xs,.box ys,K=>(match cutAt with
   | none=>Kt r xs ys K
   | some _=>False)
 | .dar sz rows none,.dar OD rows' none,K=>(match cutAt with
   | none=>sz=OD/\rows=rows'/\K r
   | some k=>k<=rows.length/\sz=OD/\rows.take k=rows'/\K r)
 | .arr _ sz rows,.dar OD rows' none,K=>(match cutAt with
   | none=>sz=OD/\flat rows/\aq rows=rows'/\K r
   | some _=>False)
 | .dar sz rows none,.arr fr' OD rows',K=>(match cutAt with
   | none=>sz=OD/\rows=aq rows'/\(!fr'||m)=true/\K r
   | some _=>False)
 | .mp kk es,.mp XY Pu,K=>(match cutAt with
   | none=>kk=XY/\es=Pu/\K r
   | some _=>False)
 | .dar sz rows (some (i,off,n)),.dar OD rows' (some (i',Rf,n')),K=>(match cutAt with
   | none=>sz=OD/\rows=rows'/\i=i'/\off=Rf/\tie r n' (some (n,none)) K
   | some _=>False)
 | .zar sz rows k,.zar OD rows' k',K=>(match cutAt with
   | none=>sz=OD/\rows=rows'/\k=k'/\K r
   | some _=>False)
 | _,_,_=>False
abbrev leH (m:Bool)(h:List (Id×Option AO)):List (Id×Option AO)->Ren->(Ren->Prop)->Prop
 | [],r,K=>K r
 |(_,none)::rest,r,K=>leH m h rest r K
 |(o',some x)::rest,r,K=>(match iC r o' with
   | some none=>(match x with
    | .arr _ _ rows=>rows=[]/\leH m h rest r K
    | .dar _ rows none=>rows=[]/\leH m h rest r K
    | _=>False)
   | some (some (o,c))=>(match ct h o with
    | some y=>leO m r c y x fun r=>leH m h rest r K
    | none=>False)
   | none=>False)
def xq (o:Id):Ren->Bool
 | []=>false
 |(_,some (o',_))::r=>fQ o o'||xq o r
 |(_,none)::r=>xq o r
def yf:Ren->Bool
 | []=>true
 |(_,some (o,_))::r=>!xq o r&&yf r
 |(_,none)::r=>yf r
def uu (u:List Nat):List Id->Bool
 | []=>true
 | o::l=>used u o.1&&uu u l
def Bo (u:List Nat):List (Nat×AV)->Bool
 | []=>true
 |(_,v)::l=>uu u v.ids&&Bo u l
def usedH (u:List Nat):List (Id×Option AO)->Bool
 | []=>true
 |(o,some x)::l=>used u o.1&&(uu u x.ids&&usedH u l)
 |(_,none)::l=>usedH u l
def pOk (r:Ren):Bool:=r.all fun p=>!(Nat.beq p.1.1 0)||(match p.2 with
 | some (o,none)=>fQ o p.1
 | _=>false)
def GH (m:Bool):List (Id×Option AO)->Ren
 | []=>[]
 |(o,some _)::l=>(match !m&&Nat.beq o.1 0 with
   | true=>(o,some (o,none))::GH m l
   | false=>GH m l)
 |(_,none)::l=>GH m l
def Leq (m:Bool)(st N5:St):Prop:=
 ((Bo N5.u N5.fr&&usedH N5.u N5.h)&&(m||used N5.u 0))=true/\MQ st.fr N5.fr (GH m N5.h) fun r=>leH m st.h N5.h r fun r=>(yf r&&(m||pOk r))=true
def jd:List (Id×Option AO)->List Id->List Id
 | [],_=>[]
 |(o,x)::l,seen=>(match mc o seen with
   | true=>jd l seen
   | false=>(match x with
    | some (.dar _ _ (some _))=>(match Jo o with
      | true=>jd l (o::seen)
      | false=>o::jd l (o::seen))
    | _=>jd l (o::seen)))
abbrev jg:List Id->St->(St->Prop)->Prop
 | [],st,K=>K st
 | o::l,st,K=>sj (ct st.h) (.el o 0 0 0) fun _ us _=>yw us st.h fun h=>jg l ⟨st.fr,h,st.u⟩ K
def LeqG (m:Bool)(st N5:St):Prop:=jg (jd st.h []) st fun st=>Leq m st N5
inductive Out where
 | normal
 | exit (id:Nat)
 | ret
 | pan (v:Value)
def Out.at:Out->Exit
 | .normal=> .normal
 | .exit id=> .exit id
 | .ret=> .ret
 | .pan v=> .panic [{v,recovered:=false}]
def zA (st:St)(c:Operand)(b:Bool):St:=
 match c with|.tmp t=>lit st t b|_=>st
def NP (P:Program)(Γ:Env)(N:Nat)(ops:List Oper)(draw:Bool)(st:St)(K:St->Prop):Prop:=
 match draw with
 | false=>nG P Γ N ops ops st [] fun N5 _=>K N5
 | true=>(nG P Γ N ops ops st [] fun N5 log=>yh ops log.reverse=true/\K N5)\/∃xi xj:Nat,MB P Γ N ops xi xj st K
def W (m:Bool)(P:Program)(Γ:Env)(N:Nat):Code->(Out->St->Prop)->St->Prop
 | .skip,K,st=>K .normal st
 | .label _,K,st=>K .normal st
 | .region _ ops draw,K,st=>NP P Γ N ops.toList draw st (K .normal)
 | .seq x y,K,st=>W m P Γ N x (fun e N5=>(match e with
   | .normal=>W m P Γ N y K N5
   | e=>K e N5)) st\/
   ∃(ι:Type) (S:ι->St),W m P Γ N x (fun e N5=>(match e with
    | .normal=>∃i,LeqG m N5 (S i)
    | e=>K e N5)) st/\∀i,W m P Γ N y K (S i)
 | .cond c x y,K,st=>(match evL (dS st.fr) c with
   | .r (.c (.t (.bool b)))=>ifB b (W m P Γ N x K (zA st c true)) (W m P Γ N y K (zA st c false))
   | _=>False)
 | .block id c,K,st=>W m P Γ N c (fun e N5=>(match e with
   | .exit id'=>(match Nat.beq id' id with
     | true=>K .normal N5
     | false=>K (.exit id') N5)
   | e=>K e N5)) st
 | .loop c,K,st=>∃(ι:Type) (S:ι->St) (μ:ι->Nat) (i0:ι),LeqG m st (S i0)/\∀i,W m P Γ N c (fun e N5=>(match e with
   | .normal=>∃j,LeqG m N5 (S j)/\μ j<μ i
   | e=>K e N5)) (S i)
 | .exit id,K,st=>K (.exit id) st
 | .ret,K,st=>K .ret st
 | _,_,_=>False
theorem aB {A:Prop}{Q:Nat->Nat->Prop}(h:A):A\/∃xi xj:Nat,Q xi xj:=Or.inl h
section
variable {P:Program} {Γ:Env} {N B:Nat} {M:Nat->Prop} {w0:Start} {w:World} {ρ:Rho} {st N5:St} {a:Act} {m:Bool}
def Ext (r r':Ren):Prop:=∀o x,iC r o=some x->iC r' o=some x
theorem Ext.refl (r:Ren):Ext r r:=fun _ _ h=>h
theorem Ext.trans {r r' r'':Ren}(h:Ext r r')(h':Ext r' r''):Ext r r'':=fun o x hx=>h' o x (h o x hx)
theorem JD {r:Ren}{o:Id}{x:Option (Id×Option Nat)}(h:iC r o=none):Ext r ((o,x)::r):=by
 intro o' x' h';rw[iC]
 cases hb:fQ o' o with
 | true=>rw[idEq_iff.1 hb,h]at h';cases h'
 | false=>exact h'
def vrv (ρ:Id->Value):Option (Id×Option Nat)->Value
 | some (o,none)=>ρ o
 | some (o,some k)=>(match ρ o with
   | .slice A _ c=> .slice A k c
   | v=>v)
 | none=> .slice none 0 0
def vr (ρ:Id->Value)(r:Ren)(o:Id):Value:=
 match iC r o with|some x=>vrv ρ x|none=>ρ o
theorem uU {ρ:Id->Value}{r:Ren}{o:Id}{x:Option (Id×Option Nat)}(h:iC r o=some x):vr ρ r o=vrv ρ x:=by unfold vr;rw[h]
theorem Iq {x y:Option (Id×Option Nat)}(h:KB x y):x=y:=by
 unfold KB at h;split at h
 ·rfl
 ·rw[idEq_iff.1 h]
 ·rw[idEq_iff.1 h.1,h.2]
 ·exact h.elim
theorem ph {r:Ren}{o:Id}{x:Option (Id×Option Nat)}{K:Ren->Prop}(h:tie r o x K):∃r',Ext r r'/\iC r' o=some x/\K r':=by
 unfold tie at h;split at h
 ·rename_i y hy;exact⟨r,.refl r,by rw[hy,Iq h.1],h.2⟩
 ·rename_i hy;exact⟨_,JD hy,by rw[iC,idEq_iff.2 rfl];rfl,h⟩
def NH (r:Ren)(x y:AC):Prop:=∀{B:Nat} {ρ ρ':Rho} {w:World} {ok ok':Nat->Prop} {v:Value},(∀o,ρ' o=vr ρ r o)->(∀b,ok b->ok' b)->RC B ρ w ok v x->RC B ρ' w ok' v y
def JI (r:Ren)(x y:List AC):Prop:=∀{B:Nat} {ρ ρ':Rho} {w:World} {ok ok':Nat->Prop} {v:List Value},(∀o,ρ' o=vr ρ r o)->(∀b,ok b->ok' b)->RCs B ρ w ok v x->RCs B ρ' w ok' v y
def NG (r:Ren)(x y:AR):Prop:=∀{B:Nat} {ρ ρ':Rho} {w:World} {ok ok':Nat->Prop} {v:Value},(∀o,ρ' o=vr ρ r o)->(∀b,ok b->ok' b)->RR B ρ w ok v x->RR B ρ' w ok' v y
def Nv (r:Ren)(x y:List AR):Prop:=∀{B:Nat} {ρ ρ':Rho} {w:World} {ok ok':Nat->Prop} {v:List Value},(∀o,ρ' o=vr ρ r o)->(∀b,ok b->ok' b)->RRs B ρ w ok v x->RRs B ρ' w ok' v y
def Mp (r:Ren)(x y:AV):Prop:=∀{B:Nat} {ρ ρ':Rho} {w:World} {ok ok':Nat->Prop} {v:Value},(∀o,ρ' o=vr ρ r o)->(∀b,ok b->ok' b)->RV B ρ w ok v x->RV B ρ' w ok' v y
theorem RT.up {w:World}{ok ok':Nat->Prop}{v:Value}{t:Tr}(h:RT w ok v t)(hk:∀b,ok b->ok' b):RT w ok' v t:=h.keep fun b hb=>⟨rfl,hk b hb⟩
theorem V74{p:Prop}(h:p:=by
 obtain⟨r',h1,h2,h3⟩:=ph h;refine⟨r',h1,fun f hf B ρ ρ' w ok ok' v hρ hk hv=>?_,h3⟩;have e:=hf _ _ h2;have e':=(hρ _).trans (uU (ρ:=ρ) e);simp only[vrv]at e';simp only[RC,e']at hv⊢
 exact hv):p:=h
theorem V66{p:Prop}(h:p:=by
 obtain⟨Sa,h⟩:=h;subst Sa;obtain⟨r',h1,h2,h3⟩:=ph h;refine⟨r',h1,fun f hf B ρ ρ' w ok ok' v hρ hk hv=>?_,h3⟩;have e:=hf _ _ h2;have e':=(hρ _).trans (uU (ρ:=ρ) e);simp only[vrv]at e';simp only[RC,e']at hv⊢
 exact hv):p:=h
theorem Jt {r:Ren}{x y:AC}{K:Ren->Prop}(h:leC r x y K):∃r',Ext r r'/\(∀f,Ext r' f->NH f x y)/\K r':=by
 cases x<;>cases y<;>simp only[leC]at h
 case t.t=>exact⟨r,.refl r,fun f _ B ρ ρ' w ok ok' v hρ hk hv=>by rw[<-h.1];exact RT.up hv hk,h.2⟩
 case f.t=>exact⟨r,.refl r,fun f _ B ρ ρ' w ok ok' v hρ hk hv=>by rw[<-h.1];exact RT.up hv fun b hb=>hk b hb.1,h.2⟩
 case f.f=>exact⟨r,.refl r,fun f _ B ρ ρ' w ok ok' v hρ hk hv=>by rw[<-h.1];exact RT.up hv fun b hb=>⟨hk b hb.1,hb.2⟩,h.2⟩
 case nils.t=>obtain⟨⟨sz,rfl⟩,h⟩:=h;exact⟨r,.refl r,fun f _ B ρ ρ' w ok ok' v hρ hk hv=>by rw[show v=_ from hv];exact .emp _ _ _ (by simp[maxLen]),h⟩
 case nils.f=>obtain⟨⟨sz,rfl⟩,h⟩:=h;exact⟨r,.refl r,fun f _ B ρ ρ' w ok ok' v hρ hk hv=>by rw[show v=_ from hv];exact .emp _ _ _ (by simp[maxLen]),h⟩
 case nils.nils=>exact⟨r,.refl r,fun f _ B ρ ρ' w ok ok' v hρ hk hv=>hv,h⟩
 case nilp.nilp=>exact⟨r,.refl r,fun f _ B ρ ρ' w ok ok' v hρ hk hv=>hv,h⟩
 case t.opq|f.opq|nils.opq|nilp.opq|own.opq|sub.opq|ptr.opq|opq.opq|mpv.opq=>exact⟨r,.refl r,fun f _ B ρ ρ' w ok ok' v hρ hk hv=>⟨RC.one hv,RC.cells1 hv⟩,h⟩
 case nils.own=>obtain⟨r',h1,h2,h3⟩:=ph h;refine⟨r',h1,fun f hf B ρ ρ' w ok ok' v hρ hk hv=>?_,h3⟩;have e:=hf _ _ h2;have e':=(hρ _).trans (uU (ρ:=ρ) e);simp only[vrv]at e';simp only[RC,e']at hv⊢;exact⟨⟨_,_,_,rfl⟩,hv⟩
 case own.own=>exact V74
 case sub.own=>obtain⟨r',h1,h2,h3⟩:=ph h;refine⟨r',h1,fun f hf B ρ ρ' w ok ok' v hρ hk hv=>?_,h3⟩;have e:=hf _ _ h2;have e':=(hρ _).trans (uU (ρ:=ρ) e);simp only[vrv]at e';simp only[RC,e']at hv⊢;obtain⟨A,n,c,g1,g2,g3⟩:=hv;rw[g1];exact⟨⟨_,_,_,rfl⟩,g2⟩
 case sub.sub=>exact V66
 case mpv.mpv=>exact V74
 case ptr.ptr=>exact V66
theorem V88{p:Prop}(h:p:=by
 refine⟨r2,h1.trans h4,fun f hf B ρ ρ' w ok ok' v hρ hk hv=>?_,h6⟩
 cases v with
 | nil=>exact hv.elim
 | cons v vs=>exact⟨h2 f (h4.trans hf) hρ hk hv.1,h5 f hf hρ hk hv.2⟩):p:=h
theorem BN:∀{xs ys:List AC} {r:Ren} {K:Ren->Prop},Kt r xs ys K->∃r',Ext r r'/\(∀f,Ext r' f->JI f xs ys)/\K r'
 | [],[],r,K,h=>⟨r,.refl r,fun f _ B ρ ρ' w ok ok' v hρ hk hv=>by cases v<;>simp[RCs]at hv⊢,h⟩
 | x::xs,y::ys,r,K,h=>by
  obtain⟨r1,h1,h2,h3⟩:=Jt h;obtain⟨r2,h4,h5,h6⟩:=BN h3
  exact V88
 | [],_::_,_,_,h=>h.elim
 | _::_,[],_,_,h=>h.elim
theorem KQ {r:Ren}{x y:AR}{K:Ren->Prop}(h:leR r x y K):∃r',Ext r r'/\(∀f,Ext r' f->NG f x y)/\K r':=by
 cases x<;>cases y<;>simp only[leR]at h
 case c.c=>exact Jt h
 case agg.agg=>obtain⟨r1,h1,h2,h3⟩:=BN h;exact⟨r1,h1,fun f hf B ρ ρ' w ok ok' v hρ hk hv=>let ⟨us,e,hu⟩:=hv;⟨us,e,h2 f hf hρ hk hu⟩,h3⟩
theorem GK:∀{xs ys:List AR} {r:Ren} {K:Ren->Prop},Ni r xs ys K->∃r',Ext r r'/\(∀f,Ext r' f->Nv f xs ys)/\K r'
 | [],[],r,K,h=>⟨r,.refl r,fun f _ B ρ ρ' w ok ok' v hρ hk hv=>by cases v<;>simp[RRs]at hv⊢,h⟩
 | x::xs,y::ys,r,K,h=>by
  obtain⟨r1,h1,h2,h3⟩:=KQ h;obtain⟨r2,h4,h5,h6⟩:=GK h3
  exact V88
 | [],_::_,_,_,h=>h.elim
 | _::_,[],_,_,h=>h.elim
theorem MT {r:Ren}{x y:AV}{K:Ren->Prop}(h:leV r x y K):∃r',Ext r r'/\(∀f,Ext r' f->Mp f x y)/\K r':=by
 cases y with
 | unk=>exact⟨r,.refl r,fun f _ B ρ ρ' w ok ok' v hρ hk hv=>trivial,h⟩
 | r y=>
  cases x<;>simp only[leV]at h
  exact KQ h
 | tup ys=>
  cases x<;>simp only[leV]at h
  obtain⟨r1,h1,h2,h3⟩:=GK h
  exact⟨r1,h1,fun f hf B ρ ρ' w ok ok' v hρ hk hv=>let ⟨us,e,hu⟩:=hv;⟨us,e,h2 f hf hρ hk hu⟩,h3⟩
 | el o' sz i off=>
  cases x<;>simp only[leV]at h
  obtain⟨rfl,rfl,rfl,h⟩:=h;obtain⟨r',h1,h2,h3⟩:=ph h;refine⟨r',h1,fun f hf B ρ ρ' w ok ok' v hρ hk hv=>?_,h3⟩;have e:=hf _ _ h2;have e':=(hρ _).trans (uU (ρ:=ρ) e);simp only[vrv]at e';simp only[RV,e']at hv⊢
  exact hv
 | ro fr row off=>
  cases x<;>simp only[leV]at h
  obtain⟨rfl,rfl,rfl,h⟩:=h;refine⟨r,.refl r,fun f hf B ρ ρ' w ok ok' v hρ hk hv=>?_,h⟩;exact RV.keep (ρ:=ρ) (ρ':=ρ') (w:=w) (w':=w) (x:= .ro _ _ _) hv (fun b hb=>⟨rfl,hk b hb⟩) aaO
theorem Hg {fr:List (Nat×AV)}:∀{l:List (Nat×AV)} {r:Ren} {K:Ren->Prop},MQ fr l r K->∃r',Ext r r'/\(∀f,Ext r' f->∀t y,(t,y)∈l->Mp f (dS fr t) y)/\K r'
 | [],r,K,h=>⟨r,.refl r,fun _ _ t y hm=>(by cases hm),h⟩
 |(t,y)::l,r,K,h=>by
  obtain⟨r1,h1,h2,h3⟩:=MT h;obtain⟨r2,h4,h5,h6⟩:=Hg h3;refine⟨r2,h1.trans h4,fun f hf t' y' hm=>?_,h6⟩;rcases d6.1 hm with he|hm
  ·injection he with e1 e2;subst e1;subst e2;exact fun hρ hk hv=>h2 f (h4.trans hf) hρ hk hv
  ·exact fun hρ hk hv=>h5 f hf t' y' hm hρ hk hv
def Nn (m:Bool)(f:Ren)(h:List (Id×Option AO))(o':Id)(x:AO):Prop:=
 (iC f o'=some none/\((∃fr sz,x= .arr fr sz [])\/∃sz,x= .dar sz [] none))\/
 ∃o c y,iC f o'=some (some (o,c))/\ct h o=some y/\
  (
   (c=none/\∃xs ys,y= .box xs/\x= .box ys/\JI f xs ys)\/
   (∃fr sz rows fr' rows',y= .arr fr sz rows/\x= .arr fr' sz rows'/\leB m fr fr' rows'/\((c=none/\rows'=rows)\/∃k,c=some k/\k<=rows.length/\rows'=rows.take k))\/
   (∃sz rows rows',y= .dar sz rows none/\x= .dar sz rows' none/\((c=none/\rows'=rows)\/∃k,c=some k/\k<=rows.length/\rows'=rows.take k))\/
   (c=none/\∃fr sz rows,y= .arr fr sz rows/\flat rows/\x= .dar sz (aq rows) none)\/
   (c=none/\∃sz rows fr,y= .dar sz (aq rows) none/\x= .arr fr sz rows/\(fr=true->m=true))\/
   (c=none/\∃kk es,y= .mp kk es/\x= .mp kk es)\/
   (c=none/\∃sz rows k,y= .zar sz rows k/\x= .zar sz rows k)\/
   (c=none/\∃sz rows i off n n',y= .dar sz rows (some (i,off,n))/\x= .dar sz rows (some (i,off,n'))/\iC f n'=some (some (n,none))))
theorem Gw {h:List (Id×Option AO)}:∀{l:List (Id×Option AO)} {r:Ren} {K:Ren->Prop},leH m h l r K->∃r',Ext r r'/\(∀f,Ext r' f->∀o x,(o,some x)∈l->Nn m f h o x)/\K r'
 | [],r,K,hh=>⟨r,.refl r,fun _ _ o x hm=>(by cases hm),hh⟩
 |(o',none)::l,r,K,hh=>by
  obtain⟨r1,h1,h2,h3⟩:=Gw (l:=l) hh;refine⟨r1,h1,fun f hf o x hm=>?_,h3⟩;rcases d6.1 hm with he|hm
  ·injection he with e1 e2;cases e2
  ·exact h2 f hf o x hm
 |(o',some z)::l,r,K,hh=>by
  have one:∀{r0:Ren},Ext r r0->leH m h l r0 K->(∀f,Ext r0 f->Nn m f h o' z)->∃r',Ext r r'/\(∀f,Ext r' f->∀o x,(o,some x)∈(o',some z)::l->Nn m f h o x)/\K r':=by
   intro r0 h0 hh hz;obtain⟨r1,h1,h2,h3⟩:=Gw (l:=l) hh;refine⟨r1,h0.trans h1,fun f hf o x hm=>?_,h3⟩;rcases d6.1 hm with he|hm
   ·injection he with e1 e2;injection e2 with e2;subst e1;subst e2;exact hz f (h1.trans hf)
   ·exact h2 f hf o x hm
  unfold leH at hh;split at hh
  ·rename_i hr;split at hh
   ·rename_i fr sz rows;obtain⟨rfl,hh⟩:=hh;exact one (.refl r) hh fun f hf=> .inl ⟨hf _ _ hr,.inl ⟨_,_,rfl⟩⟩
   ·rename_i sz rows;obtain⟨rfl,hh⟩:=hh;exact one (.refl r) hh fun f hf=> .inl ⟨hf _ _ hr,.inr ⟨_,rfl⟩⟩
   ·exact hh.elim
  ·rename_i o0 c hr;split at hh
   ·rename_i y hy;unfold leO at hh;split at hh
    ·rename_i fr sz rows fr' OD rows'
     have key:sz=OD/\leB m fr fr' rows'/\((c=none/\rows'=rows)\/∃k,c=some k/\k<=rows.length/\rows'=rows.take k)/\leH m h l r K:=by cases c with|none=>obtain⟨a1,a2,a3,a4⟩:=(show _/\_/\_/\_ from hh);exact⟨a1,a3,.inl ⟨rfl,a2.symm⟩,a4⟩|some k=>obtain⟨a0,a1,a2,a3,a4⟩:=(show _/\_/\_/\_/\_ from hh);exact⟨a1,a3,.inr ⟨k,rfl,a0,a2.symm⟩,a4⟩
     obtain⟨rfl,k1,k2,hh⟩:=key;exact one (.refl r) hh fun f hf=> .inr ⟨o0,c,_,hf _ _ hr,hy,.inr (.inl ⟨fr,sz,rows,fr',rows',rfl,rfl,k1,k2⟩)⟩
    ·rename_i xs ys
     cases c with
     | some _=>exact hh.elim
     | none=>obtain⟨r1,h1,h2,h3⟩:=BN (show Kt r xs ys _ from hh);exact one h1 h3 fun f hf=> .inr ⟨o0,none,_,(h1.trans hf) _ _ hr,hy,.inl ⟨rfl,xs,ys,rfl,rfl,fun hρ hk hv=>h2 f hf hρ hk hv⟩⟩
    ·rename_i sz rows OD rows'
     have key:sz=OD/\((c=none/\rows'=rows)\/∃k,c=some k/\k<=rows.length/\rows'=rows.take k)/\leH m h l r K:=by cases c with|none=>obtain⟨a1,a2,a4⟩:=(show _/\_/\_ from hh);exact⟨a1,.inl ⟨rfl,a2.symm⟩,a4⟩|some k=>obtain⟨a0,a1,a2,a4⟩:=(show _/\_/\_/\_ from hh);exact⟨a1,.inr ⟨k,rfl,a0,a2.symm⟩,a4⟩
     obtain⟨rfl,k2,hh⟩:=key;exact one (.refl r) hh fun f hf=> .inr ⟨o0,c,_,hf _ _ hr,hy,.inr (.inr (.inl ⟨sz,rows,rows',rfl,rfl,k2⟩))⟩
    ·rename_i fr sz rows OD rows'
     cases c with
     | some _=>exact hh.elim
     | none=>obtain⟨rfl,a2,rfl,a4⟩:=(show _/\_/\_/\_ from hh);exact one (.refl r) a4 fun f hf=> .inr ⟨o0,none,_,hf _ _ hr,hy,.inr (.inr (.inr (.inl ⟨rfl,fr,sz,rows,rfl,a2,rfl⟩)))⟩
    ·rename_i sz rows fr' OD rows'
     cases c with
     | some _=>exact hh.elim
     | none=>obtain⟨rfl,rfl,a3,a4⟩:=(show _/\_/\_/\_ from hh);exact one (.refl r) a4 fun f hf=> .inr ⟨o0,none,_,hf _ _ hr,hy,.inr (.inr (.inr (.inr (.inl ⟨rfl,sz,rows',fr',rfl,rfl,fun e=>by subst e;simpa using a3⟩))))⟩
    ·rename_i kk es XY Pu
     cases c with
     | some _=>exact hh.elim
     | none=>obtain⟨rfl,rfl,a4⟩:=(show _/\_/\_ from hh);exact one (.refl r) a4 fun f hf=> .inr ⟨o0,none,_,hf _ _ hr,hy,.inr (.inr (.inr (.inr (.inr (.inl ⟨rfl,kk,es,rfl,rfl⟩)))))⟩
    ·rename_i sz rows i off n OD rows' i' Rf n'
     cases c with
     | some _=>exact hh.elim
     | none=>obtain⟨rfl,rfl,rfl,rfl,a5⟩:=(show _/\_/\_/\_/\_ from hh);obtain⟨r1,h1,h2,h3⟩:=ph a5;exact one h1 h3 fun f hf=> .inr ⟨o0,none,_,(h1.trans hf) _ _ hr,hy,.inr (.inr (.inr (.inr (.inr (.inr (.inr ⟨rfl,sz,rows,i,off,n,n',rfl,rfl,hf _ _ h2⟩))))))⟩
    ·rename_i sz rows k OD rows' k'
     cases c with
     | some _=>exact hh.elim
     | none=>obtain⟨rfl,rfl,rfl,a4⟩:=(show _/\_/\_/\_ from hh);exact one (.refl r) a4 fun f hf=> .inr ⟨o0,none,_,hf _ _ hr,hy,.inr (.inr (.inr (.inr (.inr (.inr (.inl ⟨rfl,sz,rows,k,rfl,rfl⟩))))))⟩
    ·exact hh.elim
   ·exact hh.elim
  ·exact hh.elim
theorem kV:∀{h:List (Id×Option AO)} {o:Id} {x:AO},ct h o=some x->(o,some x)∈h
 | [],_,_,h=>by simp[ct]at h
 |(i,y)::r,o,x,h=>by
  rw[ct]at h
  cases hb:fQ o i with|true=>rw[hb]at h;have:=idEq_iff.1 hb;subst this;simp only[cond_true]at h;rw[h];simp|false=>rw[hb]at h;exact s5 _ (kV h)
theorem jh:∀(fr:List (Nat×AV)) (t:Nat),dS fr t= .unk\/(t,dS fr t)∈fr
 | [],_=> .inl rfl
 |(i,y)::r,t=>by
  rw[dS]
  cases hb:Nat.beq t i with|true=>have:=r6 hb;subst this;right;simp|false=>exact(jh r t).imp id (s5 _)
theorem yS:∀{r:Ren} {o' o:Id} {c:Option Nat},iC r o'=some (some (o,c))->xq o r=true
 | [],_,_,_,h=>by simp[iC]at h
 |(i,x)::r,o',o,c,h=>by
  rw[iC]at h
  cases hb:fQ o' i with
  | true=>
   rw[hb]at h;simp only[cond_true,Option.some.injEq]at h;subst h
   simp[xq,idEq_iff.2 rfl]
  | false=>
   rw[hb]at h;have:=yS (r:=r) h
   cases x<;>simp[xq,this]
theorem tN:∀{r:Ren} {o1 o2 o:Id} {c1 c2:Option Nat},yf r=true->iC r o1=some (some (o,c1))->iC r o2=some (some (o,c2))->o1=o2
 | [],_,_,_,_,_,_,h,_=>by simp[iC]at h
 |(i,x)::r,o1,o2,o,c1,c2,hr,h1,h2=>by
  rw[iC]at h1 h2
  have TX:yf r=true:=by cases x with|none=>exact hr|some p=>simp only[yf,c9]at hr;exact hr.2
  have Px:∀c,x=some (o,c)->xq o r=false:=fun c hx=>by
   subst hx;simp only[yf,c9,u9]at hr;exact hr.1
  cases PK:fQ o1 i with
  | true=>
   rw[PK]at h1;simp only[cond_true,Option.some.injEq]at h1
   cases OX:fQ o2 i with
   | true=>exact(idEq_iff.1 PK).trans (idEq_iff.1 OX).symm
   | false=>
    rw[OX]at h2;have:=yS (r:=r) h2;rw[Px c1 h1]at this
    cases this
  | false=>
   rw[PK]at h1
   cases OX:fQ o2 i with
   | true=>
    rw[OX]at h2;simp only[cond_true,Option.some.injEq]at h2;have:=yS (r:=r) h1;rw[Px c2 h2]at this
    cases this
   | false=>rw[OX]at h2;exact tN TX h1 h2
theorem mo {u:List Nat}:∀{l:List Id},uu u l=true->∀o∈l,used u o.1=true
 | [],_,o,ho=>by cases ho
 | i::l,h,o,ho=>by
  simp only[uu,c9]at h;rcases d6.1 ho with rfl|ho
  ·exact h.1
  ·exact mo h.2 o ho
theorem zH {u:List Nat}:∀{l:List (Nat×AV)},Bo u l=true->∀t v,(t,v)∈l->∀o∈v.ids,used u o.1=true
 | [],_,t,v,hm=>by cases hm
 |(i,x)::l,h,t,v,hm=>by
  simp only[Bo,c9]at h;rcases d6.1 hm with he|hm
  ·injection he with e1 e2;subst e2;exact mo h.1
  ·exact zH h.2 t v hm
theorem rQ {u:List Nat}:∀{l:List (Id×Option AO)},usedH u l=true->∀o x,(o,some x)∈l->used u o.1=true/\∀o'∈x.ids,used u o'.1=true
 | [],_,t,v,hm=>by cases hm
 |(i,none)::l,h,o,x,hm=>by
  rcases d6.1 hm with he|hm
  ·injection he with e1 e2;cases e2
  ·exact rQ (l:=l) h o x hm
 |(i,some y)::l,h,o,x,hm=>by
  simp only[usedH,c9]at h;rcases d6.1 hm with he|hm
  ·injection he with e1 e2;injection e2 with e2;subst e1;subst e2;exact⟨h.1,mo h.2.1⟩
  ·exact rQ h.2.2 o x hm
theorem RT.flat {w:World}{ok ok':Nat->Prop}{v:Value}{t:Tr}(h:RT w ok v t)(hf:∀sz rs,t≠.lst sz rs):RT w ok' v t:=by cases h with|int k n=>exact .int k n|bool b=>exact .bool b|str s=>exact .str s|emp _ _ sz=>exact absurd rfl (hf _ _)|lst=>exact absurd rfl (hf _ _)
theorem RTs.flat {w:World}{ok ok':Nat->Prop}:∀{vs:List Value} {ts:List Tr},RTs w ok vs ts->(∀t∈ts,∀sz rs,t≠.lst sz rs)->RTs w ok' vs ts
 | [],[],_,_=>trivial
 | _::_,_::_,h,hf=>⟨h.1.flat (hf _ s_),RTs.flat h.2 fun t ht=>hf t (by simp[ht])⟩
 | [],_::_,h,_=>h.elim
 | _::_,[],h,_=>h.elim
theorem mV {α:Type}{sz:Nat}:∀{rows:List (List α)} (k:Nat),(∀r∈rows,r.length=sz)->k<=rows.length->(rows.take k).flatten=rows.flatten.take (k*sz)
 | _,0,_,_=>s_
 | [],_+1,_,h=>by simp at h
 | r::rows,k+1,hu,h=>by
  have hr:=hu r s_;rw[r8,t6,t6,mV k (fun r hr=>hu r aaw) aac,I0,hr];rw[gt (l:=r) (by rw[hr,o8];omega)];congr 2;rw[o8];omega
theorem DY:∀{r:Ren} {o:Id} {x:Option (Id×Option Nat)},iC r o=some x->(o,x)∈r
 | [],_,_,h=>by simp[iC]at h
 |(i,y)::r,o,x,h=>by
  rw[iC]at h
  cases hb:fQ o i with|true=>rw[hb]at h;have:=idEq_iff.1 hb;subst this;simp only[cond_true,Option.some.injEq]at h;subst h;simp|false=>rw[hb]at h;exact s5 _ (DY h)
theorem RDs.take {ρ ρ':Rho}{w:World}{ok ok':Nat->Prop}{sz n:Nat}{Fp:Nat->Nat->Prop}{us:List Value}{cs:List DC}(h:RDs ρ w ok sz none Fp us cs)(hk:∀b,ok b->ok' b):RDs ρ' w ok' sz none Fp (us.take n) (cs.take n):=by
 refine⟨by rw[j5,j5,h.1],fun p v c hv hc=>?_⟩;rw[l4]at hv hc;split at hv
 ·rename_i hp;rw[d5 hp]at hc;have:=h.2 p v c hv hc;simp only[cb]at this⊢;exact this.keep (fun b hb=>⟨rfl,hk b hb⟩) fun b hb=>⟨rfl,hb⟩
 ·cases hv
theorem V126{p:Prop}(h:p:=by
 rw[E0,j5,x6 OH];congr 1
 exact(x6 (l8 _ OH)).symm):p:=h
theorem Leq.ok' (hM:m=true->(∀b,¬M b)/\∀o,w0.fx o=none)(hF:∀o v,w0.fx o=some v->o.1=0)(h:Leq m st N5)(hc:Conc N B M w0 ρ st.fs a w):∃ρ',Conc N B M w0 ρ' N5.fs a w/\
  (∀b,okB ρ st.fs.H w b->okB ρ' N5.fs.H w b)/\
  ∀(t:Nat) (v:Value) (ok ok':Nat->Prop),(∀b,ok b->ok' b)->RV B ρ w ok v (dS st.fr t)->RV B ρ' w ok' v (dS N5.fr t):=by
 obtain⟨hu,h⟩:=h;rw[c9,c9]at hu;obtain⟨hu,XX⟩:=hu;obtain⟨r1,_,hL,h⟩:=Hg h;obtain⟨f,h1,hH,XP⟩:=Gw h;rw[c9]at XP;obtain⟨hr,hP⟩:=XP;have hL:=hL f h1;have hH:=hH f (.refl f)
 let ρ':Rho:=⟨vr ρ f,fun o c=>((∃sz rows hole,N5.fs.H o=some (.dar sz rows hole))\/∃sz rows k,N5.fs.H o=some (.zar sz rows k))/\∃q k,iC f o=some (some (q,k))/\ρ.fp q c,ρ.al⟩
 have hρ:∀o,ρ' o=vr ρ f o:=fun _=>rfl;have QU:∀{o:Id} {x:Option (Id×Option Nat)},iC f o=some x->ρ' o=vrv ρ x:=fun e=>uU e;refine⟨ρ',?_⟩
 have old:∀o x b,N5.fs.H o=some x->Own ρ' o b->∃q y c,iC f o=some (some (q,c))/\st.fs.H q=some y/\Own ρ q b:=by
  intro o x b ho hb;rcases hH o x (kV ho)with⟨g1,_⟩|⟨q,c,y,g1,g2,_⟩
  ·rcases hb with hb|⟨_,q,k,e,_⟩
   ·rw[QU g1]at hb;simp[vrv,blk]at hb
   ·rw[g1]at e;cases e
  ·refine⟨q,y,c,g1,g2,?_⟩;rcases hb with hb|⟨_,q',k,e,hf⟩
   ·left;rw[QU g1]at hb
    cases c with
    | none=>exact hb
    | some k=>
     simp only[vrv]at hb;split at hb
     ·rename_i A n cc e;rw[e]
      cases A<;>exact hb
     ·exact hb
   ·rw[g1]at e;injection e with e;injection e with e;injection e with e1 e2;subst e1;exact .inr hf
 have hk:∀b,okB ρ st.fs.H w b->okB ρ' N5.fs.H w b:=by intro b hb;refine⟨hb.1,fun o x ho he=>?_⟩;obtain⟨q,y,_,_,g2,g3⟩:=old o x b ho he;exact hb.2 q y g2 g3
 refine⟨?_,hk,fun t v ok ok' N7 hv=>?_⟩
 rotate_left
 ·rcases jh N5.fr t with e|hm
  ·rw[e];trivial
  ·exact hL t _ hm hρ N7 hv
 refine⟨hc.size,hc.defers,fun t=>?_,fun o x ho=>?_,fun o o' x x' b ho OR Ow he Qd=>?_,fun o x b ho he=>?_,hc.keep,hc.base,hc.alw,hc.cst,fun o v hv=>?_,fun t o ho=>?_,fun o x ho=>?_⟩
 ·rcases jh N5.fr t with e|hm
  ·show RV _ _ _ _ _ (dS N5.fr t);rw[e];trivial
  ·exact hL t _ hm hρ hk (hc.slot t)
 ·rcases hH o x (kV ho)with⟨g1,⟨fr,sz,rfl⟩|⟨sz,rfl⟩⟩|⟨q,c,y,g1,g2,g3⟩
  ·exact⟨fun r hr=>(by cases hr),.inl ⟨QU g1,rfl⟩⟩
  ·exact⟨fun r hr=>(by cases hr),.inl ⟨QU g1,rfl,rfl⟩⟩
  ·have OT:=hc.obj q y g2;have OG:=QU g1;rcases g3 with⟨rfl,xs,ys,rfl,rfl,g4⟩|⟨fr,sz,rows,fr',rows',rfl,rfl,g4,g5⟩|⟨sz,rows,rows',rfl,rfl,g5⟩|⟨rfl,fr,sz,rows,rfl,OA,rfl⟩|⟨rfl,sz,rows,fr,rfl,rfl,P2⟩|⟨rfl,kk,es,rfl,rfl⟩|⟨rfl,sz,rows,k,rfl,rfl⟩|⟨rfl,sz,rows,i,off,n,n',rfl,rfl,g6⟩
   ·obtain⟨b,cur,t,fz,k1,k2,k3,k4⟩:=OT;exact⟨b,cur,t,fz,by rw[OG];exact k1,k2,k3,g4 hρ hk k4⟩
   ·obtain⟨QT,OT⟩:=OT
    have OY:∀r∈rows',r∈rows:=by
     rcases g5 with⟨_,rfl⟩|⟨k,_,_,rfl⟩
     ·exact fun r h=>h
     ·exact fun r h=>u6 h
    refine⟨fun r hr=>QT r (OY r hr),?_⟩;rcases OT with⟨k1,k2⟩|⟨b,cap,cur,e,fz,k1,k2,k3,k4,k5,k6,k7,k8⟩
    ·subst k2;left;rcases g5 with⟨rfl,rfl⟩|⟨k,rfl,OH,rfl⟩
     ·exact⟨by rw[OG];exact k1,rfl⟩
     ·simp only[e7,Nat.le_zero]at OH;subst OH;exact⟨by rw[OG];simp only[vrv,k1],s_⟩
    ·right;have hB:m=true->B<=b:=fun hm=>((hc.rng q _ b g2 (.inl (by rw[k1];rfl))).2).resolve_right ((hM hm).1 b)
     have tup:∀{l:List Value},RTs w (okF B (okB ρ st.fs.H w) fr) l rows'.flatten->RTs w (okF B (okB ρ' N5.fs.H w) fr') l rows'.flatten:=by
      intro l hl
      cases fr' with
      | false=>exact hl.keep fun b hb=>⟨rfl,hk b hb.1,fun e=>by cases e⟩
      | true=>
       cases fr with
       | true=>exact hl.keep fun b hb=>⟨rfl,hk b hb.1,hb.2⟩
       | false=>refine hl.flat fun t ht=>?_;obtain⟨row,h1,h2⟩:=E2.1 ht;exact g4.2 row h1 t h2
     have P2:fr'=true->B<=b:=by
      intro e;subst e
      cases fr with|true=>exact k8 rfl|false=>exact hB g4.1
     rcases g5 with⟨rfl,rfl⟩|⟨k,rfl,OH,rfl⟩
     ·exact⟨b,cap,cur,e,fz,by rw[OG];exact k1,k2,k3,k4,k5,k6,tup k7,P2⟩
     ·refine⟨b,cap,cur,e,fz,?_,k2,k3,?_,k5,k6,tup ?_,P2⟩
      ·rw[OG];simp only[vrv,k1,j5,x6 OH]
      ·simp only[j5];omega
      ·rw[mV k QT OH]
       have:cur.toList.take ((rows.take k).length*sz)=(cur.toList.take (rows.length*sz)).take (k*sz):=by exact V126
       rw[this];exact k7.take _
   ·obtain⟨QT,OT⟩:=OT
    have OY:∀r∈rows',r∈rows:=by
     rcases g5 with⟨_,rfl⟩|⟨k,_,_,rfl⟩
     ·exact fun r h=>h
     ·exact fun r h=>u6 h
    refine⟨fun r hr=>QT r (OY r hr),?_⟩;rcases OT with⟨k1,k2,_⟩|⟨b,cap,cur,e,fz,Fp,k1,k2,k3,k4,k5,k6,k7,k8,k9⟩
    ·subst k2;left;rcases g5 with⟨rfl,rfl⟩|⟨k,rfl,OH,rfl⟩
     ·exact⟨by rw[OG];exact k1,rfl,rfl⟩
     ·simp only[e7,Nat.le_zero]at OH;subst OH;exact⟨by rw[OG];simp only[vrv,k1],s_,rfl⟩
    ·right;have Sh:∀p d,Fp p d->ρ'.fp o d/\d≠b:=fun p d hd=>⟨⟨.inl ⟨_,_,_,ho⟩,q,c,g1,(k7 p d hd).1⟩,(k7 p d hd).2⟩;rcases g5 with⟨rfl,rfl⟩|⟨k,rfl,OH,rfl⟩
     ·exact⟨b,cap,cur,e,fz,Fp,by rw[OG];exact k1,k2,k3,k4,k5,k6,Sh,k8,k9.keep (fun c N6=>⟨rfl,hk c N6⟩) (fun p c N6=>⟨rfl,N6⟩) fun _ _ _ e=>by cases e⟩
     ·refine⟨b,cap,cur,e,fz,Fp,?_,k2,k3,?_,k5,k6,Sh,k8,?_⟩
      ·rw[OG];simp only[vrv,k1,j5,x6 OH]
      ·simp only[j5];omega
      ·rw[mV k QT OH]
       have:cur.toList.take ((rows.take k).length*sz)=(cur.toList.take (rows.length*sz)).take (k*sz):=by exact V126
       rw[this];exact k9.take hk
   ·exact(FX hc g2 OA).toDar OG fun d hd Ow=>hd.elim (fun e=>absurd e Ow) fun hd=>⟨.inl ⟨_,_,_,ho⟩,q,none,g1,hd⟩
   ·obtain⟨QT,OT⟩:=OT;refine⟨fun r hr=>?_,?_⟩
    ·have:=QT (r.map .d) (p6.2 ⟨r,hr,rfl⟩);simpa using this
    have N1:(aq rows).length=rows.length:=(by simp[aq]);rcases OT with⟨k1,k2,_⟩|⟨b,cap,cur,e,fz,Fp,k1,k2,k3,k4,k5,k6,k7,k8,k9⟩
    ·left;exact⟨by rw[OG];exact k1,by simpa [aq]using k2⟩
    ·right;rw[N1]at k1 k4 k9;rw[mW]at k9;have Up:∀d,Own ρ q d->fr=true->B<=d:=fun d hd e=>((hc.rng q _ d g2 hd).2).resolve_right ((hM (P2 e)).1 d);have hb:Own ρ q b:= .inl (by rw[k1];rfl)
     have hin:∀p d,Fp p d->okF B (okB ρ' N5.fs.H w) fr d:=fun p d hd=>by
      obtain⟨Xz,UJ⟩:=k7 p d hd;have Pf:=hc.rng q _ d g2 (.inr Xz);refine⟨⟨⟨Pf.1,hc.alw d Pf.2⟩,fun o2 x2 Zo PX=>?_⟩,Up d (.inr Xz)⟩;obtain⟨q2,y2,c2,e1,e2,e3⟩:=old o2 x2 d Zo PX;by_cases e:q2=q
      ·subst e;have:=tN hr e1 g1;subst this;rcases PX with PX|⟨⟨_,_,_,PX⟩|⟨_,_,_,PX⟩,_⟩
       ·rw[OG]at PX;simp only[vrv,k1,blk]at PX;injection PX with PX;exact UJ PX.symm
       ·rw[ho]at PX;injection PX with PX;cases PX
       ·rw[ho]at PX;injection PX with PX;cases PX
      ·exact hc.sep q2 q y2 _ d e2 g2 e e3 (.inr Xz)
     refine⟨b,cap,cur,e,fz,by rw[OG];exact k1,k2,k3,k4,k5,k6,RTs.of (by rw[k9.1,d9]) fun p v t hv ht=>?_,Up b hb⟩;have:=k9.2 p v (.d t) hv (by rw[l6,ht];rfl);simp only[cb]at this;exact DT.toRT this (hin p)
   ·obtain⟨b,ents,clock,k1,k2,k3⟩:=OT;exact⟨b,ents,clock,by rw[OG];exact k1,k2,k3⟩
   ·rcases OT with⟨k1,k2⟩|⟨b,cap,cur,e,fz,Fp,k1,k2,k3,k4,k5,k6,k7,k8,k9⟩
    ·exact .inl ⟨by rw[OG];exact k1,k2⟩
    ·exact .inr ⟨b,cap,cur,e,fz,Fp,by rw[OG];exact k1,k2,k3,k4,k5,k6,fun p d hd=>⟨⟨.inr ⟨_,_,_,ho⟩,q,none,g1,(k7 p d hd).1⟩,(k7 p d hd).2⟩,k8,k9⟩
   ·obtain⟨QT,OT⟩:=OT;refine⟨QT,?_⟩;rcases OT with⟨_,_,k0⟩|⟨b,cap,cur,e,fz,Fp,k1,k2,k3,k4,k5,k6,k7,k8,k9⟩
    ·cases k0
    ·refine .inr ⟨b,cap,cur,e,fz,Fp,by rw[OG];exact k1,k2,k3,k4,k5,k6,fun p d hd=>⟨⟨.inl ⟨_,_,_,ho⟩,q,none,g1,(k7 p d hd).1⟩,(k7 p d hd).2⟩,k8,k9.1,fun p v c hv P1=>?_⟩;have h9:=k9.2 p v c hv P1;simp only[cb]at h9⊢;by_cases hp:p=i*sz+off
     ·rw[d5 hp]at h9⊢;exact⟨h9.1.trans (QU g6).symm,h9.2⟩
     ·rw[c8 hp]at h9⊢;exact h9.keep (fun b hb=>⟨rfl,hk b hb⟩) fun b hb=>⟨rfl,hb⟩
 ·obtain⟨q,y,c,g1,g2,g3⟩:=old o x b ho he;obtain⟨q',y',c',g4,g5,g6⟩:=old o' x' b OR Qd;by_cases e:q=q'
  ·subst e;exact Ow (tN hr g1 g4)
  ·exact hc.sep q q' y y' b g2 g5 e g3 g6
 ·obtain⟨q,y,c,g1,g2,g3⟩:=old o x b ho he;exact hc.rng q y b g2 g3
 ·cases m with
  | true=>rw[(hM rfl).2 o]at hv;cases hv
  | false=>
   have h0:=hF o v hv;simp only[C5]at hP XX;refine⟨?_,by show used N5.u o.1=true;rw[h0];exact XX⟩;have e:=(hc.M8 o v hv).1;rw[hρ];unfold vr
   cases hg:iC f o with
   | none=>exact e
   | some x=>
    have:=q7.1 hP _ (DY hg);simp only[h0,Nat.beq_refl,Bool.not_true,C5]at this;split at this
    ·rename_i o1;rw[idEq_iff]at this;subst this;exact e
    ·cases this
 ·rcases jh N5.fr t with e|hm
  ·simp only[St.fs]at ho;rw[e]at ho;simp[AV.ids]at ho
  ·exact zH hu.1 t _ hm o ho
 ·exact rQ hu.2 o x (kV ho)
theorem Leq.ok (hM:m=true->(∀b,¬M b)/\∀o,w0.fx o=none)(hF:∀o v,w0.fx o=some v->o.1=0)(h:Leq m st N5)(hc:Conc N B M w0 ρ st.fs a w):∃ρ',Conc N B M w0 ρ' N5.fs a w:=
 let ⟨ρ',h,_⟩:=h.ok' hM hF hc
 ⟨ρ',h⟩
theorem lr:∀(l:List Id) (st:St) (K:St->Prop) (ρ:Rho),jg l st K->Conc N B M w0 ρ st.fs a w->(∀o∈l,True)->∃st1 ρ1,K st1/\Conc N B M w0 ρ1 st1.fs a w/\st1.fr=st.fr
 | [],st,K,ρ,h,hc,_=>⟨st,ρ,h,hc,rfl⟩
 | o::l,st,K,ρ,h,hc,_=>by
  obtain⟨H',us,R,h1,h2⟩:=qI h;rw[uo]at h1;obtain⟨⟨ρ1,QW⟩,_⟩:=h2 hc fun _ _=>rfl;have QH:(⟨st.fs.L,bP st.fs.H us,st.fs.U⟩:F_)=(⟨st.fr,vi us st.h,st.u⟩:St).fs:=F_.ext' (fun _=>rfl) (fun o=>(pI us st.h o).symm) fun _=>Iff.rfl;rw[QH]at QW;obtain⟨st1,ρ2,g1,g2,g3⟩:=lr l _ K ρ1 h1 QW fun _ _=>trivial;exact⟨st1,ρ2,g1,g2,g3⟩
theorem LeqG.ok (hM:m=true->(∀b,¬M b)/\∀o,w0.fx o=none)(hF:∀o v,w0.fx o=some v->o.1=0)(h:LeqG m st N5)(hc:Conc N B M w0 ρ st.fs a w):∃ρ',Conc N B M w0 ρ' N5.fs a w:=by obtain⟨st1,ρ1,g1,g2,_⟩:=lr _ st _ ρ h hc fun _ _=>trivial;exact g1.ok hM hF g2
theorem wn {st:St}{c:Operand}{b:Bool}(h:evL (dS st.fr) c=tB b):(zA st c b).fs=st.fs:=by
 unfold zA;split
 ·exact xD h
 ·rfl
theorem V22{p:Prop}(h:p:=by
 cases e with
 | normal=>exact hQ .normal _ _ _ _ hK N6
 | ret=>exact hQ .ret _ _ _ _ hK N6
 | pan v=>exact hQ (.pan v) _ _ _ _ hK N6
 | exit id'=>
  show if id'=id then _ else _
  by_cases he:id'=id
  ·rw[d5 he];subst he;simp only[Nat.beq_refl]at hK;exact hQ .normal _ _ _ _ hK N6
  ·rw[c8 he];have:Nat.beq id' id=false:=(by cases hb:Nat.beq id' id with|false=>rfl|true=>exact absurd (r6 hb) he);simp only[this]at hK
   exact hQ (.exit id') _ _ _ _ hK N6):p:=h
theorem V1{p:Prop}(h:p:=by
 obtain⟨ι,S,μ,i0,h0,hS⟩:=h;obtain⟨ρ0,Qw⟩:=h0.ok hM hF hc
 have key:∀n i (ρ:Rho) (a:Act) (w:World),μ i<=n->Conc N B M w0 ρ (S i).fs a w->∀(b:Frame) (k:List Item) (cs:List Frame),
   ∃e a' w',Q e a' w'/\Arrives P (lone (b.at a (.code c:: .inLoop c::k)) cs w) b k cs e a' w':=by
  intro n
  induction n with
  | zero=>
   intro i ρ a w hi hc b k cs
   obtain⟨e,a1,w1,hq,PM⟩:=ih _ (S i) ρ a w (fun e a' w'=>match e with|.normal=>False|e=>Q e a' w') (hS i) hc (fun e N5 ρ' a' w' hK N6=>by
    cases e with
    | normal=>obtain⟨j,_,hj⟩:=hK;exact absurd hj o_
    | exit id=>exact hQ (.exit id) _ _ _ _ hK N6
    | pan v=>exact hQ (.pan v) _ _ _ _ hK N6
    | ret=>exact hQ .ret _ _ _ _ hK N6) b (.inLoop c::k) cs
   cases e with|normal=>exact hq.elim|exit id=>exact⟨_,a1,w1,hq,.pass (x:= .inLoop c) rfl (fun _ _=> .inl s_) PM⟩|goto l=>exact⟨_,a1,w1,hq,.pass (x:= .inLoop c) rfl (fun _ _=> .inl s_) PM⟩|ret=>exact⟨_,a1,w1,hq,.pass (x:= .inLoop c) rfl (fun _ _=> .inl s_) PM⟩|panic ch=>exact⟨_,a1,w1,hq,.pass (x:= .inLoop c) rfl (fun _ _=> .inl s_) PM⟩|outgrown=>exact⟨_,a1,w1,hq,.pass (x:= .inLoop c) rfl (fun _ _=> .inl s_) PM⟩
  | succ n ihn=>
   intro i ρ a w hi hc b k cs
   obtain⟨e,a1,w1,hq,PM⟩:=ih _ (S i) ρ a w (fun e a' w'=>match e with|.normal=>∃j ρ',μ j<=n/\Conc N B M w0 ρ' (S j).fs a' w'|e=>Q e a' w') (hS i) hc (fun e N5 ρ' a' w' hK N6=>by
    cases e with
    | normal=>obtain⟨j,Xl,Ua⟩:=hK;obtain⟨ρ'',SZ⟩:=Xl.ok hM hF N6;exact⟨j,ρ'',o_,SZ⟩
    | exit id=>exact hQ (.exit id) _ _ _ _ hK N6
    | pan v=>exact hQ (.pan v) _ _ _ _ hK N6
    | ret=>exact hQ .ret _ _ _ _ hK N6) b (.inLoop c::k) cs
   cases e with
   | normal=>
    obtain⟨j,ρ',hj,N6⟩:=hq;obtain⟨e2,a2,w2,U0,VW⟩:=ihn j ρ' a1 w1 hj N6 b k cs
    exact⟨e2,a2,w2,U0,.of_steps (Steps.trans PM (.one step_inLoop)) VW⟩
   | exit id=>exact⟨_,a1,w1,hq,.pass (x:= .inLoop c) rfl (fun _ _=> .inl s_) PM⟩
   | goto l=>exact⟨_,a1,w1,hq,.pass (x:= .inLoop c) rfl (fun _ _=> .inl s_) PM⟩
   | ret=>exact⟨_,a1,w1,hq,.pass (x:= .inLoop c) rfl (fun _ _=> .inl s_) PM⟩
   | panic ch=>exact⟨_,a1,w1,hq,.pass (x:= .inLoop c) rfl (fun _ _=> .inl s_) PM⟩
   | outgrown=>exact⟨_,a1,w1,hq,.pass (x:= .inLoop c) rfl (fun _ _=> .inl s_) PM⟩
 intro b k cs;obtain⟨e,a',w',hq,PM⟩:=key (μ i0) i0 ρ0 a w (d7 _) Qw b k cs
 exact⟨e,a',w',hq,.of_steps (.one step_loop) PM⟩):p:=h
theorem Nq (hΓ:Γ.chk P=true)(ay:P.follows .mixedOrders=true)(hM:m=true->(∀b,¬M b)/\∀o,w0.fx o=none)(hF:∀o v,w0.fx o=some v->o.1=0):
  ∀(c:Code) (K:Out->St->Prop) (st:St) (ρ:Rho) (a:Act) (w:World) (Q:Exit->Act->World->Prop),W m P Γ N c K st->Conc N B M w0 ρ st.fs a w->
   (∀e N5 ρ' a' w',K e N5->Conc N B M w0 ρ' N5.fs a' w'->Q e.at a' w')->c.wp P Q a w:=by
 intro c
 induction c with
 | skip=>intro K st ρ a w Q h hc hQ;exact wp_skip (hQ .normal _ _ _ _ h hc)
 | label l=>intro K st ρ a w Q h hc hQ;exact wp_label (hQ .normal _ _ _ _ h hc)
 | exit id=>intro K st ρ a w Q h hc hQ;exact wp_exit (hQ (.exit id) _ _ _ _ h hc)
 | ret=>intro K st ρ a w Q h hc hQ;exact wp_ret (hQ .ret _ _ _ _ h hc)
 | goto l=>intro K st ρ a w Q h;exact h.elim
 | refuse y=>intro K st ρ a w Q h;exact h.elim
 | scope b _=>intro K st ρ a w Q h;exact h.elim
 | rangeFunc f ps x y _ _=>intro K st ρ a w Q h;exact h.elim
 | region id ops draw=>
  intro K st ρ a w Q h hc hQ
  cases draw with
  | false=>
   obtain⟨es,N5,h1,h2,h3,h4⟩:=ws hΓ ops.toList st [] _ h;refine wp_region_list ?_;have:=ua (P:=P) (N:=N) (ops:=ops.toList) (B:=B) (M:=M) (w0:=w0) (Q:=Q) ops.toList es st.fs ρ a w h2 hc fun ρ' a' w' N6=>hQ .normal N5 ρ' a' w' h4 (by rw[h3];exact N6)
   simpa using this
  | true=>
   have PB:∀i o,ops.toList[i]?=some o->(Array.replicate ops.size false).getD i true=true->∀j∈dl o,(Array.replicate ops.size false).getD j true=true:=fun i o ho hl=>by
    have hi:i<ops.size:=by
     rcases l9 i ops.size with h'|h'
     ·exact h'
     ·rw[e9 (by simpa using h')]at ho;cases ho
    simp[s9,hi]at hl
   have N6:∀es:List (Bool×Eff),Conc N B M w0 ρ (sel st.fs ops.toList es (fun i=>(Array.replicate ops.size false).getD i true) 0) a {w with drawn:=w.drawn+1}:=by
    intro es
    rw[oN _ _ _ _ _ fun i _ hi=>by
     have:i<ops.size:=by simpa using hi
     simp[s9,this]]
    exact hc.step (fun _=>False) [] (Turn.drew _ w) hc.size hc.defers (fun _ _=>rfl) (fun _ _ _ _=>rfl) rfl (fun _ _=>rfl) (fun _ h=>h) (fun _ _ h=>h) (fun _ _ _ _ _ _ h=>h) (fun _ _ _ h=>h)
     (fun o x b h=>by cases h) (fun o o' x x' b h=>by cases h) (fun _ o x h=>by cases h) (fun _ t=> .inl ⟨rfl,rfl⟩)
   refine wp_region_any ay ?_;rcases h with h|⟨xi,xj,h⟩
   ·obtain⟨es,N5,h1,h2,h3,h4,h5⟩:=ws hΓ ops.toList st [] _ h;simp only[i9,List.reverse_reverse]at h4
    have:=HR (P:=P) (N:=N) (ops:=ops.toList) (B:=B) (M:=M) (w0:=w0) (Q:=Q) st.fs es h1 h2 h4 (fun ρ' a' w' N6=>hQ .normal N5 ρ' a' w' h5 (by rw[h3];exact N6))
     ops.size (Array.replicate ops.size false) ρ a _ s_ s_ PB (N6 es)
    simpa using this
   ·obtain⟨es,N5,h1,h2,N2,h4,⟨oi,oj,bj,ei,ej,g1,g2,g3,g4,g5⟩,h3,h5⟩:=JN hΓ h
    have:=FH (P:=P) (N:=N) (ops:=ops.toList) (B:=B) (M:=M) (w0:=w0) (Q:=Q) st.fs es h1 h2 N2 h4 g1 g2 g3 g4 g5 (fun ρ' a' w' N6=>hQ .normal N5 ρ' a' w' h5 (by rw[h3];exact N6))
     ops.size (Array.replicate ops.size false) ρ a _ s_ s_ PB (N6 es)
    simpa using this
 | seq x y ihx ihy=>
  intro K st ρ a w Q h hc hQ;rcases h with h|⟨ι,S,h,h2⟩
  ·refine wp_seq (ihx _ st ρ a w _ h hc fun e N5 ρ' a' w' hK N6=>?_)
   cases e with|normal=>exact ihy K N5 ρ' a' w' Q hK N6 hQ|exit id=>exact hQ (.exit id) _ _ _ _ hK N6|pan v=>exact hQ (.pan v) _ _ _ _ hK N6|ret=>exact hQ .ret _ _ _ _ hK N6
  ·refine wp_seq (ihx _ st ρ a w _ h hc fun e N5 ρ' a' w' hK N6=>?_)
   cases e with|normal=>obtain⟨i,hi⟩:=hK;obtain⟨ρ'',SZ⟩:=hi.ok hM hF N6;exact ihy K (S i) ρ'' a' w' Q (h2 i) SZ hQ|exit id=>exact hQ (.exit id) _ _ _ _ hK N6|pan v=>exact hQ (.pan v) _ _ _ _ hK N6|ret=>exact hQ .ret _ _ _ _ hK N6
 | cond c x y ihx ihy=>
  intro K st ρ a w Q h hc hQ;rw[W]at h;split at h
  ·rename_i b hb;have hv:=(hc.eval c).1;rw[show evL st.fs.L c=tB b from hb]at hv;refine wp_cond (fW hv) ?_
   cases b with|true=>exact ihx K _ ρ a w Q h aaM hQ|false=>exact ihy K _ ρ a w Q h aaM hQ
  ·exact h.elim
 | block id c ih=>
  intro K st ρ a w Q h hc hQ;refine wp_block (ih _ st ρ a w _ h hc fun e N5 ρ' a' w' hK N6=>?_)
  exact V22
 | loop c ih=>intro K st ρ a w Q h hc hQ;exact V1
end
def TV.av:TV->AV
 | .c x=> .r (.c (.t x))
 | .agg xs=> .r (.agg (xs.map .t))
def yg:Nat->List TV->List (Nat×AV)
 | _,[]=>[]
 | i,t::ts=>(i,t.av)::yg (i+1) ts
def st0 (ts:List TV):St:=⟨yg 0 ts,[],[]⟩
def Fl:AC->Prop
 | .t x=>(match x with
   | .lst _ _=>False
   | _=>True)
 | _=>True
def CD:List AC->Prop
 | []=>True
 | c::cs=>Fl c/\CD cs
def BH:AR->Prop
 | .c x=>Fl x
 | .agg cs=>CD cs
def wh:List AR->Prop
 | []=>True
 | c::cs=>BH c/\wh cs
def sl:List (Id×AO)->Bool
 | []=>true
 |(o,_)::l=>!(l.any fun p=>fQ o p.1)&&sl l
def LT (Γ:Env)(st:St):ResultVar->Option AR
 | .tmp t=>(match dS st.fr t with
   | .r x=>some x
   | _=>none)
 | .cell a T=>(match dS st.fr a,Γ.get T with
   | .r (.c (.ptr o 0)),some ti=>(match ct st.h o with
    | some (.box cells)=>(match ti.agg,Nat.beq cells.length ti.size,cells with
      | true,true,cs=>some (.agg cs)
      | false,true,[c]=>some (.c c)
      | _,_,_=>none)
    | _=>none)
   | _,_=>none)
def Al (Γ:Env)(st:St):List ResultVar->Option (List AR)
 | []=>some []
 | rv::rvs=>(match LT Γ st rv,Al Γ st rvs with
   | some x,some xs=>some (x::xs)
   | _,_=>none)
def LC (v:AV)(st:St)(r:Res):Prop:=sl (r.os 0)=true/\Leq true ⟨[(0,v)],st.h,st.u⟩ ⟨[(0,r.av 0)],r.us 0,[0]⟩
def Nc (Γ:Env)(rvs:List ResultVar)(r:Res)(st:St):Prop:=
 match Al Γ st rvs with|some [x]=>BH x/\LC (.r x) st r|some xs=>wh xs/\LC (.tup xs) st r|none=>False
def fin (Γ:Env)(rvs:List ResultVar)(st:St)(r:Res):Prop:=jg (jd st.h []) st (Nc Γ rvs r)
def Mu (Γ:Env)(rvs:List ResultVar)(r:Res):Out->St->Prop
 | .exit _,_=>False
 | .pan _,_=>False
 | _,st=>fin Γ rvs st r
def Dv (Γ:Env)(rvs:List ResultVar)(r:AV)(h1:List (Id×AO))(st:St):Prop:=
 match Al Γ st rvs with|some [x]=>Leq false ⟨[(0,.r x)],st.h,st.u⟩ ⟨[(0,r)],h1.map (fun p=>(p.1,some p.2)),[1,0]⟩|some xs=>Leq false ⟨[(0,.tup xs)],st.h,st.u⟩ ⟨[(0,r)],h1.map (fun p=>(p.1,some p.2)),[1,0]⟩|none=>False
def Mr (Γ:Env)(rvs:List ResultVar)(r:AV)(h1:List (Id×AO)):Out->St->Prop
 | .exit _,_=>False
 | .pan _,_=>False
 | _,st=>jg (jd st.h []) st (Dv Γ rvs r h1)
structure Obl (p:Prop):Prop where
 out:p
theorem Gt {P:Program}{f:FuncId}{H:Id->Option AO}{xs:List AV}{ts:List TV}{r:Res}{K:List TV->Res->Prop}(h:Sim.Spec P f ts r)(h1:eS H xs ts)(h2:K ts r):∃ts r,eS H xs ts/\Sim.Spec P f ts r/\K ts r:=
 ⟨ts,r,h1,h,h2⟩
theorem Es {P:Program}{f:FuncId}{nm:Nat}{args:List AV}{H:Id->Option AO}{K:Eff->Prop}{X:Prop}{xs:List AV}{h0:List (Id×AO)}{r:AV}{h1:List (Id×AO)}(h:bd P f xs h0 r h1)
  (h2:KJ H [] [] args xs fun θ bw=>maO H θ bw h0 fun θ bw=>(okI θ bw h0&&okJ h0 r h1&&(bw.isEmpty||(Ll r&&wX h1)))=true/\K ⟨r.re θ nm,usG θ nm h1,some nm,(θ.map (·.2))++(bw++args.flatMap AV.ids)⟩):X\/KF P f nm args H K:=
 .inr ⟨xs,h0,r,h1,h,h2⟩
theorem ai {p q:Prop}(h:p)(k:q):p/\q:=And.intro h k
theorem oi {p q:Prop}(h:Obl p)(k:q):p/\q:=And.intro h.out k
theorem fi {b:Bool}{X Y:Prop}(h1:b=true->X)(h2:b=false->Y):ifB b X Y:=In h1 h2
theorem ci {P:Program}{f:FuncId}{H:Id->Option AO}{xs:List AV}{ts:List TV}{r:Res}{K:List TV->Res->Prop}(h:Sim.Spec P f ts r)(h1:eS H xs ts)(h2:K ts r):∃ts r,eS H xs ts/\Sim.Spec P f ts r/\K ts r:=Gt h h1 h2
theorem cl {P:Program}{f:FuncId}{H:Id->Option AO}{xs:List AV}{ts:List TV}{r:Res}{K:List TV->Res->Prop}{X:Prop}(h:Sim.Spec P f ts r)(h2:K ts r)(h1:eS H xs ts:=by first|((repeat' (first|exact trivial|refine And.intro ?_ ?_|exact rfl));done)|fail):(∃ts r,eS H xs ts/\Sim.Spec P f ts r/\K ts r)\/X:= .inl ⟨ts,r,h1,h,h2⟩
theorem cg {P:Program}{f:FuncId}{nm:Nat}{args:List AV}{H:Id->Option AO}{K:Eff->Prop}{X:Prop}{xs:List AV}{h0:List (Id×AO)}{r:AV}{h1:List (Id×AO)}(h:bd P f xs h0 r h1)
  (h2:KJ H [] [] args xs fun θ bw=>maO H θ bw h0 fun θ bw=>(okI θ bw h0&&okJ h0 r h1&&(bw.isEmpty||(Ll r&&wX h1)))=true/\K ⟨r.re θ nm,usG θ nm h1,some nm,(θ.map (·.2))++(bw++args.flatMap AV.ids)⟩):X\/KF P f nm args H K:=Es h h2
theorem Wm {α:Type}{p:α->Prop}{a:α}{l:List α}(h:p a)(t:∀x∈l,p x):∀x∈a::l,p x:=List.forall_mem_cons.2 ⟨h,t⟩
theorem KO {p:Prop}(h:p:=by first|((with_reducible show yh _ _=true);kernel_rfl)|((with_reducible show xR _ _=true);kernel_rfl)|rfl|exact trivial|((repeat' (first|exact trivial|refine And.intro ?_ ?_));done)|decide|((repeat' (first|exact List.forall_mem_nil _|refine Wm rfl ?_));done)|(refine And.intro ?_ ?_<;>simp only[d9,b8,c7,e7]<;>omega)|fail):p:=h
theorem KP {p:Prop}(h:p:=by first|((with_reducible show yh _ _=true);kernel_rfl)|((with_reducible show xR _ _=true);kernel_rfl)|rfl|exact trivial|((repeat' (first|exact trivial|refine And.intro ?_ ?_));done)|decide|((repeat' (first|exact List.forall_mem_nil _|refine Wm rfl ?_));done)|fail):p:=h
theorem KW {k:IntKind}{a b:Int}(h:a=b:=by first|rfl|(simp(disch:=omega)only[c6];done)|((try simp(disch:=omega)only[c6]);omega)):Tr.int k a=Tr.int k b:=congrArg (Tr.int k) h
theorem KX {p:Prop}(h:False:=by simp only[n7,j7]at *;omega):p:=h.elim
theorem KK {p:Prop}(h:False:=by simp only[x7,x5,ne_eq,j7,n7]at *;omega):p:=h.elim
theorem KN {p:Prop}(h:False:=by simp only[d9,c7,e7,x7,x5,ne_eq,j7,n7]at *;omega):p:=h.elim
section
variable {P:Program} {Γ:Env} {N B:Nat} {M:Nat->Prop} {w0:Start} {w:World} {ρ:Rho} {st N5:St} {a:Act}
theorem AA {ok:Nat->Prop}{v:Value}{x:AC}(h:Fl x)(hv:RC B ρ w ok v x):RC B ρ w (okF B ok true) v x:=by
 cases x with
 | t x=>cases x with|lst=>exact h.elim|int k n=>exact RT.flat hv s_|bool b=>exact RT.flat hv s_|str b=>exact RT.flat hv s_
 | f x=>exact RT.up (show RT w (okF B ok true) v x from hv) fun b hb=>⟨hb,hb.2⟩
 | nils sz=>exact hv
 | nilp=>exact hv
 | own o=>exact hv
 | sub o k=>exact hv
 | ptr o k=>exact hv
 | opq=>exact hv
 | mpv o=>exact hv
theorem za {ok:Nat->Prop}:∀{vs:List Value} {xs:List AC},CD xs->RCs B ρ w ok vs xs->RCs B ρ w (okF B ok true) vs xs
 | [],[],_,_=>trivial
 | _::_,_::_,h,hv=>⟨AA h.1 hv.1,za h.2 hv.2⟩
 | [],_::_,_,h=>h.elim
 | _::_,[],_,h=>h.elim
theorem tT {ok:Nat->Prop}{v:Value}{x:AR}(h:BH x)(hv:RR B ρ w ok v x):RR B ρ w (okF B ok true) v x:=by cases x with|c x=>exact AA h hv|agg cs=>obtain⟨us,e,hu⟩:=hv;exact⟨us,e,za h hu⟩
theorem qP {ok:Nat->Prop}:∀{vs:List Value} {xs:List AR},wh xs->RRs B ρ w ok vs xs->RRs B ρ w (okF B ok true) vs xs
 | [],[],_,_=>trivial
 | _::_,_::_,h,hv=>⟨tT h.1 hv.1,qP h.2 hv.2⟩
 | [],_::_,_,h=>h.elim
 | _::_,[],_,h=>h.elim
theorem ss:∀{l:List (Id×AO)} {o:Id} {x:AO},sl l=true->(o,x)∈l->ct (l.map fun p=>(p.1,some p.2)) o=some x
 | [],_,_,_,h=>by cases h
 |(i,y)::l,o,x,h,hm=>by
  simp only[sl,c9,u9,F6]at h;rw[n9,ct];rcases d6.1 hm with he|Sq
  ·injection he with e1 e2;subst e1;subst e2;rw[idEq_iff.2 rfl];rfl
  ·cases hb:fQ o i with|true=>have:=idEq_iff.1 hb;subst this;exact absurd (idEq_iff.2 rfl) (h.1 (o,x) Sq)|false=>exact ss h.2 Sq
theorem Conc.alone (hc:Conc N B M w0 ρ st.fs a w){v:Value}{x:AV}(hv:RV B ρ w (okB ρ st.fs.H w) v x)(hi:∀o∈x.ids,st.fs.U o.1):Conc 1 B M w0 ρ (St.fs ⟨[(0,x)],st.h,st.u⟩) ⟨#[v],w0.df⟩ w:=by
 refine⟨rfl,rfl,fun t=>?_,hc.obj,hc.sep,hc.rng,hc.keep,hc.base,hc.alw,hc.cst,hc.M8,fun t o ho=>?_,hc.usedH⟩
 ·show RV _ _ _ _ _ (bif Nat.beq t 0 then x else .unk)
  cases t with|zero=>exact hv|succ t=>trivial
 ·have ho:o∈(bif Nat.beq t 0 then x else .unk).ids:=ho
  cases t with|zero=>exact hi o ho|succ t=>have:o∈AV.ids .unk:=ho;simp[AV.ids]at this
theorem Bi {r:Res}{v:Value}{x:AV}(hM:∀b,¬M b)(hX:∀o,w0.fx o=none)(hc:Conc N B M w0 ρ st.fs a w)(h:LC x st r)(hv:RV B ρ w (okB ρ st.fs.H w) v x)(Pv:RV B ρ w (okF B (okB ρ st.fs.H w) true) v x)(hi:∀o∈x.ids,st.fs.U o.1):yr B w v r:=by
 obtain⟨h1,h2⟩:=h;obtain⟨ρ',N6,hk,hS⟩:=h2.ok' (M:=M) (fun _=>⟨hM,hX⟩) (fun o v hv=>by rw[hX]at hv;cases hv) (hc.alone hv hi);have ct:∀o y,(o,y)∈r.os 0->(St.fs ⟨[(0,r.av 0)],r.us 0,[0]⟩).H o=some y:=fun o y hm=>ss h1 hm;refine⟨ρ',okF B (okB ρ' (St.fs ⟨[(0,r.av 0)],r.us 0,[0]⟩).H w) true,fun b hb=>⟨hb.1.1.1,hb.2 rfl⟩,?_,fun o y hm=>?_,fun o o' y y' hm Rj Ow b hb OO=>N6.sep o o' y y' b (ct o y hm) (ct o' y' Rj) Ow (.inl hb) (.inl OO)⟩
 ·exact hS 0 v _ _ (fun b hb=>⟨hk b hb.1,hb.2⟩) Pv
 ·have ho:=ct o y hm;obtain⟨sz,rows,rfl⟩:=BZ hm;refine⟨?_,fun b hb=>?_⟩
  ·obtain⟨hu,PY⟩:=N6.obj o _ ho;refine⟨hu,?_⟩;rcases PY with h|⟨b,cap,cur,e,fz,k1,k2,k3,k4,k5,k6,k7,k8⟩
   ·exact .inl h
   ·exact .inr ⟨b,cap,cur,e,fz,k1,k2,k3,k4,k5,k6,k7.keep fun b hb=>⟨rfl,hb,hb.2⟩,k8⟩
  ·have:=N6.rng o _ b ho (.inl hb);refine⟨this.2.resolve_right (hM b),this.1,fun N7=>N7.1.2 o _ ho (.inl hb)⟩
abbrev yu (tmps:Array Value)(rv:ResultVar):Sem Value:=match rv with
 | .tmp t=>pure (tmps.getD t undef)
 | .cell a t=>do loadVar t (←asAddr (tmps.getD a undef))
theorem Mf (hΓ:Γ.chk P=true)(hc:Conc N B M w0 ρ st.fs a w){rv:ResultVar}{x:AR}(h:LT Γ st rv=some x):
  ∃v,(yu a.tmps rv).run P w= .ok v w/\RR B ρ w (okB ρ st.fs.H w) v x/\∀o∈x.ids,st.fs.U o.1:=by
 cases rv with
 | tmp t=>
  simp only[LT]at h;split at h
  ·rename_i y hy;injection h with h;subst h;have hs:=hc.slot t;rw[show st.fs.L t= .r y from hy]at hs;exact⟨_,rfl,hs,fun o ho=>hc.usedL t o (by rw[show st.fs.L t= .r y from hy];exact ho)⟩
  ·cases h
 | cell t T=>
  simp only[LT]at h;split at h
  ·rename_i o ti hl hT;split at h
   ·rename_i cells hh;obtain⟨i,d,fit⟩:=Env.fit hΓ hT;obtain⟨b,us,t',fz,g1,g2,g3,g4,g5⟩:=hc.box (q:=o) hh;have hs:=hc.slot t;rw[show st.fs.L t= .r (.c (.ptr o 0)) from hl]at hs;obtain⟨b',e1,e2⟩:=hs;rw[g1]at e1;injection e1 with e1;injection e1 with e1;injection e1 with e1;subst e1;have RP:∀o'∈cells.flatMap AC.ids,st.fs.U o'.1:=(hc.usedH o _ hh).2;have WC:(asAddr (a.tmps.getD t undef)).run P w= .ok (⟨b,0,none⟩:Addr) w:=(by rw[e2];rfl);split at h
    ·rename_i cs ha hb;injection h with h;subst h;have N1:us.toList.length=ti.size:=(by rw[g4.length];simpa using hb);have h1:=run_loadCells_list (P:=P) w ⟨b,0,none⟩ us.toList g5;rw[N1,<-fit.size]at h1;refine⟨.agg us.toList.toArray,?_,⟨_,rfl,by simpa using g4⟩,RP⟩;simp only[yu,m8,WC,i7];simp[loadVar,kl fit.und,fit.agg,ha,cI fit.info,h1]
    ·rename_i c ha hb;injection h with h;subst h;obtain⟨u,hu,Ty⟩:=g4.get 0 c rfl;have Ox:=g5 0 u hu;rw[fJ]at Ox;refine⟨u,?_,Ty,fun o ho=>RP o (by simpa using(show o∈c.ids from ho))⟩;simp only[yu,m8,WC,i7];simp[loadVar,kl fit.und,fit.agg,ha,run_load,Ox]
    ·cases h
   ·cases h
  ·cases h
theorem oP (hΓ:Γ.chk P=true)(hc:Conc N B M w0 ρ st.fs a w):∀{rvs:List ResultVar} {xs:List AR},Al Γ st rvs=some xs->
  ∃vs,(rvs.mapM (yu a.tmps)).run P w= .ok vs w/\RRs B ρ w (okB ρ st.fs.H w) vs xs/\∀o∈xs.flatMap AR.ids,st.fs.U o.1
 | [],xs,h=>by
  simp only[Al,Option.some.injEq]at h;subst h
  exact⟨[],s_,trivial,s_⟩
 | rv::rvs,xs,h=>by
  simp only[Al]at h;split at h
  ·rename_i x YO h1 h2;injection h with h;subst h;obtain⟨v,g1,g2,g3⟩:=Mf hΓ hc h1;obtain⟨vs,g4,g5,g6⟩:=oP hΓ hc h2;refine⟨v::vs,?_,⟨g2,g5⟩,fun o ho=>?_⟩
   ·rw[List.mapM_cons,m8,g1,i7,m8,g4,i7,p7]
   ·simp only[s8,f0]at ho;exact ho.elim (g3 o) (g6 o)
  ·cases h
theorem lC {fn:Func}{a:Act}{vs:List Value}(P7:(fn.results.toList.mapM (yu a.tmps)).run P w= .ok vs w):(results fn a.tmps).run P w= .ok (if h:vs.length=1 then vs[0]else .tuple vs.toArray) w:=by unfold results;rw[show fn.results=fn.results.toList.toArray by simp];simp only[List.mapM_toArray,bind_map_left,m8];refine(congrArg (fun x=>Result.andThen x _) P7).trans ?_;simp only[i7,p7,A7,List.getElem_toArray]
theorem V94{p:Prop}(h:p:=by
 intro hl;obtain⟨v,rfl⟩:=List.length_eq_one_iff.1 hl
 match xs,g2,Ow with
 | [x],_,Ow=>exact Ow x rfl
 | [],g2,_=>exact g2.elim
 | _::_::_,g2,_=>exact g2.2.elim):p:=h
theorem Lv {r:Res}{fn:Func}(hΓ:Γ.chk P=true)(hM:∀b,¬M b)(hX:∀o,w0.fx o=none)(hc:Conc N B M w0 ρ st.fs a w)(h:Nc Γ fn.results.toList r st):
  ∃v,(results fn a.tmps).run P w= .ok v w/\yr B w v r:=by
 unfold Nc at h;split at h
 ·rename_i x hx;obtain⟨vs,g1,g2,g3⟩:=oP hΓ hc hx
  match vs,g2 with
  | [v],g2=>
   refine⟨_,lC g1,?_⟩;simp only[c7,e7,q8,dite_true,List.getElem_cons_zero]
   exact Bi hM hX hc h.2 g2.1 (tT h.1 g2.1) fun o ho=>g3 o (by simpa using(show o∈x.ids from ho))
  | [],g2=>exact g2.elim
  | _::_::_,g2=>exact g2.2.elim
 ·rename_i xs Ow hx;obtain⟨vs,g1,g2,g3⟩:=oP hΓ hc hx;refine⟨_,lC g1,?_⟩
  have hl:¬vs.length=1:=by exact V94
  rw[dif_neg hl];exact Bi hM hX hc h.2 ⟨_,rfl,by simpa using g2⟩ ⟨_,rfl,by simpa using qP h.1 g2⟩ g3
 ·exact h.elim
theorem Kc {r:Res}{fn:Func}(hΓ:Γ.chk P=true)(hM:∀b,¬M b)(hX:∀o,w0.fx o=none)(hc:Conc N B M w0 ρ st.fs a w)(h:fin Γ fn.results.toList st r):
  ∃v,(results fn a.tmps).run P w= .ok v w/\yr B w v r:=by
 obtain⟨st1,ρ1,g1,g2,_⟩:=lr _ st _ ρ h hc fun _ _=>trivial;exact Lv hΓ hM hX g2 g1
theorem HG {r:AV}{h1:List (Id×AO)}{fn:Func}(hΓ:Γ.chk P=true)(hF:∀o v,w0.fx o=some v->o.1=0)(hc:Conc N B M w0 ρ st.fs a w)(h:jg (jd st.h []) st (Dv Γ fn.results.toList r h1)):
  ∃v ρ',(results fn a.tmps).run P w= .ok v w/\Conc 1 B M w0 ρ' (St.fs ⟨[(0,r)],h1.map (fun p=>(p.1,some p.2)),[1,0]⟩) ⟨#[v],w0.df⟩ w:=by
 obtain⟨st1,ρ1,h,hc,_⟩:=lr _ st _ ρ h hc fun _ _=>trivial;unfold Dv at h;split at h
 ·rename_i x hx;obtain⟨vs,g1,g2,g3⟩:=oP hΓ hc hx
  match vs,g2 with
  | [v],g2=>
   obtain⟨ρ2,h2⟩:=h.ok s_ hF (hc.alone (x:= .r x) g2.1 fun o ho=>g3 o (by simpa using(show o∈x.ids from ho)));refine⟨_,ρ2,lC g1,?_⟩
   simpa using h2
  | [],g2=>exact g2.elim
  | _::_::_,g2=>exact g2.2.elim
 ·rename_i xs Ow hx;obtain⟨vs,g1,g2,g3⟩:=oP hΓ hc hx
  have hl:¬vs.length=1:=by exact V94
  obtain⟨ρ2,h2⟩:=h.ok s_ hF (hc.alone (x:= .tup xs) (v:= .tuple vs.toArray) ⟨_,rfl,by simpa using g2⟩ g3);refine⟨_,ρ2,lC g1,?_⟩;rw[dif_neg hl];exact h2
 ·exact h.elim
theorem V99{p:Prop}(h:p:=by
 by_cases h1:t<i
 ·rw[d5 h1,d5 o_]
 ·rw[c8 h1,c8 o_];obtain⟨k,hk⟩:∃k,t-i=k+1:=⟨t-i-1,o_⟩;rw[hk,show t-(i+1)=k by omega]
  simp):p:=h
theorem tX:∀(ts:List TV) (i t:Nat),dS (yg i ts) t=if t<i then .unk else(match ts[t-i]? with|some x=>x.av|none=> .unk)
 | [],i,t=>by simp[yg,dS]
 | x::ts,i,t=>by
  rw[yg,dS]
  cases hb:Nat.beq t i with
  | true=>have:=r6 hb;subst this;simp
  | false=>
   have Ow:t≠i:=fun e=>by subst e;simp at hb
   rw[cond_false,tX ts (i+1) t];exact V99
theorem TV.av_ids (t:TV):t.av.ids=[]:=by
 cases t with
 | c x=>rfl
 | agg xs=>
  show(xs.map AC.t).flatMap AC.ids=[]
  induction xs with
  | nil=>rfl
  | cons x xs ih=>simp[AC.ids]
theorem RTs.toT {ok:Nat->Prop}:∀{vs:List Value} {ts:List Tr},RTs w ok vs ts->RCs B ρ w ok vs (ts.map .t)
 | [],[],_=>trivial
 | _::_,_::_,h=>⟨h.1,RTs.toT h.2⟩
 | [],_::_,h=>h.elim
 | _::_,[],h=>h.elim
theorem RTV.toRV {ok:Nat->Prop}{v:Value}{t:TV}(h:RTV w ok v t):RV B ρ w ok v t.av:=by cases t with|c x=>exact h|agg xs=>obtain⟨us,e,h⟩:=h;exact⟨us,e,h.toT⟩
theorem RTVs.len {ok:Nat->Prop}:∀{vs:List Value} {ts:List TV},RTVs w ok vs ts->vs.length=ts.length
 | [],[],_=>rfl
 | _::vs,_::ts,h=>by simp[RTVs.len (vs:=vs) (ts:=ts) h.2]
 | [],_::_,h=>h.elim
 | _::_,[],h=>h.elim
theorem RTVs.get {ok:Nat->Prop}:∀{vs:List Value} {ts:List TV},RTVs w ok vs ts->∀(i:Nat) v t,vs[i]?=some v->ts[i]?=some t->RTV w ok v t
 | [],[],_,i,v,t,h,_=>by simp at h
 | _::_,_::_,h,0,v,t,h1,h2=>by simp at h1 h2;subst h1;subst h2;exact h.1
 | _::_,_::_,h,i+1,v,t,h1,h2=>RTVs.get h.2 i v t aal aaf
 | [],_::_,h,_,_,_,_,_=>h.elim
 | _::_,[],h,_,_,_,_,_=>h.elim
theorem rx {ts:List TV}{vs:Array Value}{w:World}(h:RTVs w (fun b=>b<w.heap.size) vs.toList ts)(hN:ts.length<=N):
  Conc N w.heap.size (fun _=>False) ⟨w,fun _=>True,fun _=>none,[]⟩ ⟨fun _=>undef,fun _ _=>False,fun _=>True⟩ (st0 ts).fs {tmps:=vs++Array.replicate (N-vs.size) undef,defers:=[]} w:=by
 have hl:vs.size=ts.length:=by simpa using h.len
 refine⟨by simp;omega,rfl,fun t=>?_,fun o x ho=>(by cases ho),fun o o' x x' b ho=>(by cases ho),fun o x b ho=>(by cases ho),⟨rfl,rfl,rfl,d7 _,fun _ _ _=>rfl⟩,d7 _,fun _ _=>trivial,rfl,fun _ _ h=>aaC,fun t o ho=>?_,fun o x ho=>by cases ho⟩
 ·show RV _ _ _ _ _ (dS (yg 0 ts) t);rw[tX,c8 o_,v3]
  cases ht:ts[t]? with
  | none=>trivial
  | some x=>
   have N2:t<vs.size:=by
    rcases l9 t ts.length with h'|h'
    ·omega
    ·rw[e9 h']at ht;cases ht
   have e:(vs++Array.replicate (N-vs.size) undef).getD t undef=vs[t]:=by rw[s9,Array.getElem?_append_left N2,w6 N2];rfl
   simp only;rw[e];have:=h.get t vs[t] x (by simp[N2]) ht;refine RV.keep (RTV.toRV (B:=w.heap.size) (ρ:=⟨fun _=>undef,fun _ _=>False,fun _=>True⟩) this) (fun b hb=>⟨rfl,⟨hb,trivial⟩,fun o x ho=>by cases ho⟩) (fun o ho=>rfl)
 ·have ho:o∈(dS (yg 0 ts) t).ids:=ho;rw[tX,c8 o_,v3]at ho
  cases ht:ts[t]? with
  | none=>rw[ht]at ho;simp[AV.ids]at ho
  | some x=>rw[ht]at ho;simp only[TV.av_ids]at ho;cases ho
theorem pT {f:FuncId}{fn:Func}{c:Code}(hf:P.funcs[f]?=some fn)(hb:fn.body=some c)(hn:(fn.name== "runtime.NumGoroutine")=false):Fb P f:=by intro args w;simp only[x5]at hn;simp[callFunc,hf,hb,hn]
theorem V20{p:Prop}(h:p:=by
 have key:fin Γ fn.results.toList N5 r->a'.defers=[]/\∃v,(results fn a'.tmps).run P w'= .ok v w'/\∃v',Ending.returned v= .returned v'/\Below w.heap.size w w'/\yr w.heap.size w' v' r:=fun OL=>by
  obtain⟨v,h1,h2⟩:=Kc (P:=P) hΓ (fun _ h=>h) (fun _=>rfl) N6 OL;exact⟨N6.defers,v,h1,v,rfl,⟨N6.keep.os,N6.keep.tape,N6.keep.output,N6.keep.size,fun k hk=>N6.keep.block k hk (fun h=>h)⟩,h2⟩
 cases e with
 | normal=>exact key hK
 | ret=>exact key hK
 | exit id=>exact hK.elim
 | pan v=>exact hK.elim):p:=h
theorem ag {f:FuncId}{fn:Func}{c:Code}{ts:List TV}{r:Res}(hΓ:Γ.chk P=true)(ay:P.follows .mixedOrders=true)(hf:P.funcs[f]?=some fn)(hb:fn.body=some c)(hn:(fn.name== "runtime.NumGoroutine")=false)
  (hN:Nat.ble ts.length fn.ntmps=true) (h:W true P Γ fn.ntmps c (Mu Γ fn.results.toList r) (st0 ts)):Spec P f ts r:=by
 refine⟨pT hf hb hn,fun w vs P7=>calls_of_wp hf hb ?_⟩;have hc:=rx (N:=fn.ntmps) P7 (D5 hN);refine Nq hΓ ay (fun _=>⟨fun _ h=>h,fun _=>rfl⟩) (fun _ _ h=>by cases h) c _ _ _ _ _ _ h hc fun e N5 ρ' a' w' hK N6=>?_;exact V20
def ym:Nat->List AV->List (Nat×AV)
 | _,[]=>[]
 | i,t::ts=>(i,t)::ym (i+1) ts
def stG (xs:List AV)(h0:List (Id×AO)):St:=⟨ym 0 xs,h0.map fun p=>(p.1,some p.2),[0]⟩
theorem rr:∀(ts:List AV) (i t:Nat),dS (ym i ts) t=if t<i then .unk else(match ts[t-i]? with|some x=>x|none=> .unk)
 | [],i,t=>by simp[ym,dS]
 | x::ts,i,t=>by
  rw[ym,dS]
  cases hb:Nat.beq t i with
  | true=>have:=r6 hb;subst this;simp
  | false=>
   have Ow:t≠i:=fun e=>by subst e;simp at hb
   rw[cond_false,rr ts (i+1) t];exact V99
theorem RVs.len {ok:Nat->Prop}:∀{vs:List Value} {ts:List AV},RVs B ρ w ok vs ts->vs.length=ts.length
 | [],[],_=>rfl
 | _::vs,_::ts,h=>by simp[RVs.len (vs:=vs) (ts:=ts) h.2]
 | [],_::_,h=>h.elim
 | _::_,[],h=>h.elim
theorem RVs.get {ok:Nat->Prop}:∀{vs:List Value} {ts:List AV},RVs B ρ w ok vs ts->∀(i:Nat) v t,vs[i]?=some v->ts[i]?=some t->RV B ρ w ok v t
 | [],[],_,i,v,t,h,_=>by simp at h
 | _::_,_::_,h,0,v,t,h1,h2=>by simp at h1 h2;subst h1;subst h2;exact h.1
 | _::_,_::_,h,i+1,v,t,h1,h2=>RVs.get h.2 i v t aal aaf
 | [],_::_,h,_,_,_,_,_=>h.elim
 | _::_,[],h,_,_,_,_,_=>h.elim
theorem ww (h0:List (Id×AO))(o:Id):ct (h0.map fun p=>(p.1,some p.2)) o=lkH h0 o:=by
 induction h0 with
 | nil=>rfl
 | cons p l ih=>simp only[n9,ct,lkH,ih]
def tG (xs:List AV)(h0:List (Id×AO))(r:AV)(h1:List (Id×AO)):Bool:=
 xs.all (fun x=>x.ids.all fun o=>Nat.beq o.1 0)&&h0.all (fun p=>Nat.beq p.1.1 0&&p.2.ids.all fun o=>Nat.beq o.1 0)
theorem uP {xs:List AV}{h0:List (Id×AO)}{vs:Array Value}{w:World}{ρ:Rho}(hn:tG xs h0 .unk []=true)(h:RVs w.heap.size ρ w (okB ρ (lkH h0) w) vs.toList xs)(hl:Lies w.heap.size ρ w h0)(OC:∀b,(w.heap.size<=b\/Ms ρ h0 b)->ρ.al b)(hN:xs.length<=N):
  Conc N w.heap.size (Ms ρ h0) ⟨w,ρ.al,fun o=>if(lkH h0 o).isSome=true then some (ρ o)else none,[]⟩ ρ (stG xs h0).fs {tmps:=vs++Array.replicate (N-vs.size) undef,defers:=[]} w:=by
 have N1:vs.size=xs.length:=by simpa using h.len
 simp only[tG,c9,q7,H5]at hn;have hH:∀o,(stG xs h0).fs.H o=lkH h0 o:=fun o=>ww h0 o;have RZ:(stG xs h0).fs.H=lkH h0:=funext hH
 have hU:∀n,(stG xs h0).fs.U n↔n=0:=fun n=>by
  show used [0] n=true↔n=0;simp only[used]
  cases hb:Nat.beq n 0 with|true=>simpa using hb|false=>simp only[cond_false,w8,false_iff];intro e;subst e;simp at hb
 have Qa:∀o x,lkH h0 o=some x->o.1=0/\∀o'∈x.ids,o'.1=0:=fun o x hx=>by
  have:=hn.2 _ (iZ hx);exact⟨by simpa using this.1,fun o' OR=>by simpa using this.2 o' OR⟩
 refine⟨by simp;omega,rfl,fun t=>?_,fun o x ho=>?_,fun o o' x x' b ho OR=>?_,fun o x b ho he=>?_,⟨rfl,rfl,rfl,d7 _,fun _ _ _=>rfl⟩,d7 _,fun b hb=>OC b hb,rfl,fun o v hv=>?_,fun t o ho=>?_,fun o x ho=>?_⟩
 ·show RV _ _ _ _ _ (dS (ym 0 xs) t);rw[rr,c8 o_,v3,RZ]
  cases ht:xs[t]? with
  | none=>trivial
  | some x=>
   have N2:t<vs.size:=by
    rcases l9 t xs.length with h'|h'
    ·omega
    ·rw[e9 h']at ht;cases ht
   have e:(vs++Array.replicate (N-vs.size) undef).getD t undef=vs[t]:=by rw[s9,Array.getElem?_append_left N2,w6 N2];rfl
   simp only;rw[e];exact h.get t vs[t] x (by simp[N2]) ht
 ·rw[hH]at ho;rw[RZ];exact hl.obj o x ho
 ·rw[hH]at ho OR;exact hl.sep o o' x x' b ho OR
 ·rw[hH]at ho;exact⟨hl.lt o x b ho he,.inr ⟨o,x,ho,he⟩⟩
 ·have hv:(if(lkH h0 o).isSome=true then some (ρ o)else none)=some v:=hv;split at hv
  ·rename_i hs;injection hv with hv;obtain⟨x,hx⟩:=Option.isSome_iff_exists.1 hs;exact⟨hv,(hU _).2 (Qa o x hx).1⟩
  ·cases hv
 ·have ho:o∈(dS (ym 0 xs) t).ids:=ho;rw[rr,c8 o_,v3]at ho
  cases ht:xs[t]? with|none=>rw[ht]at ho;simp[AV.ids]at ho|some x=>rw[ht]at ho;exact(hU _).2 (by simpa using hn.1 x (b9 ht) o ho)
 ·rw[hH]at ho;obtain⟨g1,g2⟩:=Qa o x ho;exact⟨(hU _).2 g1,fun o' OR=>(hU _).2 (g2 o' OR)⟩
theorem V73{p:Prop}(h:p:=by
 split at hv
 ·rename_i hs;obtain⟨x,hx⟩:=Option.isSome_iff_exists.1 hs;simp only[tG,c9,q7,H5]at O7;simpa using(O7.2 _ (iZ hx)).1
 ·cases hv):p:=h
theorem V5{p:Prop}(h:p:=by
 have key:jg (jd N5.h []) N5 (Dv Γ fn.results.toList r h1)->a'.defers=[]/\∃v,(results fn a'.tmps).run P w'= .ok v w'/\∃v' ρ2,Ending.returned v= .returned v'/\Keep w.heap.size (Ms ρ h0) w w'/\(∀o,(lkH h0 o).isSome=true->ρ2 o=ρ o)/\ρ2.al=ρ.al/\
   RV w.heap.size ρ2 w' (okB ρ2 (lkH h1) w') v' r/\Lies w.heap.size ρ2 w' h1/\∀o x b,lkH h1 o=some x->Own ρ2 o b->w.heap.size<=b\/Ms ρ h0 b:=fun OL=>by
  obtain⟨v,ρ2,k1,k2⟩:=HG (P:=P) hΓ hF N6 OL;have hH:∀o,(St.fs ⟨[(0,r)],h1.map (fun p=>(p.1,some p.2)),[1,0]⟩).H o=lkH h1 o:=fun o=>ww h1 o;have RZ:(St.fs ⟨[(0,r)],h1.map (fun p=>(p.1,some p.2)),[1,0]⟩).H=lkH h1:=funext hH;refine⟨N6.defers,v,k1,v,ρ2,rfl,k2.keep,fun o ho=>?_,k2.cst,?_,⟨fun o x ho=>?_,fun o o' x x' b ho OR=>?_,fun o x b ho he=>?_⟩,fun o x b ho he=>?_⟩
  ·have:=k2.M8 o (ρ o) (by show(if(lkH h0 o).isSome=true then some (ρ o)else none)=_;rw[d5 ho]);exact this.1
  ·have:=k2.slot 0;rw[RZ]at this;exact this
  ·have:=k2.obj o x aaR;rw[RZ]at this;exact this
  ·exact k2.sep o o' x x' b aaR (by rw[hH];exact OR)
  ·exact(k2.rng o x b aaR he).1
  ·exact(k2.rng o x b aaR he).2
 cases e with
 | normal=>exact key hK
 | ret=>exact key hK
 | exit id=>exact hK.elim
 | pan v=>exact hK.elim):p:=h
theorem nc {f:FuncId}{fn:Func}{c:Code}{xs:List AV}{h0:List (Id×AO)}{r:AV}{h1:List (Id×AO)}(hΓ:Γ.chk P=true)(ay:P.follows .mixedOrders=true)(hf:P.funcs[f]?=some fn)(hb:fn.body=some c)(hn:(fn.name== "runtime.NumGoroutine")=false)
  (hN:Nat.ble xs.length fn.ntmps=true) (O7:tG xs h0 .unk []=true) (h:W false P Γ fn.ntmps c (Mr Γ fn.results.toList r h1) (stG xs h0)):bd P f xs h0 r h1:=by
 refine⟨pT hf hb hn,fun w vs ρ P7 hl OC=>calls_of_wp hf hb ?_⟩;have hc:=uP (N:=fn.ntmps) O7 P7 hl OC (D5 hN)
 have hF:∀o v,(if(lkH h0 o).isSome=true then some (ρ o)else none)=some v->o.1=0:=fun o v hv=>by
  exact V73
 refine Nq hΓ ay s_ hF c _ _ _ _ _ _ h hc fun e N5 ρ' a' w' hK N6=>?_;exact V5
end
def Ny:AV->Prop
 | .r x=>BH x
 | .tup xs=>wh xs
 | _=>False
theorem AD {P:Program}{f:FuncId}{ts:List TV}{r:AV}{h1:List (Id×AO)}{r':Res}(h:bd P f (ts.map TV.av) [] r h1)(hu:(uu [1,0] r.ids&&usedH [1,0] (h1.map fun p=>(p.1,some p.2)))=true)(hf:Ny r)
  (hq:LC r ⟨[],h1.map fun p=>(p.1,some p.2),[1,0]⟩ r'):Spec P f ts r':=by
 refine⟨h.1,fun w vs P7=>?_⟩;have hM:∀b,¬Ms (⟨fun _=>undef,fun _ _=>False,fun _=>True⟩:Rho) [] b:=fun b hb=>by obtain⟨o,x,hx,_⟩:=hb;cases hx
 have Qw:=rx (N:=ts.length) P7 (d7 _)
 have WA:RVs w.heap.size ⟨fun _=>undef,fun _ _=>False,fun _=>True⟩ w (okB ⟨fun _=>undef,fun _ _=>False,fun _=>True⟩ (lkH []) w) vs.toList (ts.map TV.av):=by
  generalize vs.toList=l at P7;clear Qw h
  induction l generalizing ts with
  | nil=>cases ts with
   | nil=>trivial
   | cons _ _=>exact P7.elim
  | cons v l ih=>cases ts with
   | nil=>exact P7.elim
   | cons t ts=>exact⟨RV.keep (RTV.toRV (B:=w.heap.size) (ρ:=⟨fun _=>undef,fun _ _=>False,fun _=>True⟩) P7.1) (fun b hb=>⟨rfl,⟨hb,trivial⟩,fun o x ho=>by cases ho⟩) (fun o ho=>rfl),ih P7.2⟩
 refine(h.2 w vs ⟨fun _=>undef,fun _ _=>False,fun _=>True⟩ WA ⟨fun o x ho=>(by cases ho),fun o o' x x' b ho=>(by cases ho),fun o x b ho=>(by cases ho)⟩ (fun _ _=>trivial)).mono fun e w' he=>?_;obtain⟨v,ρ',e1,k,_,OC,hv,hl,hb⟩:=he;refine⟨v,e1,⟨k.os,k.tape,k.output,k.size,fun q hq=>k.block q hq (hM q)⟩,?_⟩;simp only[c9]at hu;have hH:∀o,(St.fs ⟨[(0,r)],h1.map (fun p=>(p.1,some p.2)),[1,0]⟩).H o=lkH h1 o:=fun o=>ww h1 o;have RZ:(St.fs ⟨[(0,r)],h1.map (fun p=>(p.1,some p.2)),[1,0]⟩).H=lkH h1:=funext hH
 have hc:Conc 1 w.heap.size (Ms (⟨fun _=>undef,fun _ _=>False,fun _=>True⟩:Rho) []) ⟨w,ρ'.al,fun _=>none,[]⟩ ρ' (St.fs ⟨[(0,r)],h1.map (fun p=>(p.1,some p.2)),[1,0]⟩) ⟨#[v],[]⟩ w':=by
  refine⟨rfl,rfl,fun t=>?_,fun o x ho=>?_,fun o o' x x' b ho OR=>?_,fun o x b ho OX=>?_,k,k.size,fun b _=>by rw[OC];trivial,rfl,fun _ _ h=>aaC,fun t o ho=>?_,fun o x ho=>?_⟩
  ·rw[RZ];show RV _ _ _ _ _ (bif Nat.beq t 0 then r else .unk)
   cases t with|zero=>exact hv|succ t=>trivial
  ·rw[RZ]at *;exact hl.obj o x ho
  ·rw[RZ]at *;exact hl.sep o o' x x' b ho OR
  ·rw[RZ]at *;exact⟨hl.lt o x b ho OX,hb o x b ho OX⟩
  ·have ho:o∈(bif Nat.beq t 0 then r else .unk).ids:=ho
   cases t with|zero=>exact mo hu.1 o ho|succ t=>have:o∈AV.ids .unk:=ho;simp[AV.ids]at this
  ·exact rQ hu.2 o x (kV ho)
 refine Bi hM (fun _=>rfl) (st:=⟨[(0,r)],h1.map (fun p=>(p.1,some p.2)),[1,0]⟩) hc hq (by rw[RZ];exact hv) ?_ fun o ho=>mo hu.1 o ho;rw[RZ]
 cases r with|r x=>exact tT hf hv|tup xs=>obtain⟨us,e,VK⟩:=hv;exact⟨us,e,qP hf VK⟩|el o sz i off=>exact hf.elim|ro fr row off=>exact hf.elim|unk=>exact hf.elim
theorem Fo {P:Program}{f:FuncId}{ts:List TV}{sz:Nat}{rows:List (List Tr)}(h:bd P f (ts.map TV.av) [] (.r (.c (.own (1,0,0)))) [((1,0,0),.dar sz (aq rows) none)]):Spec P f ts (.r (.c (.arr sz rows))):=by refine AD h rfl trivial ⟨rfl,rfl,?_⟩;exact⟨rfl,rfl,rfl,rfl⟩
end Go.Sim
namespace Go.Sim
open Go.RowKit Go.ChangeShapes Go.WideShapes Go.ChangeAt
def HZ (okT:TypeId->Bool):Nat->List (Nat×Nat×TypeId)->Nat->Bool
 | o,[],sz=>Nat.beq o sz
 | o,(off,s,t)::r,sz=>Nat.beq off o&&okT t&&HZ okT (o+s) r sz
def okT (Γ:Env):Nat->TypeId->Bool
 | 0,_=>false
 | n+1,t=>match Γ.get t with
  | none=>false
  | some ti=>match ti.kind,ti.bool||ti.str,ti.elem,ti.fields with
   | some _,_,_,_=>Nat.beq ti.size 1
   | none,true,_,_=>Nat.beq ti.size 1
   | none,false,some e,_=>Nat.beq ti.size 1&&okT Γ n e
   | none,false,none,f::fs=>HZ (okT Γ n) 0 (f::fs) ti.size
   | none,false,none,[]=>false
def BE (T:TypeId->List Tr->Prop):List (Nat×Nat×TypeId)->List Tr->Prop
 | [],ts=>ts=[]
 |(_,_,t)::fs,ts=>∃xs rest,ts=xs++rest/\T t xs/\BE T fs rest
def eN (Γ:Env)(t:TypeId):Nat:=match Γ.get t with|some ti=>ti.size|none=>0
def qu (Γ:Env):Nat->TypeId->List Tr->Prop
 | 0,_,_=>False
 | n+1,t,ts=>match Γ.get t with
  | none=>False
  | some ti=>match ti.kind,ti.bool,ti.str,ti.elem with
   | some k,_,_,_=>∃m,ts=[.int k m]/\(Lit.int k m).wf=true
   | none,true,_,_=>∃b,ts=[.bool b]
   | none,false,true,_=>∃s:List UInt8,ts=[.str s]/\s.length<=maxLen
   | none,false,false,some e=>∃rows,ts=[.lst (eN Γ e) rows]/\rows.length<=maxLen/\∀r∈rows,qu Γ n e r
   | none,false,false,none=>BE (qu Γ n) ti.fields ts
def Ct (Γ:Env)(n:Nat)(t:TypeId)(x:TV):Prop:=
 match Γ.get t with
 | none=>False
 | some ti=>match ti.agg with
  | true=>∃xs,x= .agg xs/\qu Γ n t xs
  | false=>∃y,x= .c y/\qu Γ n t [y]
def rC (Γ:Env)(n:Nat):List TypeId->List TV->Prop
 | [],[]=>True
 | t::ts,x::xs=>Ct Γ n t x/\rC Γ n ts xs
 | _,_=>False
section
variable {H:Type} {enc:TypeId×Value->H} {P:Program} {Γ:Env} {w:World} {sp:Nat->Bool} {TS:Bool}
theorem ET (s:ByteArray):s=⟨s.data.toList.toArray⟩:=by cases s;simp
theorem Gy (hΓ:Γ.chk P=true):∀(n:Nat) (t:TypeId) (fuel:Nat) (cs:List Value) (x:DataW H×List MemPlace),okT Γ n t=true->DataW.trod enc P w 0 sp TS fuel t cs=some x->
  ∃ts,RTs w (fun b=>b<w.heap.size) cs ts/\qu Γ n t ts/\ts.length=eN Γ t:=by
 intro n
 induction n with
 | zero=>intro t fuel cs x h;simp[okT]at h
 | succ n ih=>
  intro t fuel cs x N7 hx;simp only[okT]at N7
  cases hT:Γ.get t with
  | none=>rw[hT]at N7;simp at N7
  | some ti=>
   obtain⟨i,d,fit⟩:=Env.fit hΓ hT;rw[hT]at N7;simp only at N7;simp only[qu,hT,eN]
   cases d with
   | int k=>
    obtain⟨m,rfl,rfl,hw⟩:=DataW.trod_int fit.und hx;have hk:ti.kind=some k:=fit.kind.symm;simp only[hk,G2]at N7⊢
    exact⟨[.int k m],⟨.int k m,trivial⟩,⟨m,rfl,hw⟩,N7.symm⟩
   | bool=>
    obtain⟨b,rfl,rfl⟩:=DataW.trod_bool fit.und hx;have hk:ti.kind=none:=fit.kind.symm;have hb:ti.bool=true:=fit.bool.symm;simp only[hk,hb,I3,G2]at N7⊢
    exact⟨[.bool b],⟨.bool b,trivial⟩,⟨b,rfl⟩,N7.symm⟩
   | string=>
    obtain⟨s,rfl,rfl,hs⟩:=DataW.trod_string fit.und hx;have hk:ti.kind=none:=fit.kind.symm;have hb:ti.bool=false:=fit.bool.symm;have O4:ti.str=true:=fit.str.symm;simp only[hk,hb,O4,I2,G2]at N7⊢;refine⟨[.str s.data.toList],⟨?_,trivial⟩,⟨_,rfl,by simpa using hs⟩,N7.symm⟩;have:=RT.str (w:=w) (ok:=fun b=>b<w.heap.size) s.data.toList
    rwa [<-ET s]at this
   | slice e=>
    have hk:ti.kind=none:=fit.kind.symm;have hb:ti.bool=false:=fit.bool.symm;have O4:ti.str=false:=fit.str.symm;have he:ti.elem=some e:=fit.elem.symm;simp only[hk,hb,O4,he,Bool.or_self,c9,G2]at N7⊢;obtain⟨UZ,N7⟩:=N7;rcases DataW.trod_slice fit.und hx with⟨rfl,rfl⟩|⟨a,len,cap,elems,rest,m,rfl,rfl,rfl,_,N1,Xj,Pq,Rz,_,_⟩
    ·exact⟨[.lst (eN Γ e) []],⟨.emp _ _ _ (by simp[maxLen]),trivial⟩,⟨[],rfl,s_,s_⟩,UZ.symm⟩
    ·have PG:P.cellsOf e=eN Γ e/\eN Γ e≠0:=by
      cases hE:Γ.get e with
      | none=>cases n<;>simp[okT,hE]at N7
      | some te=>obtain⟨ie,de,fite⟩:=Env.fit hΓ hE;simp only[Program.cellsOf,fite.info,s6,B1,eN,hE];exact⟨fite.size,fite.pos⟩
     have OB:∀j,j<len->∃us row,us.length=P.cellsOf e/\(∀p,p<P.cellsOf e->w.cell? (a.add (j*P.cellsOf e+p))=us[p]?)/\RTs w (fun b=>b<w.heap.size) us row/\qu Γ n e row/\row.length=eN Γ e:=by intro j hj;have h1:=Rz j hj;have h2:j<elems.length:=o_;rw[f9 h2]at h1;obtain⟨us,g1,g2⟩:=Option.bind_eq_some_iff.1 h1;obtain⟨_,g3,g4⟩:=World.cells?_some g1;obtain⟨row,g5,g6,g7⟩:=ih e m us _ N7 g2;exact⟨us,row,g3,fun p hp=>by rw[<-pD];exact g4 p hp,g5,g6,g7⟩
     obtain⟨f,hf⟩:∃f:Nat->List Value×List Tr,∀j,j<len->(f j).1.length=P.cellsOf e/\(∀p,p<P.cellsOf e->w.cell? (a.add (j*P.cellsOf e+p))=(f j).1[p]?)/\RTs w (fun b=>b<w.heap.size) (f j).1 (f j).2/\qu Γ n e (f j).2/\(f j).2.length=eN Γ e:=by refine⟨fun j=>if h:j<len then(⟨(OB j h).choose,(OB j h).choose_spec.choose⟩)else([],[]),fun j hj=>?_⟩;simp only[dif_pos hj];exact(OB j hj).choose_spec.choose_spec
     let rows:=(List.range len).map fun j=>(f j).2
     let us:=((List.range len).map fun j=>(f j).1).flatten
     have Pl:∀r∈rows,r.length=eN Γ e/\qu Γ n e r:=by intro r hr;obtain⟨j,hj,rfl⟩:=p6.1 hr;have:=hf j aax;exact⟨this.2.2.2.2,this.2.2.2.1⟩
     have Pi:∀k,k<=len->RTs w (fun b=>b<w.heap.size) ((List.range k).map fun j=>(f j).1).flatten ((List.range k).map fun j=>(f j).2).flatten/\((List.range k).map fun j=>(f j).1).flatten.length=k*P.cellsOf e/\
       ∀p,p<k*P.cellsOf e->w.cell? (a.add p)=(((List.range k).map fun j=>(f j).1).flatten)[p]?:=by
      intro k
      induction k with
      | zero=>intro _;exact⟨trivial,s_,fun p hp=>by simp at hp⟩
      | succ k ihk=>
       intro Sa;obtain⟨q1,q2,q3⟩:=ihk o_;obtain⟨r1,r2,r3,_,_⟩:=hf k o_;have e1:((List.range (k+1)).map fun j=>(f j).1).flatten=((List.range k).map fun j=>(f j).1).flatten++(f k).1:=(by rw[G7];simp);have e2:((List.range (k+1)).map fun j=>(f j).2).flatten=((List.range k).map fun j=>(f j).2).flatten++(f k).2:=(by rw[G7];simp);rw[e1,e2];refine⟨RTs.append q1 r3,by rw[b8,q2,r1,o8];omega,fun p hp=>?_⟩;rcases l9 p (k*P.cellsOf e)with N2|OK
       ·rw[p9 o_];exact q3 p N2
       ·rw[u3 o_,q2];have:=r2 (p-k*P.cellsOf e) (by rw[o8]at hp;omega);rwa [show k*P.cellsOf e+(p-k*P.cellsOf e)=p by omega]at this
     obtain⟨q1,q2,q3⟩:=Pi len (d7 _);have TY:rows.length=len:=(by simp[rows]);refine⟨[.lst (eN Γ e) rows],⟨?_,trivial⟩,⟨rows,rfl,by rw[TY];omega,fun r hr=>(Pl r hr).2⟩,UZ.symm⟩
     cases z4 len with
     | inl h0=>
      have:rows=[]:=(by simp[rows,h0]);rw[this,h0]
      exact .emp _ _ _ Xj
     | inr Pp=>
      refine .lst a len cap (eN Γ e) rows us TY N1 Xj (fun r hr=>(Pl r hr).1) ?_ q1.length (fun p v hv=>?_) (fun p v u hv hu=>q1.get p v u hv hu)
      ·have VM:0<len*P.cellsOf e:=Nat.mul_pos Pp (by rw[PG.1];omega);have:=q3 0 VM;have h0:0<us.length:=(by show 0<(((List.range len).map fun j=>(f j).1).flatten).length;omega);have h2:w.cell? (a.add 0)=some us[0]:=(by rw[this];exact f9 h0);have:=World.block_lt_of_cell? w _ h2;rwa [iR]at this
      ·have hp:p<len*P.cellsOf e:=by
        rw[<-q2];rcases l9 p us.length with h'|h'
        ·exact h'
        ·rw[e9 h']at hv;cases hv
       rw[q3 p hp];exact hv
   | struct fs=>
    have hk:ti.kind=none:=fit.kind.symm;have hb:ti.bool=false:=fit.bool.symm;have O4:ti.str=false:=fit.str.symm;have he:ti.elem=none:=fit.elem.symm;simp only[hk,hb,O4,he,Bool.or_self]at N7⊢;obtain⟨xs,m,rfl,rfl,hl,Rv,QH⟩:=DataW.trod_struct fit.und hx
    have Qh:cs.length=ti.size:=by rw[hl];simp only[Program.cellsOf,fit.info,s6,B1];exact fit.size
    have YR:HZ (okT Γ n) 0 ti.fields ti.size=true:=by cases OA:ti.fields with|nil=>rw[OA]at N7;simp at N7|cons f fl=>rw[OA]at N7;exact N7
    have key:∀(l:List (Nat×Nat×TypeId)) (o:Nat),HZ (okT Γ n) o l ti.size=true->(∀f∈l,∃y,DataW.trod enc P w 0 sp TS m f.2.2 ((cs.drop f.1).take f.2.1)=some y/\P.cellsOf f.2.2=f.2.1)->o<=ti.size->
      ∃ts,RTs w (fun b=>b<w.heap.size) (cs.drop o) ts/\BE (qu Γ n) l ts/\ts.length=ti.size-o:=by
     intro l
     induction l with
     | nil=>
      intro o h _ _;simp only[HZ,G2]at h;have:cs.drop o=[]:=(by rw[List.drop_eq_nil_iff];omega);rw[this]
      exact⟨[],trivial,rfl,by simp;omega⟩
     | cons f l ihl=>
      obtain⟨off,s,ft⟩:=f;intro o h hr ho;simp only[HZ,c9,G2]at h;obtain⟨⟨rfl,h2⟩,h3⟩:=h;obtain⟨y,hy,OJ⟩:=hr (off,s,ft) s_;obtain⟨ts1,g1,g2,g3⟩:=ih ft m _ _ h2 hy;have hs:ts1.length=((cs.drop off).take s).length:=g1.length.symm
      have PG:eN Γ ft=s:=by
       cases hE:Γ.get ft with
       | none=>cases n<;>simp[okT,hE]at h2
       | some te=>obtain⟨ie,de,fite⟩:=Env.fit hΓ hE;simp only at OJ;rw[<-OJ];simp only[Program.cellsOf,fite.info,s6,B1,eN,hE];exact fite.size.symm
      have OH:off+s<=ti.size:=by
       simp only[j5,t8]at hs
       have Pp:s≠0:=by
        cases hE:Γ.get ft with
        | none=>cases n<;>simp[okT,hE]at h2
        | some te=>obtain⟨ie,de,fite⟩:=Env.fit hΓ hE;rw[<-PG];simp only[eN,hE];exact fite.pos
       omega
      obtain⟨ts2,g4,g5,g6⟩:=ihl (off+s) h3 (fun f hf=>hr f (by simp[hf])) OH;refine⟨ts1++ts2,?_,⟨ts1,ts2,rfl,g2,g5⟩,by simp;omega⟩;have e:cs.drop off=(cs.drop off).take s++cs.drop (off+s):=(by rw[<-y9,z9]);rw[e];exact RTs.append g1 g4
    have Ry:=fit.fields;simp only[lA,c9,j7]at Ry
    obtain⟨ts,g1,g2,g3⟩:=key ti.fields 0 YR (fun f hf=>by
     rw[<-Ry.1]at hf;obtain⟨F,h1,rfl⟩:=p6.1 hf;obtain⟨i,hi⟩:=B7 h1;have Yh:fs[i]?=some F:=by simpa using hi
     have N2:i<xs.length:=by
      rw[Rv];rcases l9 i fs.size with h'|h'
      ·exact h'
      ·rw[F4 h']at Yh;cases Yh
     exact⟨xs[i],by rw[QH i F Yh,f9 N2],rfl⟩) (v4 _)
    exact⟨ts,by simpa using g1,g2,by simpa using g3⟩
   | _=>have hk:ti.kind=none:=fit.kind.symm;have hb:ti.bool=false:=fit.bool.symm;have O4:ti.str=false:=fit.str.symm;have he:ti.elem=none:=fit.elem.symm;have hf:=fit.fields;simp only[lA,C7]at hf;simp[hk,hb,O4,he,hf]at N7
theorem xT (hΓ:Γ.chk P=true){r:Reach}{base n:Nat}:∀{ts:List TypeId} {vs:List Value} {ds:List (DataW H)} {ps:List MemPlace},ts.all (okT Γ n)=true->
  (∀(j:Nat) t v,ts[j]?=some t->vs[j]?=some v->Value.okWide P w r base t v)->DataW.TrodAll enc P w 0 sp TS ts vs ds ps->
  ∃xs,RTVs w (fun b=>b<w.heap.size) vs xs/\rC Γ n ts xs
 | [],vs,ds,ps,_,_,h=>by
  obtain⟨rfl,rfl,rfl⟩:=trodAll_nil h
  exact⟨[],trivial,trivial⟩
 | t::ts,vs,ds,ps,N7,hw,h=>by
  obtain⟨v,vs,d,ds,p,q,rfl,rfl,rfl,h1,h2⟩:=trodAll_cons h;simp only[G3,c9]at N7;obtain⟨xs,g1,g2⟩:=xT hΓ N7.2 (fun j t v h3 h4=>hw (j+1) t v aay aaz) h2;obtain⟨fuel,hf⟩:=h1;obtain⟨ys,g3,g4,g5⟩:=Gy hΓ n t fuel _ _ N7.1 hf;have hv:=hw 0 t v rfl rfl
  cases hT:Γ.get t with
  | none=>cases n<;>simp[okT,hT]at N7
  | some ti=>
   obtain⟨i,d',fit⟩:=Env.fit hΓ hT;have OV:=fit.agg
   cases ha:ti.agg with
   | true=>
    rw[ha]at OV
    have:∃cs,v= .agg cs:=by
     simp only[Value.okWide,fit.und]at hv
     cases d'<;>simp[ya]at OV
     ·obtain⟨cs,h,_⟩:=hv;exact⟨cs,h⟩
     ·obtain⟨cs,h,_⟩:=hv;exact⟨cs,h⟩
    obtain⟨cs,rfl⟩:=this
    exact⟨.agg ys::xs,⟨⟨cs,rfl,g3⟩,g1⟩,⟨by simp only[Ct,hT,ha];exact⟨ys,rfl,g4⟩,g2⟩⟩
   | false=>
    rw[ha]at OV
    have SH:v.cells=#[v]:=by
     have hk:=fit.kind;have hb:=fit.bool;have O4:=fit.str;have he:=fit.elem
     cases d' with
     | int k=>obtain⟨m,rfl⟩:=okWide_int fit.und hv;rfl
     | bool=>obtain⟨m,rfl⟩:=okWide_bool fit.und hv;rfl
     | string=>obtain⟨m,rfl⟩:=okWide_string fit.und hv;rfl
     | slice e=>obtain⟨a,l,c,rfl⟩:=okWide_slice fit.und hv;rfl
     | struct fs=>simp[ya]at OV
     | array m e=>simp[ya]at OV
     | _=>
      exfalso;have hf:=fit.fields;simp only[lA,C7]at hf;have h1:=N7.1
      cases n with
      | zero=>simp[okT]at h1
      | succ n=>simp only[okT,hT]at h1;simp[<-hk,<-hb,<-O4,<-he,hf,jO,Eb,zB,ED]at h1
    rw[SH]at g3
    match ys,g3 with|[y],g3=>exact⟨.c y::xs,⟨g3.1,g1⟩,⟨by simp only[Ct,hT,ha];exact⟨y,rfl,g4⟩,g2⟩⟩|[],g3=>exact g3.elim|_::_::_,g3=>exact g3.2.elim
theorem qj (hl:laidOutB P=true){W W':World}{sp':Nat->Bool}(hb:Below W.heap.size W W'):∀{ts:List TypeId} {vs:List Value} {ds:List (DataW H)} {ps:List MemPlace},
  ts.all (fun t=>P.readableRec t&&decide (t<P.types.size))=true->DataW.TrodAll enc P W 0 (fun _=>true) true ts vs ds ps->(∀p∈ps,p.block<W.heap.size)->(∀p∈ps,sp' p.block=true)->DataW.TrodAll enc P W' 0 sp' true ts vs ds ps
 | [],vs,ds,ps,_,h,_,_=>by
  obtain⟨rfl,rfl,rfl⟩:=trodAll_nil h
  rfl
 | t::ts,vs,ds,ps,hr,h,N2,hs=>by
  obtain⟨v,vs,d,ds,p,q,rfl,rfl,rfl,h1,h2⟩:=trodAll_cons h;simp only[G3,c9,j7]at hr
  exact⟨p,q,WideElems.Trod_stays hl hr.1.1 hr.1.2 h1 (fun x hx=>hb.same (N2 x aat)) (fun x hx=>hs x aat),
   qj hl hb (by simpa using hr.2) h2 (fun x hx=>N2 x aat) (fun x hx=>hs x aat),rfl⟩
theorem HV (hl:laidOutB P=true){f:FuncId}{fn:Func}{s:ChangeSpec}{W:World}{args:Array Value}{ds:List (DataW H)}{gs:List (DataW H)}{before:List MemPlace}{tb:TypeId}
  (U1:fn.resultTypes=#[tb]) (Vu:P.underlying tb=some .bool) (PV:s.vars=[]) (TT:fn.params.toList.all (fun t=>P.readableRec t&&decide (t<P.types.size))=true)
  (QS:s.fn H ds={results:=[.lit (.bool true)],args:=ds}) {xs:List TV} (hx:RTVs W (fun b=>b<W.heap.size) args.toList xs) (hs:Sim.Spec P f xs (.r (.c (.t (.bool true)))))
  (hW:DataW.Whole enc P fn.params.toList s.vars false W args.toList ds gs before):
  Calls P f args W fun e W'=>∃v,e= .returned v/\s.post enc P fn false true false false W args v W':=by
 refine(hs.2 W args hx).mono fun e W' ⟨v,he,hb,hr⟩=>⟨v,he,?_⟩;obtain⟨ρ,okp,_,hv,_⟩:=hr;have Pv:v= .bool true:=fW hv;subst Pv;have Zk:=hW;have N2:=hW.lt;rw[PV]at hW;obtain⟨p,q,hA,hV,TG,hz,hn⟩:=hW;obtain⟨rfl,rfl⟩:=trodVars_none hV
 have Wi:∀(b:Nat) (sp:Nat->Bool) (hd:Bool),DataW.TrodAll enc P W' b sp hd fn.resultTypes.toList ((Value.bool true).resultList fn.resultTypes.size) (s.fn H (ds++[])).results []:=by intro b sp hd;rw[i9,QS,U1];exact trodAll_cons_mk (shut_bool Vu _) trodAll_mk0
 refine⟨ds,[],before,[],before,[],Zk,Wi _ _ _,?_,?_,hb.frame _,fun h=>by cases h⟩
 ·rw[i9,QS];rw[i9]at TG;subst TG;exact qj hl hb TT hA N2 (fun x hx=>by simpa using N2 x hx)
 ·rw[PV,i9,QS];rfl
theorem uJ:∀{ts:List TypeId} {vs:List Value} {ds:List (DataW H)} {ps:List MemPlace},DataW.TrodAll enc P w 0 sp TS ts vs ds ps->ds.length=ts.length
 | [],vs,ds,ps,h=>by
  obtain⟨rfl,rfl,rfl⟩:=trodAll_nil h
  rfl
 | t::ts,vs,ds,ps,h=>by
  obtain⟨v,vs,d,ds,p,q,rfl,rfl,rfl,h1,h2⟩:=trodAll_cons h;simp[uJ h2]
end
theorem Ci {Γ:Env}{n:Nat}{t:TypeId}{ts:List TypeId}{xs:List TV}(h:rC Γ n (t::ts) xs):∃x YO,xs=x::YO/\Ct Γ n t x/\rC Γ n ts YO:=by cases xs with|nil=>exact h.elim|cons x xs=>exact⟨x,xs,rfl,h.1,h.2⟩
theorem Ed {Γ:Env}{n:Nat}{xs:List TV}(h:rC Γ n [] xs):xs=[]:=by cases xs with|nil=>rfl|cons x xs=>exact h.elim
theorem NY {α:Type}{l:List α}{x:TypeId}(h:l.length=#[x].toList.length):∃a,l=[a]:=by
 match l,h with
 | [a],_=>exact⟨a,rfl⟩
end Go.Sim
namespace Go.Sim
mutual
def aE (L:Int):Tr->Prop
 | .str s=>(s.length:Int)<=L
 | .lst _ rows=>(rows.length:Int)<=L/\eB L rows
 | .int _ _=>True
 | .bool _=>True
def aX (L:Int):List Tr->Prop
 | []=>True
 | c::cs=>aE L c/\aX L cs
def eB (L:Int):List (List Tr)->Prop
 | []=>True
 | r::rs=>aX L r/\eB L rs
end
theorem vn {L:Int}:∀{rows:List (List Tr)},eB L rows->∀r∈rows,aX L r
 | [],_,r,h=>by cases h
 | r0::rs,h,r,hr=>by
  rw[eB]at h;rcases d6.1 hr with rfl|hr
  ·exact h.1
  ·exact vn h.2 r hr
def IU:Tr->RC'
 | .lst sz rows=> .arr sz rows
 | .int k n=> .t (.int k n)
 | .bool b=> .t (.bool b)
 | .str s=> .t (.str s)
end Go.Sim
namespace Go.Sim
open Go.RowKit
def Ws (m:Bool)(P:Program)(Γ:Env)(N:Nat)(c:Code)(K:Out->St->Prop)(st:St):Prop:=
 Γ.chk P=true->P.follows .mixedOrders=true->∀(B:Nat) (M:Nat->Prop) (w0:Start) (ρ:Rho) (a:Act) (w:World) (Q:Exit->Act->World->Prop),
  (m=true->(∀b,¬M b)/\∀o,w0.fx o=none)->(∀o v,w0.fx o=some v->o.1=0)->Conc N B M w0 ρ st.fs a w->
  (∀e N5 ρ' a' w',K e N5->Conc N B M w0 ρ' N5.fs a' w'->Q e.at a' w')->c.wp P Q a w
theorem ME:∃F:Bool->Program->Env->Nat->Code->(Out->St->Prop)->St->Prop,F=Ws:=⟨Ws,rfl⟩
noncomputable def Wo:Bool->Program->Env->Nat->Code->(Out->St->Prop)->St->Prop:=Classical.choose ME
theorem mu:Wo=Ws:=t9 ME
theorem Mt:∃F:Bool->St->St->Prop,F=LeqG:=⟨LeqG,rfl⟩
noncomputable def Lo:Bool->St->St->Prop:=Classical.choose Mt
theorem GM:Lo=LeqG:=t9 Mt
attribute [irreducible] Wo Lo
section
variable {P:Program} {Γ:Env} {N:Nat} {m:Bool} {K:Out->St->Prop} {st N5:St} {c x y:Code}
theorem wq (h:W m P Γ N c K st):Wo m P Γ N c K st:=by rw[mu];intro hΓ ay B M w0 ρ a w Q hM hF hc hQ;exact Nq hΓ ay hM hF c K st ρ a w Q h hc hQ
theorem W6 (h:LeqG m st N5):Lo m st N5:=by rw[GM];exact h
theorem W1 (h:Wo m P Γ N x (fun e N5=>(match e with
   | .normal=>Wo m P Γ N y K N5
   | e=>K e N5)) st):Wo m P Γ N (.seq x y) K st:=by
 rw[mu]at *
 intro hΓ ay B M w0 ρ a w Q hM hF hc hQ;refine wp_seq (h hΓ ay B M w0 ρ a w _ hM hF hc fun e N5 ρ' a' w' hK N6=>?_)
 cases e with|normal=>exact hK hΓ ay B M w0 ρ' a' w' Q hM hF N6 hQ|exit id=>exact hQ (.exit id) _ _ _ _ hK N6|pan v=>exact hQ (.pan v) _ _ _ _ hK N6|ret=>exact hQ .ret _ _ _ _ hK N6
theorem mv (ι:Type)(S:ι->St)(h:Wo m P Γ N x (fun e N5=>(match e with
    | .normal=>∃i,Lo m N5 (S i)
    | e=>K e N5)) st) (h2:∀i,Wo m P Γ N y K (S i)):Wo m P Γ N (.seq x y) K st:=by
 rw[mu]at *
 rw[GM]at h;intro hΓ ay B M w0 ρ a w Q hM hF hc hQ;refine wp_seq (h hΓ ay B M w0 ρ a w _ hM hF hc fun e N5 ρ' a' w' hK N6=>?_)
 cases e with|normal=>obtain⟨i,hi⟩:=hK;obtain⟨ρ'',SZ⟩:=hi.ok hM hF N6;exact h2 i hΓ ay B M w0 ρ'' a' w' Q hM hF SZ hQ|exit id=>exact hQ (.exit id) _ _ _ _ hK N6|pan v=>exact hQ (.pan v) _ _ _ _ hK N6|ret=>exact hQ .ret _ _ _ _ hK N6
theorem W2 {id:Nat}{ops:Array Oper}{draw:Bool}(h:NP P Γ N ops.toList draw st (K .normal)):Wo m P Γ N (.region id ops draw) K st:=wq (c:= .region id ops draw) h
theorem W7 (h:K .normal st):Wo m P Γ N .skip K st:=wq (c:= .skip) h
theorem W8 {id:Nat}(h:K (.exit id) st):Wo m P Γ N (.exit id) K st:=wq (c:= .exit id) h
theorem W9 (h:K .ret st):Wo m P Γ N .ret K st:=wq (c:= .ret) h
theorem W3 {d:Operand}(h:match evL (dS st.fr) d with
   | .r (.c (.t (.bool b)))=>ifB b (Wo m P Γ N x K (zA st d true)) (Wo m P Γ N y K (zA st d false))
   | _=>False):Wo m P Γ N (.cond d x y) K st:=by
 rw[mu]at *
 intro hΓ ay B M w0 ρ a w Q hM hF hc hQ;split at h
 ·rename_i b hb;have hv:=(hc.eval d).1;rw[show evL st.fs.L d=tB b from hb]at hv;refine wp_cond (fW hv) ?_
  cases b with|true=>exact(show Ws m P Γ N x K (zA st d true) from h) hΓ ay B M w0 ρ a w Q hM hF aaM hQ|false=>exact(show Ws m P Γ N y K (zA st d false) from h) hΓ ay B M w0 ρ a w Q hM hF aaM hQ
 ·exact h.elim
theorem W4 {id:Nat}(h:Wo m P Γ N c (fun e N5=>(match e with
   | .exit id'=>(match Nat.beq id' id with
     | true=>K .normal N5
     | false=>K (.exit id') N5)
   | e=>K e N5)) st):Wo m P Γ N (.block id c) K st:=by
 rw[mu]at *
 intro hΓ ay B M w0 ρ a w Q hM hF hc hQ;refine wp_block (h hΓ ay B M w0 ρ a w _ hM hF hc fun e N5 ρ' a' w' hK N6=>?_);exact V22
theorem W5 (h:∃(ι:Type) (S:ι->St) (μ:ι->Nat) (i0:ι),Lo m st (S i0)/\∀i,Wo m P Γ N c (fun e N5=>(match e with
   | .normal=>∃j,Lo m N5 (S j)/\μ j<μ i
   | e=>K e N5)) (S i)):Wo m P Γ N (.loop c) K st:=by
  rw[mu,GM]at *
  intro hΓ ay B M w0 ρ a w Q hM hF hc hQ
  have ih:∀(K:Out->St->Prop) (st:St) (ρ:Rho) (a:Act) (w:World) (Q:Exit->Act->World->Prop),Ws m P Γ N c K st->Conc N B M w0 ρ st.fs a w->
   (∀e N5 ρ' a' w',K e N5->Conc N B M w0 ρ' N5.fs a' w'->Q e.at a' w')->c.wp P Q a w:=fun K st ρ a w Q h hc hQ=>h hΓ ay B M w0 ρ a w Q hM hF hc hQ
  exact V1
@[reducible] def Wn (m:Bool) (P:Program) (Γ:Env) (N:Nat) (K:Out->St->Prop) (st:St):Code->Prop
 | .skip=>K .normal st
 | .region _ ops draw=>(match draw with
   | false=>nG P Γ N ops.toList ops.toList st [] fun N5 _=>K .normal N5
   | true=>nG P Γ N ops.toList ops.toList st [] fun N5 log=>yh ops.toList log.reverse=true/\K .normal N5)
 | .seq x y=>Wo m P Γ N x (fun e N5=>(match e with
   | .normal=>Wo m P Γ N y K N5
   | e=>K e N5)) st
 | .cond c x y=>(match evL (dS st.fr) c with
   | .r (.c (.t (.bool b)))=>ifB b (Wo m P Γ N x K (zA st c true)) (Wo m P Γ N y K (zA st c false))
   | _=>False)
 | .block id c=>Wo m P Γ N c (fun e N5=>(match e with
   | .exit id'=>(match Nat.beq id' id with
     | true=>K .normal N5
     | false=>K (.exit id') N5)
   | e=>K e N5)) st
 | .loop c=>∃(ι:Type) (S:ι->St) (μ:ι->Nat) (i0:ι),Lo m st (S i0)/\∀i,Wo m P Γ N c (fun e N5=>(match e with
   | .normal=>∃j,Lo m N5 (S j)/\μ j<μ i
   | e=>K e N5)) (S i)
 | .exit id=>K (.exit id) st
 | .ret=>K .ret st
 | _=>False
theorem Wx (h:Wn m P Γ N K st c):Wo m P Γ N c K st:=by
 cases c with
 | skip=>exact W7 h
 | region id ops draw=>
  refine W2 ?_
  cases draw with|false=>exact h|true=>exact .inl h
 | seq x y=>exact W1 h
 | cond d x y=>exact W3 h
 | block id c=>exact W4 h
 | loop c=>exact W5 h
 | exit id=>exact W8 h
 | ret=>exact W9 h
 | label=>exact h.elim
 | _=>exact h.elim
def JM (H H':Id->Option AO)(L:Nat->AV):List (Nat×AV)->Prop
 | []=>True
 |(i,v)::r=>(v=L i\/∃c t,L i= .r (.c c)/\v= .r (.c (.t t))/\fc H c t/\∀q∈c.ids,H' q=none)/\JM H H' L r
def MI (H:Id->Option AO):List (Id×Option AO)->Prop
 | []=>True
 |(q,x)::r=>(x=none\/x=H q)/\MI H r
theorem ux {H H':Id->Option AO}{L:Nat->AV}:∀{l:List (Nat×AV)} {i:Nat} {v:AV},JM H H' L l->(i,v)∈l->v=L i\/∃c t,L i= .r (.c c)/\v= .r (.c (.t t))/\fc H c t/\∀q∈c.ids,H' q=none
 | [],_,_,_,h=>by cases h
 |(j,u)::r,i,v,h,hm=>by
  rcases d6.1 hm with e|hm
  ·injection e with e1 e2;subst e1;subst e2;exact h.1
  ·exact ux h.2 hm
theorem DB {H:Id->Option AO}:∀{l:List (Id×Option AO)} {q:Id} {x:AO},MI H l->(q,some x)∈l->H q=some x
 | [],_,_,_,h=>by cases h
 |(p,u)::r,q,x,h,hm=>by
  rcases d6.1 hm with e|hm
  ·injection e with e1 e2;subst e1;subst e2;rcases h.1 with e|e
   ·cases e
   ·exact e.symm
  ·exact DB h.2 hm
theorem pR (N5:St)(h1:JM (ct st.h) (ct N5.h) (dS st.fr) N5.fr)(h2:MI (ct st.h) N5.h)(hu:N5.u=st.u)(h:Wo m P Γ N c K N5):Wo m P Γ N c K st:=by
 rw[mu]at *
 intro hΓ ay B M w0 ρ a w Q hM hF hc hQ;refine h hΓ ay B M w0 ρ a w Q hM hF ?_ hQ;have OY:∀q x,N5.fs.H q=some x->st.fs.H q=some x:=fun q x hq=>DB h2 (kV hq);have N7:∀b,okB ρ st.fs.H w b->okB ρ N5.fs.H w b:=fun b hb=>⟨hb.1,fun o x ho=>hb.2 o x (OY o x ho)⟩
 have RP:∀t o,o∈(N5.fs.L t).ids->o∈(st.fs.L t).ids:=fun t o ho=>by
  rcases jh N5.fr t with e|hm
  ·rw[show N5.fs.L t=AV.unk from e]at ho;simp[AV.ids]at ho
  ·rcases ux h1 hm with e|⟨cc,tt,_,e2,_,_⟩
   ·exact(show N5.fs.L t=st.fs.L t from e)▸ho
   ·rw[show N5.fs.L t=_ from e2]at ho;simp[AV.ids,AR.ids,AC.ids]at ho
 refine⟨hc.size,hc.defers,fun t=>?_,fun o x ho=>?_,fun o o' x x' b ho OR=>hc.sep o o' x x' b (OY o x ho) (OY o' x' OR),fun o x b ho hb=>hc.rng o x b (OY o x ho) hb,hc.keep,hc.base,hc.alw,hc.cst,fun o v hv=>⟨(hc.M8 o v hv).1,by have:=(hc.M8 o v hv).2;simpa [St.fs,hu]using this⟩,fun t o ho=>by have:=hc.usedL t o (RP t o ho);simpa [St.fs,hu]using this,fun o x ho=>by have:=hc.usedH o x (OY o x ho);simpa [St.fs,hu]using this⟩
 ·rcases jh N5.fr t with e|hm
  ·rw[show N5.fs.L t=AV.unk from e];trivial
  ·rcases ux h1 hm with e|⟨cc,tt,e1,e2,e3,e4⟩
   ·rw[show N5.fs.L t=st.fs.L t from e];exact(hc.slot t).keep (fun b hb=>⟨rfl,N7 b hb⟩) fun _ _=>rfl
   ·rw[show N5.fs.L t=_ from e2];have hs:=hc.slot t;rw[show st.fs.L t=_ from e1]at hs;refine kA hc N7 (fun q hq x b hx hb=>?_) hs e3;have hr:=hc.rng q x b hx hb
    exact⟨⟨hr.1,hc.alw b hr.2⟩,fun o y ho OX=>by
     have Ow:o≠q:=fun e=>by
      subst e;have:=e4 o hq;rw[show ct N5.h o=some y from ho]at this
      cases this
     exact hc.sep o q y x b (OY o y ho) hx Ow OX hb⟩
 ·exact(hc.obj o x (OY o x ho)).keep (fun b hb=>⟨rfl,N7 b hb⟩) (fun _ _=>rfl) rfl (fun _ h=>h) fun _ _=>rfl
end
theorem aI {P:Program}{Γ:Env}{f:FuncId}{fn:Func}{c:Code}{ts:List TV}{r:Res}(hΓ:Γ.chk P=true)(ay:P.follows .mixedOrders=true)(hf:P.funcs[f]?=some fn)(hb:fn.body=some c)(hn:(fn.name== "runtime.NumGoroutine")=false)
  (hN:Nat.ble ts.length fn.ntmps=true) (h:Wo true P Γ fn.ntmps c (Mu Γ fn.results.toList r) (st0 ts)):Spec P f ts r:=by
 rw[mu]at h;refine⟨pT hf hb hn,fun w vs P7=>calls_of_wp hf hb ?_⟩;have hc:=rx (N:=fn.ntmps) P7 (D5 hN);refine h hΓ ay _ _ _ _ _ _ _ (fun _=>⟨fun _ h=>h,fun _=>rfl⟩) (fun _ _ h=>by cases h) hc fun e N5 ρ' a' w' hK N6=>?_;exact V20
theorem au {P:Program}{Γ:Env}{f:FuncId}{fn:Func}{c:Code}{xs:List AV}{h0:List (Id×AO)}{r:AV}{h1:List (Id×AO)}(hΓ:Γ.chk P=true)(ay:P.follows .mixedOrders=true)(hf:P.funcs[f]?=some fn)(hb:fn.body=some c)(hn:(fn.name== "runtime.NumGoroutine")=false)
  (hN:Nat.ble xs.length fn.ntmps=true) (O7:tG xs h0 .unk []=true) (h:Wo false P Γ fn.ntmps c (Mr Γ fn.results.toList r h1) (stG xs h0)):bd P f xs h0 r h1:=by
 rw[mu]at h;refine⟨pT hf hb hn,fun w vs ρ P7 hl OC=>calls_of_wp hf hb ?_⟩;have hc:=uP (N:=fn.ntmps) O7 P7 hl OC (D5 hN)
 have hF:∀o v,(if(lkH h0 o).isSome=true then some (ρ o)else none)=some v->o.1=0:=fun o v hv=>by
  exact V73
 refine h hΓ ay _ _ _ _ _ _ _ s_ hF hc fun e N5 ρ' a' w' hK N6=>?_;exact V5
def vwC (H H':Id->Option AO)(c d:AC):Prop:=d=c\/(∃n m,c= .nils n/\d= .nils m)\/∃t,d= .t t/\fc H c t/\∀q∈c.ids,H' q=none
def Je (H H':Id->Option AO):List AC->List AC->Prop
 | [],[]=>True
 | c::cs,d::ds=>vwC H H' c d/\Je H H' cs ds
 | _,_=>False
def MV (H H':Id->Option AO)(L:Nat->AV):List (Nat×AV)->Prop
 | []=>True
 |(i,v)::r=>(v=L i\/(∃c d,L i= .r (.c c)/\v= .r (.c d)/\vwC H H' c d)\/∃cs ds,L i= .r (.agg cs)/\v= .r (.agg ds)/\Je H H' cs ds)/\MV H H' L r
def vwO (H H':Id->Option AO)(y x:Option AO):Prop:=x=y\/(∃cs ds,y=some (.box cs)/\x=some (.box ds)/\Je H H' cs ds)\/
 ∃sz rows i off n row t,y=some (.dar sz rows (some (i,off,n)))/\rows[i]?=some row/\off<sz/\fc H (.own n) t/\H' n=none/\x=some (.dar sz (rows.set i (row.set off (.t t))) none)
def vwH (H H':Id->Option AO):List (Id×Option AO)->Prop
 | []=>True
 |(q,x)::r=>(x=none\/vwO H H' (H q) x)/\vwH H H' r
theorem xY {H H':Id->Option AO}{L:Nat->AV}:∀{l:List (Nat×AV)} {i:Nat} {v:AV},MV H H' L l->(i,v)∈l->(v=L i\/(∃c d,L i= .r (.c c)/\v= .r (.c d)/\vwC H H' c d)\/∃cs ds,L i= .r (.agg cs)/\v= .r (.agg ds)/\Je H H' cs ds)
 | [],_,_,_,h=>by cases h
 |(j,u)::r,i,v,h,hm=>by
  rcases d6.1 hm with e|hm
  ·injection e with e1 e2;subst e1;subst e2;exact h.1
  ·exact xY h.2 hm
theorem HE {H H':Id->Option AO}:∀{l:List (Id×Option AO)} {q:Id} {x:AO},vwH H H' l->(q,some x)∈l->vwO H H' (H q) (some x)
 | [],_,_,_,h=>by cases h
 |(p,u)::r,q,x,h,hm=>by
  rcases d6.1 hm with e|hm
  ·injection e with e1 e2;subst e1;subst e2;rcases h.1 with e|e
   ·cases e
   ·exact e
  ·exact HE h.2 hm
theorem Hl {H H':Id->Option AO}{c d:AC}(h:vwC H H' c d):∀o∈d.ids,o∈c.ids:=by
 rcases h with rfl|⟨n,m,rfl,rfl⟩|⟨t,rfl,_⟩
 ·exact fun _ h=>h
 ·intro o ho;simp[AC.ids]at ho
 ·intro o ho;simp[AC.ids]at ho
theorem xr {H H':Id->Option AO}:∀{cs ds:List AC},Je H H' cs ds->∀o∈ds.flatMap AC.ids,o∈cs.flatMap AC.ids
 | [],[],_,_,h=>h
 | c::cs,d::ds,h,o,ho=>by
  simp only[s8,f0]at ho⊢
  exact ho.imp (Hl h.1 o) (xr h.2 o)
 | [],_::_,h,_,_=>h.elim
 | _::_,[],h,_,_=>h.elim
section
variable {P:Program} {Γ:Env} {N:Nat} {m:Bool} {K:Out->St->Prop} {st N5:St} {c x y:Code}
theorem Dm (N5:St)(h1:Lo m st N5)(h:Wo m P Γ N c K N5):Wo m P Γ N c K st:=by
 rw[mu]at *
 rw[GM]at h1;intro hΓ ay B M w0 ρ a w Q hM hF hc hQ;obtain⟨ρ',N6⟩:=h1.ok hM hF hc;exact h hΓ ay B M w0 ρ' a w Q hM hF N6 hQ
theorem kL (N5:St)(h1:MV (ct st.h) (ct N5.h) (dS st.fr) N5.fr)(h2:vwH (ct st.h) (ct N5.h) N5.h)(hu:N5.u=st.u)(h:Wo m P Γ N c K N5):Wo m P Γ N c K st:=by
 rw[mu]at *
 intro hΓ ay B M w0 ρ a w Q hM hF hc hQ;refine h hΓ ay B M w0 ρ a w Q hM hF ?_ hQ;have hO:∀q x,N5.fs.H q=some x->vwO (ct st.h) (ct N5.h) (ct st.h q) (some x):=fun q x hq=>HE h2 (kV hq)
 have OY:∀q x,N5.fs.H q=some x->∃y,st.fs.H q=some y:=fun q x hq=>by
  rcases hO q x hq with e|⟨cs,ds,e,_⟩|⟨_,_,_,_,_,_,_,e,_⟩
  ·exact⟨x,e.symm⟩
  ·exact⟨_,e⟩
  ·exact⟨_,e⟩
 have N7:∀b,okB ρ st.fs.H w b->okB ρ N5.fs.H w b:=fun b hb=>⟨hb.1,fun o x ho=>by obtain⟨y,hy⟩:=OY o x ho;exact hb.2 o y hy⟩
 have Ul:∀q,ct N5.h q=none->∀x b,st.fs.H q=some x->Own ρ q b->okB ρ N5.fs.H w b:=by
  intro q hq x b hx hb;have hr:=hc.rng q x b hx hb;refine⟨⟨hr.1,hc.alw b hr.2⟩,fun o y ho OX=>?_⟩
  have Ow:o≠q:=fun e=>by
   subst e;rw[show N5.fs.H o=none from hq]at ho
   cases ho
  obtain⟨y',Rg⟩:=OY o y ho;exact hc.sep o q y' x b Rg hx Ow OX hb
 have Ox:∀{v:Value} {c d:AC},RC B ρ w (okB ρ st.fs.H w) v c->vwC (ct st.h) (ct N5.h) c d->RC B ρ w (okB ρ N5.fs.H w) v d:=by
  intro v c d hv Wy;rcases Wy with rfl|⟨n,m,rfl,rfl⟩|⟨t,rfl,e3,e4⟩
  ·exact hv.keep (fun b hb=>⟨rfl,N7 b hb⟩) fun _ _=>rfl
  ·exact hv
  ·exact kA hc N7 (fun q hq x b hx hb=>Ul q (e4 q hq) x b hx hb) hv e3
 have OE:∀{vs:List Value} {cs ds:List AC},RCs B ρ w (okB ρ st.fs.H w) vs cs->Je (ct st.h) (ct N5.h) cs ds->RCs B ρ w (okB ρ N5.fs.H w) vs ds:=by
  intro vs
  induction vs with
  | nil=>
   intro cs ds h1 h2
   cases cs with
   | nil=>cases ds with
    | nil=>trivial
    | cons=>exact h2.elim
   | cons=>exact h1.elim
  | cons v vs ih=>
   intro cs ds h1 h2
   cases cs with
   | nil=>exact h1.elim
   | cons c cs=>cases ds with
    | nil=>exact h2.elim
    | cons d ds=>exact⟨Ox h1.1 h2.1,ih h1.2 h2.2⟩
 have RP:∀t o,o∈(N5.fs.L t).ids->o∈(st.fs.L t).ids:=fun t o ho=>by
  rcases jh N5.fr t with e|hm
  ·rw[show N5.fs.L t=AV.unk from e]at ho;simp[AV.ids]at ho
  ·rcases xY h1 hm with e|⟨c,d,e1,e2,e3⟩|⟨cs,ds,e1,e2,e3⟩
   ·exact(show N5.fs.L t=st.fs.L t from e)▸ho
   ·rw[show N5.fs.L t=_ from e2]at ho;rw[show st.fs.L t=_ from e1];exact Hl e3 o ho
   ·rw[show N5.fs.L t=_ from e2]at ho;rw[show st.fs.L t=_ from e1];exact xr e3 o ho
 refine⟨hc.size,hc.defers,fun t=>?_,fun o x ho=>?_,fun o o' x x' b ho OR=>by obtain⟨y,hy⟩:=OY o x ho;obtain⟨y',Rg⟩:=OY o' x' OR;exact hc.sep o o' y y' b hy Rg,fun o x b ho hb=>by obtain⟨y,hy⟩:=OY o x ho;exact hc.rng o y b hy hb,hc.keep,hc.base,hc.alw,hc.cst,fun o v hv=>⟨(hc.M8 o v hv).1,by have:=(hc.M8 o v hv).2;simpa [St.fs,hu]using this⟩,fun t o ho=>by have:=hc.usedL t o (RP t o ho);simpa [St.fs,hu]using this,fun o x ho=>?_⟩
 ·rcases jh N5.fr t with e|hm
  ·rw[show N5.fs.L t=AV.unk from e];trivial
  ·rcases xY h1 hm with e|⟨c,d,e1,e2,e3⟩|⟨cs,ds,e1,e2,e3⟩
   ·rw[show N5.fs.L t=st.fs.L t from e];exact(hc.slot t).keep (fun b hb=>⟨rfl,N7 b hb⟩) fun _ _=>rfl
   ·rw[show N5.fs.L t=_ from e2];have hs:=hc.slot t;rw[show st.fs.L t=_ from e1]at hs;exact Ox hs e3
   ·rw[show N5.fs.L t=_ from e2];have hs:=hc.slot t;rw[show st.fs.L t=_ from e1]at hs;obtain⟨us,hv,hs⟩:=hs;exact⟨us,hv,OE hs e3⟩
 ·rcases hO o x ho with e|⟨cs,ds,e1,e2,e3⟩|⟨sz,rows,i,off,n,row,t,e1,e2,e3,e4,e5,e6⟩
  ·exact(hc.obj o x e.symm).keep (fun b hb=>⟨rfl,N7 b hb⟩) (fun _ _=>rfl) rfl (fun _ h=>h) fun _ _=>rfl
  ·injection e2 with e2;subst e2;obtain⟨b,cur,t,fz,g1,g2,g3,g4⟩:=hc.obj o _ e1;exact⟨b,cur,t,fz,g1,g2,g3,OE g4 e3⟩
  ·injection e6 with e6;subst e6;obtain⟨O1,g⟩:=hc.obj o _ e1
   have OB:∀r∈rows.set i (row.set off (DC.t t)),r.length=sz:=fun r hr=>by
    rcases v5 hr with h'|h'
    ·exact O1 r h'
    ·rw[h',s7];exact O1 row (b9 e2)
   refine⟨OB,?_⟩;rcases g with⟨_,_,g⟩|⟨b,cap,cur,e,fz,Fp,g1,g2,g3,g4,g5,g6,g7,g8,g9⟩
   ·cases g
   ·refine .inr ⟨b,cap,cur,e,fz,Fp,by rw[s7];exact g1,g2,g3,by rw[s7];exact g4,g5,g6,g7,g8,?_⟩
    have OA:=lz (off:=off) (row:=row) (row':=row.set off (DC.t t)) (ts:=[DC.t t]) (sz:=sz) (by have:=O1 row (b9 e2);simp;omega) (by
     rw[List.set_eq_take_append_cons_drop,d5 (by have:=O1 row (b9 e2);omega)];simp) rows i O1 e2
    have hi:i<rows.length:=by
     rcases l9 i rows.length with h'|h'
     ·exact h'
     ·rw[e9 h']at e2;cases e2
    have UY:=aY sz rows O1;have OH:(i+1)*sz<=rows.length*sz:=l8 _ hi;have hm:(i+1)*sz=i*sz+sz:=(by rw[o8];omega);have N1:i*sz+off+[DC.t t].length<=rows.flatten.length:=(by rw[UY];simp;omega);refine⟨?_,fun p v d hv hd=>?_⟩
    ·rw[s7,OA];have:=g9.1;simp only[b8,j5,t8]at this⊢;omega
    ·rw[s7]at hv;simp only[cb];rw[OA,yi N1]at hd;have h9:=g9.2 p v;by_cases q1:p=i*sz+off
     ·rw[c8 o_,d5 aab]at hd;have q2:p-(i*sz+off)=0:=o_;rw[q2,i8]at hd;injection hd with hd;subst hd;obtain⟨d0,RK⟩:∃d0,rows.flatten[p]?=some d0:=⟨_,f9 (by rw[q1];simp at N1;omega)⟩;have:=h9 d0 hv RK;simp only[cb,d5 q1]at this;rw[this.1]
      have PN:∃A n' c',ρ n= .slice A n' c':=by
       simp only[fc]at e4;split at e4
       ·rename_i fr OD rows' hq;obtain⟨_,g⟩:=hc.obj n _ hq;rcases g with⟨g,_⟩|⟨_,_,_,_,_,g,_⟩
        ·exact⟨_,_,_,g⟩
        ·exact⟨_,_,_,g⟩
       ·rename_i OD rows' hq;obtain⟨_,g⟩:=hc.obj n _ hq;rcases g with⟨g,_⟩|⟨_,_,_,_,_,_,g,_⟩
        ·exact⟨_,_,_,g⟩
        ·exact⟨_,_,_,g⟩
       ·exact e4.elim
      exact kA (c:= .own n) (v:=ρ n) hc N7 (fun q hq x b hx hb=>by
       simp only[AC.ids,d6,j6,or_false]at hq;subst hq
       exact Ul _ e5 x b hx hb) ⟨PN,rfl⟩ e4
     ·have Qo:rows.flatten[p]?=some d:=by
       split at hd
       ·exact hd
       ·rw[c8 aab]at hd;exact hd
      have:=h9 d hv Qo;simp only[cb,c8 q1]at this;exact RD.keep this (fun b hb=>⟨rfl,N7 b hb⟩) fun _ h=>⟨rfl,h⟩
 ·rcases hO o x ho with e|⟨cs,ds,e1,e2,e3⟩|⟨sz,rows,i,off,n,row,t,e1,e2,e3,e4,e5,e6⟩
  ·have:=hc.usedH o x e.symm;simpa [St.fs,hu]using this
  ·injection e2 with e2;subst e2;obtain⟨k1,k2⟩:=hc.usedH o _ e1;refine⟨by simpa [St.fs,hu]using k1,fun o' OR=>?_⟩;have:=k2 o' (xr e3 o' OR);simpa [St.fs,hu]using this
  ·injection e6 with e6;subst e6;obtain⟨k1,k2⟩:=hc.usedH o _ e1;exact⟨by simpa [St.fs,hu]using k1,fun o' OR=>by simp[AO.ids]at OR⟩
def gvR:List (List DC)->List (List DC)->Prop
 | [],[]=>True
 | r::rs,t::ts=>(r.length=t.length/\∀(p:Nat) (c d:DC),r[p]?=some c->t[p]?=some d->d=c\/d=DC.t c.tr\/∃a b,c.tr= .lst a []/\d=DC.t (.lst b []))/\gvR rs ts
 | _,_=>False
theorem pw:∀{rs ts:List (List DC)},gvR rs ts->rs.length=ts.length
 | [],[],_=>rfl
 | _::_,_::_,h=>by rw[c7,c7,pw h.2]
 | [],_::_,h=>h.elim
 | _::_,[],h=>h.elim
theorem Ef {sz:Nat}:∀{rs ts:List (List DC)},gvR rs ts->(∀r∈rs,r.length=sz)->∀r∈ts,r.length=sz
 | [],[],_,_,_,h=>by cases h
 | r::rs,t::ts,h,hu,x,hx=>by
  rcases d6.1 hx with rfl|hx
  ·rw[<-h.1.1];exact hu r s_
  ·exact Ef h.2 (fun r hr=>hu r aaw) x hx
 | [],_::_,h,_,_,_=>h.elim
 | _::_,[],h,_,_,_=>h.elim
theorem V45{p:Prop}(h:p:=by
 refine⟨by simp only[t6,b8,h.1.1,h1],fun p c d hc hd=>?_⟩;rw[t6,G4]at hc hd;rw[h.1.1]at hc;split at hc
 ·rename_i hp;rw[d5 hp]at hd;exact h.1.2 p c d hc hd
 ·rename_i hp;rw[c8 hp]at hd;exact h2 _ c d hc hd):p:=h
theorem CR:∀{rs ts:List (List DC)},gvR rs ts->rs.flatten.length=ts.flatten.length/\∀(p:Nat) (c d:DC),rs.flatten[p]?=some c->ts.flatten[p]?=some d->d=c\/d=DC.t c.tr\/∃a b,c.tr= .lst a []/\d=DC.t (.lst b [])
 | [],[],_=>⟨rfl,fun p c d h=>by simp at h⟩
 | r::rs,t::ts,h=>by
  obtain⟨h1,h2⟩:=CR h.2
  exact V45
 | [],_::_,h=>h.elim
 | _::_,[],h=>h.elim
theorem RT.empty {w:World}{ok:Nat->Prop}{v:Value}{a b:Nat}(h:RT w ok v (.lst a [])):RT w ok v (.lst b []):=by
 cases h with
 | emp A c sz hc=>exact .emp _ _ _ hc
 | lst ad n c sz rows us hn hc hm hu N7 hl Ox O9=>
  have:n=0:=by simpa using hn.symm
  subst this;exact .emp _ _ _ hm
theorem V81{p:Prop}(h:p:=by
 have:p<rows'.flatten.length:=by
  rcases l9 p rows'.flatten.length with h'|h'
  ·exact h'
  ·rw[e9 h']at hd;cases hd
 exact⟨_,f9 o_⟩):p:=h
theorem Jb (o:Id){sz:Nat}{rows rows':List (List DC)}(ho:ct st.h o=some (.dar sz rows none))(hg:gvR rows rows')(h:Wo m P Γ N c K ⟨st.fr,(o,some (.dar sz rows' none))::st.h,st.u⟩):Wo m P Γ N c K st:=by
 rw[mu]at *
 intro hΓ ay B M w0 ρ a w Q hM hF hc hQ
 have Ow:∀q,q≠o->ct ((o,some (AO.dar sz rows' none))::st.h) q=ct st.h q:=fun q hq=>by
  have:fQ q o=false:=by cases hb:fQ q o with|false=>rfl|true=>exact absurd (idEq_iff.1 hb) hq
  simp[ct,this]
 have R9:ct ((o,some (AO.dar sz rows' none))::st.h) o=some (.dar sz rows' none):=by have:fQ o o=true:=idEq_iff.2 rfl;simp[ct,this]
 obtain⟨hu,g⟩:=hc.obj o _ ho
 have key:∃ρ':Rho,ρ'.val=ρ.val/\ρ'.al=ρ.al/\(∀q,q≠o->∀b,ρ'.fp q b↔ρ.fp q b)/\(∀b,ρ'.fp o b->ρ.fp o b)/\∀ok':Nat->Prop,(∀b,okB ρ st.fs.H w b->ok' b)->(∀b,ρ.fp o b->blk (ρ o)≠some b->¬ρ'.fp o b->ok' b)->RO B ρ' w ok' o (.dar sz rows' none):=by
  rcases g with⟨g1,g2,g3⟩|⟨b,cap,cur,e,fz,Fp,g1,g2,g3,g4,g5,g6,g7,g8,g9⟩
  ·subst g2
   have:rows'=[]:=by have:=pw hg;exact A8.1 this.symm
   subst this;exact⟨ρ,rfl,rfl,fun _ _ _=>Iff.rfl,fun _ h=>h,fun ok' _ _=>⟨fun r hr=>by simp at hr,.inl ⟨g1,rfl,rfl⟩⟩⟩
  ·obtain⟨f1,f2⟩:=CR hg
   refine⟨⟨ρ.val,fun q c=>if q=o then(∃p x,rows'.flatten[p]?=some (.d x)/\Fp p c)else ρ.fp q c,ρ.al⟩,rfl,rfl,fun q hq b=>by simp only[c8 hq],fun c P1=>by
    simp only[if_true]at P1;obtain⟨p,_,_,hp⟩:=P1
    exact(g7 p c hp).1,fun ok' hk Pb=>⟨Ef hg hu,.inr ⟨b,cap,cur,e,fz,fun p c=>(∃x,rows'.flatten[p]?=some (.d x))/\Fp p c,by rw[<-pw hg];exact g1,g2,g3,by rw[<-pw hg];exact g4,g5,g6,fun p c So=>?_,fun p q c TG h1 h2=>g8 p q c TG h1.2 h2.2,?_,fun p v d hv hd=>?_⟩⟩⟩
   ·refine⟨?_,(g7 p c So.2).2⟩;simp only[if_true];obtain⟨⟨x,hx⟩,h2⟩:=So;exact⟨p,x,hx,h2⟩
   ·rw[<-f1,<-pw hg];exact g9.1
   ·rw[<-pw hg]at hv;simp only[cb]
    obtain⟨c0,Qw⟩:∃c0,rows.flatten[p]?=some c0:=by exact V81
    have:=g9.2 p v c0 hv Qw;simp only[cb]at this
    have Rz:(∀x,c0= .d x->d≠.d x)->RT w ok' v c0.tr:=by
     intro Ow
     cases c0 with
     | t x=>exact RT.keep this fun b' OO=>⟨rfl,hk b' OO⟩
     | d x=>
      refine DT.toRT this fun b' OO=>Pb b' (g7 p b' OO).1 (fun Ti=>?_) fun hf=>?_
      ·rw[g1]at Ti;injection Ti with Ti;exact(g7 p b' OO).2 Ti.symm
      ·simp only[if_true]at hf;obtain⟨q,y,hq,QI⟩:=hf;by_cases TG:p=q
       ·subst TG;rw[hd]at hq;injection hq with hq;subst hq;rcases f2 p _ _ Qw hd with e|e|⟨_,_,_,e⟩
        ·exact Ow x rfl e
        ·cases e
        ·cases e
       ·exact g8 p q b' TG OO QI
    rcases f2 p c0 d Qw hd with rfl|rfl|⟨a1,b1,ea,rfl⟩
    ·cases d with
     | t x=>exact RT.keep this fun b' OO=>⟨rfl,hk b' OO⟩
     | d x=>exact DT.keep this fun b' OO=>⟨rfl,⟨x,hd⟩,OO⟩
    ·exact Rz fun x _ e=>by cases e
    ·have:=Rz fun x _ e=>by cases e
     rw[ea]at this;exact RT.empty this
 obtain⟨ρ',r1,r2,r3,r4,r5⟩:=key;have hv:∀q,ρ' q=ρ q:=fun q=>by show ρ'.val q=ρ.val q;rw[r1]
 have OG:∀q b,Own ρ' q b->Own ρ q b:=fun q b hb=>by
  rcases hb with hb|hb
  ·exact .inl (by rw[<-hv q];exact hb)
  ·by_cases hq:q=o
   ·subst hq;exact .inr (r4 b hb)
   ·exact .inr ((r3 q hq b).1 hb)
 refine h hΓ ay B M w0 ρ' a w Q hM hF ?_ hQ
 have OY:∀q x,ct ((o,some (AO.dar sz rows' none))::st.h) q=some x->∃y,ct st.h q=some y:=fun q x hx=>by
  by_cases hq:q=o
  ·subst hq;exact⟨_,ho⟩
  ·rw[Ow q hq]at hx;exact⟨x,hx⟩
 have N7:∀b,okB ρ st.fs.H w b->okB ρ' (ct ((o,some (AO.dar sz rows' none))::st.h)) w b:=fun b hb=>⟨⟨hb.1.1,by rw[r2];exact hb.1.2⟩,fun q x hx OX=>by obtain⟨y,hy⟩:=OY q x hx;exact hb.2 q y hy (OG q b OX)⟩
 refine⟨hc.size,hc.defers,fun t=>(hc.slot t).keep (fun b hb=>⟨rfl,N7 b hb⟩) fun q _=>hv q,fun q x hx=>?_,fun q q' x x' b hx QF hqq hb OO=>by
   obtain⟨y,hy⟩:=OY q x hx;obtain⟨y',Rg⟩:=OY q' x' QF
   exact hc.sep q q' y y' b hy Rg hqq (OG q b hb) (OG q' b OO),fun q x b hx hb=>by obtain⟨y,hy⟩:=OY q x hx;exact hc.rng q y b hy (OG q b hb),hc.keep,hc.base,fun b hb=>by rw[r2];exact hc.alw b hb,by rw[r2];exact hc.cst,fun q v hq=>⟨by rw[hv];exact(hc.M8 q v hq).1,(hc.M8 q v hq).2⟩,hc.usedL,fun q x hx=>?_⟩
 ·by_cases hq:q=o
  ·subst hq;have QF:=hx;rw[show(St.fs ⟨st.fr,(q,some (AO.dar sz rows' none))::st.h,st.u⟩).H q=ct ((q,some (AO.dar sz rows' none))::st.h) q from rfl,R9]at QF;injection QF with QF;subst QF;refine r5 _ N7 fun b hb Ti WZ=>⟨⟨(hc.rng q _ b ho (.inr hb)).1,by rw[r2];exact hc.alw b (hc.rng q _ b ho (.inr hb)).2⟩,fun q' x' Si OX=>?_⟩;by_cases Oy:q'=q
   ·subst Oy;rcases OX with OX|OX
    ·exact Ti (by rw[<-hv q'];exact OX)
    ·exact WZ OX
   ·obtain⟨y',Rg⟩:=OY q' x' Si;exact hc.sep q' q y' _ b Rg ho Oy (OG q' b OX) (.inr hb)
  ·have QF:ct st.h q=some x:=(by rw[<-Ow q hq];exact hx);exact(hc.obj q x QF).keep (fun b hb=>⟨rfl,N7 b hb⟩) (fun _ _=>hv _) (hv q) (fun b hb=>(r3 q hq b).2 hb) fun _ _=>rfl
 ·by_cases hq:q=o
  ·subst hq;have QF:=hx;rw[show(St.fs ⟨st.fr,(q,some (AO.dar sz rows' none))::st.h,st.u⟩).H q=ct ((q,some (AO.dar sz rows' none))::st.h) q from rfl,R9]at QF;injection QF with QF;subst QF;exact⟨(hc.usedH q _ ho).1,fun o' OR=>by simp[AO.ids]at OR⟩
  ·have QF:ct st.h q=some x:=(by rw[<-Ow q hq];exact hx);exact hc.usedH q x QF
end
def emE (c d:Tr):Prop:=d=c\/∃a b,c= .lst a []/\d= .lst b []
def emR:List (List Tr)->List (List Tr)->Prop
 | [],[]=>True
 | r::rs,t::ts=>(r.length=t.length/\∀(p:Nat) (c d:Tr),r[p]?=some c->t[p]?=some d->emE c d)/\emR rs ts
 | _,_=>False
theorem Cw:∀{rs ts:List (List Tr)},emR rs ts->rs.length=ts.length
 | [],[],_=>rfl
 | _::_,_::_,h=>by rw[c7,c7,Cw h.2]
 | [],_::_,h=>h.elim
 | _::_,[],h=>h.elim
theorem DA {sz:Nat}:∀{rs ts:List (List Tr)},emR rs ts->(∀r∈rs,r.length=sz)->∀r∈ts,r.length=sz
 | [],[],_,_,_,h=>by cases h
 | r::rs,t::ts,h,hu,x,hx=>by
  rcases d6.1 hx with rfl|hx
  ·rw[<-h.1.1];exact hu r s_
  ·exact DA h.2 (fun r hr=>hu r aaw) x hx
 | [],_::_,h,_,_,_=>h.elim
 | _::_,[],h,_,_,_=>h.elim
theorem EX:∀{rs ts:List (List Tr)},emR rs ts->rs.flatten.length=ts.flatten.length/\∀(p:Nat) (c d:Tr),rs.flatten[p]?=some c->ts.flatten[p]?=some d->emE c d
 | [],[],_=>⟨rfl,fun p c d h=>by simp at h⟩
 | r::rs,t::ts,h=>by
  obtain⟨h1,h2⟩:=EX h.2
  exact V45
 | [],_::_,h=>h.elim
 | _::_,[],h=>h.elim
theorem RT.rows {w:World}{ok:Nat->Prop}{v:Value}{sz:Nat}{rows rows':List (List Tr)}(h:RT w ok v (.lst sz rows))(hg:emR rows rows'):RT w ok v (.lst sz rows'):=by
 cases h with
 | emp A c sz hc=>
  have:rows'=[]:=A8.1 (Cw hg).symm;subst this
  exact .emp _ _ _ hc
 | lst ad n c sz rows us hn hc hm hu N7 hl Ox O9=>
  obtain⟨f1,f2⟩:=EX hg;refine .lst ad n c sz rows' us ((Cw hg).symm.trans hn) hc hm (DA hg hu) N7 (hl.trans f1) Ox fun p v d hv hd=>?_
  obtain⟨c0,Qw⟩:∃c0,rows.flatten[p]?=some c0:=by exact V81
  have:=O9 p v c0 hv Qw;rcases f2 p c0 d Qw hd with rfl|⟨a,b,rfl,rfl⟩
  ·exact this
  ·exact RT.empty this
section
variable {P:Program} {Γ:Env} {N:Nat} {m:Bool} {K:Out->St->Prop} {st:St} {c:Code}
theorem vj (i:Nat){sz:Nat}{rows rows':List (List Tr)}(hi:dS st.fr i= .r (.c (.t (.lst sz rows))))(hg:emR rows rows')(h:Wo m P Γ N c K ⟨(i,.r (.c (.t (.lst sz rows'))))::st.fr,st.h,st.u⟩):Wo m P Γ N c K st:=by
 rw[mu]at *
 intro hΓ ay B M w0 ρ a w Q hM hF hc hQ;refine h hΓ ay B M w0 ρ a w Q hM hF ?_ hQ
 have Sz:∀t,t≠i->dS ((i,AV.r (.c (.t (.lst sz rows'))))::st.fr) t=dS st.fr t:=fun t ht=>by
  have:Nat.beq t i=false:=by cases hb:Nat.beq t i with|false=>rfl|true=>exact absurd (r6 hb) ht
  simp[dS,this]
 have VB:dS ((i,AV.r (.c (.t (.lst sz rows'))))::st.fr) i= .r (.c (.t (.lst sz rows'))):=by simp[dS]
 refine⟨hc.size,hc.defers,fun t=>?_,hc.obj,hc.sep,hc.rng,hc.keep,hc.base,hc.alw,hc.cst,hc.M8,fun t o ho=>?_,hc.usedH⟩
 ·by_cases ht:t=i
  ·subst ht;have hs:=hc.slot t;rw[show st.fs.L t=_ from hi]at hs;show RV _ _ _ _ _ (dS _ t);rw[VB];exact RT.rows hs hg
  ·show RV _ _ _ _ _ (dS _ t);rw[Sz t ht];exact hc.slot t
 ·have ho:o∈(dS ((i,AV.r (.c (.t (.lst sz rows'))))::st.fr) t).ids:=ho;by_cases ht:t=i
  ·subst ht;rw[VB]at ho;simp[AV.ids,AR.ids,AC.ids]at ho
  ·rw[Sz t ht]at ho;exact hc.usedL t o ho
end
end Go.Sim
