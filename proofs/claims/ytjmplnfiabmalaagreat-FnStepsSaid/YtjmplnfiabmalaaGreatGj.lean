import Derived.Test.YtjmplnfiabmalaaGreatGi
namespace Go.Proofs.YtjmplnfiabmalaaGreat
open Go.Sim
set_option maxRecDepth 100000
set_option maxHeartbeats 4000000
theorem fy {c:CS}{v:Int}:(bS c v).m.fai=c.m.fai:=by unfold bS;split <;> rfl
theorem cPop_st {c:CS}:(aB c).m.fai=c.m.fai:=by unfold aB;split <;> rfl
theorem cDrop_st:∀{n:Nat} {c:CS},(bn n c).m.fai=c.m.fai
 | 0,_=>rfl
 | n+1,c=>by rw[bn,cDrop_st (n:=n),cPop_st]
theorem pJ:∀{n:Nat} {c:CS},(eM n c).m.fai=c.m.fai
 | 0,_=>rfl
 | n+1,c=>by rw[eM,pJ (n:=n),fy]
theorem ze {c:CS}{a:Int}:(je c a).m.fai=c.m.fai:=by
 unfold je
 split
 ·rfl
 ·exact fy
theorem vM {c:CS}{a:Int}:(fu c a).m.fai=c.m.fai:=by
 unfold fu
 split
 ·exact cPop_st
 ·exact cPop_st
theorem Ev {es:List Int}{c:CS}{x:TOp}:(ce es c x).m.fai=c.m.fai:=by
 unfold ce
 refine aL (fun d=>d.m.fai=c.m.fai) fy ?_
 refine aL (fun d=>d.m.fai=c.m.fai) ze ?_
 refine aL (fun d=>d.m.fai=c.m.fai) ze ?_
 refine aL (fun d=>d.m.fai=c.m.fai) vM ?_
 refine aL (fun d=>d.m.fai=c.m.fai) vM ?_
 refine aL (fun d=>d.m.fai=c.m.fai) (by rw[wQ,fy,cPop_st,cPop_st]) ?_
 refine aL (fun d=>d.m.fai=c.m.fai) rfl ?_
 refine aL (fun d=>d.m.fai=c.m.fai) (by
  unfold qS;split
  ·exact cPop_st
  ·exact cPop_st) ?_
 refine aL (fun d=>d.m.fai=c.m.fai) (by
  unfold qq;split
  ·exact fy
  ·exact fy) ?_
 refine aL (fun d=>d.m.fai=c.m.fai) (by rw[xl,pJ];exact fy) ?_
 refine aL (fun d=>d.m.fai=c.m.fai) pJ ?_
 refine aL (fun d=>d.m.fai=c.m.fai) (by
  rw[xc,fy,cDrop_st]
  exact cPop_st.trans (cPop_st.trans cPop_st)) ?_
 refine aL (fun d=>d.m.fai=c.m.fai) (by
  rw[rO,fy,cDrop_st]
  exact cPop_st.trans (cDrop_st.trans cPop_st)) ?_
 refine aL (fun d=>d.m.fai=c.m.fai) (by
  show(aB c).m.fai=_
  exact cPop_st) ?_
 rfl
theorem Dv {s:TSpace}{m:TMachine}(h:ah m.fai 0 2=true):ah (jc m (cC s m)).fai 0 2=true:=by
 cases hr:cC s m with
 | none=>rfl
 | some m'=>
  obtain⟨x,_,hx⟩:=kq hr
  show ah m'.fai 0 2=true
  unfold eK at hx
  split at hx
  ·cases hx
  ·split at hx
   ·split at hx
    ·injection hx with hx;subst hx;rfl
    ·cases hx
   ·injection hx with hx
    subst hx
    rw[Ev]
    exact h
structure MOk (m:TMachine) (n:Nat):Prop where
 inv:MInv m 0
 st:ah m.fai 0 2=true
 out:m.fah.length≤n
theorem At {s:TSpace}{m:TMachine}:(jc m (cC s m)).fah.length≤m.fah.length+1:=by
 cases h:cC s m with
 | none=>show m.fah.length≤_;omega
 | some m'=>exact qo m' h
theorem MOk.step {s:TSpace}{m:TMachine}{n:Nat}(h:MOk m n)(hn:n≤1000000)(he:∀e∈s.faq,inI e):MOk (jc m (cC s m)) (n+1):=by
 have h1:=h.inv.step (s:=s) he
 have h2:=At (s:=s) (m:=m)
 have h3:=h.out
 exact⟨⟨h1.len,h1.sp,h1.w,by omega⟩,Dv h.st,by omega⟩
theorem MOk.mono {m:TMachine}{n k:Nat}(h:MOk m n)(hk:n≤k):MOk m k:=⟨h.inv,h.st,by have:=h.out;omega⟩
theorem MOk.run {s:TSpace}(he:∀e∈s.faq,inI e):∀(k:Nat) {m:TMachine} {n:Nat},MOk m n→n+k≤1000000→MOk (dT s k m).1 (n+k)
 | 0,m,n,h,_=>h
 | k+1,m,n,h,hn=>by
  by_cases h0:m.fai=0
  ·rw[kF h0]
   have:=MOk.run he k (h.step (by omega) he) (by omega)
   rw[show n+1+k=n+(k+1) by omega]at this
   exact this
  ·rw[dW (.inl h0)]
   exact h.mono (by omega)
theorem MOk.ok {m:TMachine}{n:Nat}(h:MOk m n):cr m=true:=by
 unfold cr
 have h1:=h.inv.len
 have h2:=h.inv.sp
 rw[h.st,within_iff.2 ⟨h2.1,h2.2⟩,h1]
 rfl
theorem MOk.small {m:TMachine}{n:Nat}(h:MOk m n)(hn:n≤1000000):aC 1048576 m.tr:=by
 have h1:=h.inv.len
 have h2:=h.out
 simp only[TMachine.tr,aC]
 exact⟨by simp[aA],by simp[aA],by simp[aA],sA (by omega),sA (by omega),by simp[aA],by simp[aA],trivial⟩
theorem uw {s:TSpace}:∀(a b:Nat) (m:TMachine),dT s (a+b) m=((dT s b (dT s a m).1).1,(dT s a m).2+(dT s b (dT s a m).1).2)
 | 0,b,m=>by
  rw[Nat.zero_add,dW (k:=0) (.inr rfl)]
  dsimp only
  rw[Nat.zero_add]
 | a+1,b,m=>by
  by_cases h0:m.fai=0
  ·rw[show a+1+b=(a+b)+1 by omega,kF h0,kF h0,uw a b]
   dsimp only
   rw[Nat.add_right_comm]
  ·rw[dW (.inl h0),dW (k:=a+1) (.inl h0)]
   dsimp only
   rw[dW (.inl h0)]
   exact congrArg (Prod.mk m) (Nat.zero_add 0).symm
def itM (s:TSpace):Nat→TMachine→TMachine
 | 0,m=>m
 | n+1,m=>lI s (itM s n m)
theorem BV {s:TSpace}(hs:bp s=true)(he:∀e∈s.faq,inI e){m:TMachine}(h:MOk m 0):∀n,n≤1000000→itM s n m=(dT s n m).1
 | 0,_=>rfl
 | n+1,hn=>by
  rw[itM,BV hs he h n (by omega),uw n 1 m]
  have hk:=MOk.run (s:=s) he n h (by omega)
  generalize(dT s n m).1=q at *
  dsimp only
  by_cases h0:q.fai=0
  ·rw[lI,if_pos ⟨hs,hk.ok,h0⟩,kF h0]
   rfl
  ·rw[lI,if_neg (fun hh=>h0 hh.2.2),dW (.inl h0)]
theorem Fj {s:TSpace}(hs:bp s=true)(he:∀e∈s.faq,inI e):MOk (EQ s) 0:=by
 have hh:inI (s.faq.headD 0):=by
  cases hx:s.faq with
  | nil=>show inI 0;unfold inI;omega
  | cons a l=>exact he a (by rw[hx];simp)
 rw[EQ,if_pos hs]
 refine⟨⟨by simp,by dsimp only;omega,⟨fun w hw=>?_,hh,by unfold inI;dsimp only;omega⟩,by simp⟩,rfl,by simp⟩
 have:=List.eq_of_mem_replicate hw
 rw[this]
 unfold inI
 omega
theorem iW {s:TSpace}(hs:bp s=true){m:TMachine}{n:Nat}(h:MOk m n){l:Int}(h0:0≤l)(h1:l≤20000):bt s m l=dT s l.toNat m:=by
 rw[bt,if_pos ⟨hs,h.ok,within_iff.2 ⟨h0,h1⟩⟩]
theorem Cu {s:TSpace}(hs:bp s=true)(he:∀e∈s.faq,inI e){m:TMachine}(h:MOk m 0){k:Nat}(hk:k≤60):
  MOk (bt s m k).1 60∧(bt s (bt s m k).1 (60 - (k:Int))).1=(bt s m 60).1∧(bt s m k).2+(bt s (bt s m k).1 (60 - (k:Int))).2=(bt s m 60).2∧(bt s m 60).2≤60∧MOk (bt s m 60).1 60:=by
 have h1:=MOk.run (s:=s) he k h (by omega)
 have h2:=MOk.run (s:=s) he 60 h (by omega)
 rw[Nat.zero_add]at h1 h2
 have e1:bt s m k=dT s k m:=by rw[iW hs h (by omega) (by omega),Int.toNat_natCast]
 have e2:bt s m 60=dT s 60 m:=iW hs h (by omega) (by omega)
 have e3:bt s (dT s k m).1 (60 - (k:Int))=dT s (60 - k) (dT s k m).1:=by
  rw[iW hs h1 (by omega) (by omega),show(60 - (k:Int)).toNat=60 - k by omega]
 rw[e1,e2,e3]
 have ha:=uw (s:=s) k (60 - k) m
 rw[show k+(60 - k)=60 by omega]at ha
 have hle:∀(n:Nat) (q:TMachine),(dT s n q).2≤n:=by
  intro n
  induction n with
  | zero=>intro q;rw[dT];exact Nat.le_refl _
  | succ n ih=>
   intro q
   by_cases h0:q.fai=0
   ·rw[kF h0];have:=ih (jc q (cC s q));dsimp only;omega
   ·rw[dW (.inl h0)];exact Nat.zero_le _
 refine⟨h1.mono hk,?_,?_,hle 60 m,h2⟩
 ·rw[ha]
 ·rw[ha]
end Go.Proofs.YtjmplnfiabmalaaGreat
