import Derived.Test.YtjmplnfiabmalaaGreatGi
namespace Go.Proofs.YtjmplnfiabmalaaGreat
open Go.Sim
set_option maxRecDepth 100000
set_option maxHeartbeats 4000000
theorem fA {c:CS}{v:Int}:(bS c v).m.fai=c.m.fai:=by unfold bS;split <;> rfl
theorem cPop_st {c:CS}:(aB c).m.fai=c.m.fai:=by unfold aB;split <;> rfl
theorem cDrop_st:∀{n:Nat} {c:CS},(bn n c).m.fai=c.m.fai
 | 0,_=>rfl
 | n+1,c=>by rw[bn,cDrop_st (n:=n),cPop_st]
theorem pL:∀{n:Nat} {c:CS},(eL n c).m.fai=c.m.fai
 | 0,_=>rfl
 | n+1,c=>by rw[eL,pL (n:=n),fA]
theorem zA {c:CS}{a:Int}:(jg c a).m.fai=c.m.fai:=by
 unfold jg
 split
 ·rfl
 ·exact fA
theorem vM {c:CS}{a:Int}:(fB c a).m.fai=c.m.fai:=by
 unfold fB
 split
 ·exact cPop_st
 ·exact cPop_st
theorem EG {es:List Int}{c:CS}{x:HR}:(ca es c x).m.fai=c.m.fai:=by
 unfold ca
 refine aN (fun d=>d.m.fai=c.m.fai) fA ?_
 refine aN (fun d=>d.m.fai=c.m.fai) zA ?_
 refine aN (fun d=>d.m.fai=c.m.fai) zA ?_
 refine aN (fun d=>d.m.fai=c.m.fai) vM ?_
 refine aN (fun d=>d.m.fai=c.m.fai) vM ?_
 refine aN (fun d=>d.m.fai=c.m.fai) (by rw[wW,fA,cPop_st,cPop_st]) ?_
 refine aN (fun d=>d.m.fai=c.m.fai) rfl ?_
 refine aN (fun d=>d.m.fai=c.m.fai) (by
  unfold qK;split
  ·exact cPop_st
  ·exact cPop_st) ?_
 refine aN (fun d=>d.m.fai=c.m.fai) (by
  unfold qC;split
  ·exact fA
  ·exact fA) ?_
 refine aN (fun d=>d.m.fai=c.m.fai) (by rw[xa,pL];exact fA) ?_
 refine aN (fun d=>d.m.fai=c.m.fai) pL ?_
 refine aN (fun d=>d.m.fai=c.m.fai) (by
  rw[wQ,fA,cDrop_st]
  exact cPop_st.trans (cPop_st.trans cPop_st)) ?_
 refine aN (fun d=>d.m.fai=c.m.fai) (by
  rw[rV,fA,cDrop_st]
  exact cPop_st.trans (cDrop_st.trans cPop_st)) ?_
 refine aN (fun d=>d.m.fai=c.m.fai) (by
  show(aB c).m.fai=_
  exact cPop_st) ?_
 rfl
theorem Eg {s:HV}{m:HQ}(h:ah m.fai 0 2=true):ah (iY m (cC s m)).fai 0 2=true:=by
 cases hr:cC s m with
 | none=>rfl
 | some m'=>
  obtain⟨x,_,hx⟩:=kj hr
  show ah m'.fai 0 2=true
  unfold eP at hx
  split at hx
  ·cases hx
  ·split at hx
   ·split at hx
    ·injection hx with hx;subst hx;rfl
    ·cases hx
   ·injection hx with hx
    subst hx
    rw[EG]
    exact h
structure MOk (m:HQ) (n:Nat):Prop where
 inv:MInv m 0
 st:ah m.fai 0 2=true
 out:m.fah.length≤n
theorem Az {s:HV}{m:HQ}:(iY m (cC s m)).fah.length≤m.fah.length+1:=by
 cases h:cC s m with
 | none=>show m.fah.length≤_;omega
 | some m'=>exact pw m' h
theorem MOk.step {s:HV}{m:HQ}{n:Nat}(h:MOk m n)(hn:n≤1000000)(he:∀e∈s.faq,inI e):MOk (iY m (cC s m)) (n+1):=by
 have h1:=h.inv.step (s:=s) he
 have h2:=Az (s:=s) (m:=m)
 have h3:=h.out
 exact⟨⟨h1.len,h1.sp,h1.w,by omega⟩,Eg h.st,by omega⟩
theorem MOk.mono {m:HQ}{n k:Nat}(h:MOk m n)(hk:n≤k):MOk m k:=⟨h.inv,h.st,by have:=h.out;omega⟩
theorem MOk.run {s:HV}(he:∀e∈s.faq,inI e):∀(k:Nat) {m:HQ} {n:Nat},MOk m n→n+k≤1000000→MOk (dU s k m).1 (n+k)
 | 0,m,n,h,_=>h
 | k+1,m,n,h,hn=>by
  by_cases h0:m.fai=0
  ·rw[ko h0]
   have:=MOk.run he k (h.step (by omega) he) (by omega)
   rw[show n+1+k=n+(k+1) by omega]at this
   exact this
  ·rw[dY (.inl h0)]
   exact h.mono (by omega)
theorem MOk.ok {m:HQ}{n:Nat}(h:MOk m n):ct m=true:=by
 unfold ct
 have h1:=h.inv.len
 have h2:=h.inv.sp
 rw[h.st,within_iff.2 ⟨h2.1,h2.2⟩,h1]
 rfl
theorem MOk.small {m:HQ}{n:Nat}(h:MOk m n)(hn:n≤1000000):aC 1048576 m.tr:=by
 have h1:=h.inv.len
 have h2:=h.out
 simp only[HQ.tr,aC]
 exact⟨by simp[aA],by simp[aA],by simp[aA],tE (by omega),tE (by omega),by simp[aA],by simp[aA],trivial⟩
theorem tH {s:HV}:∀(a b:Nat) (m:HQ),dU s (a+b) m=((dU s b (dU s a m).1).1,(dU s a m).2+(dU s b (dU s a m).1).2)
 | 0,b,m=>by
  rw[Nat.zero_add,dY (k:=0) (.inr rfl)]
  dsimp only
  rw[Nat.zero_add]
 | a+1,b,m=>by
  by_cases h0:m.fai=0
  ·rw[show a+1+b=(a+b)+1 by omega,ko h0,ko h0,tH a b]
   dsimp only
   rw[Nat.add_right_comm]
  ·rw[dY (.inl h0),dY (k:=a+1) (.inl h0)]
   dsimp only
   rw[dY (.inl h0)]
   exact congrArg (Prod.mk m) (Nat.zero_add 0).symm
def itM (s:HV):Nat→HQ→HQ
 | 0,m=>m
 | n+1,m=>lD s (itM s n m)
theorem BE {s:HV}(hs:bp s=true)(he:∀e∈s.faq,inI e){m:HQ}(h:MOk m 0):∀n,n≤1000000→itM s n m=(dU s n m).1
 | 0,_=>rfl
 | n+1,hn=>by
  rw[itM,BE hs he h n (by omega),tH n 1 m]
  have hk:=MOk.run (s:=s) he n h (by omega)
  generalize(dU s n m).1=q at *
  dsimp only
  by_cases h0:q.fai=0
  ·rw[lD,if_pos ⟨hs,hk.ok,h0⟩,ko h0]
   rfl
  ·rw[lD,if_neg (fun hh=>h0 hh.2.2),dY (.inl h0)]
theorem Fb {s:HV}(hs:bp s=true)(he:∀e∈s.faq,inI e):MOk (Dl s) 0:=by
 have hh:inI (s.faq.headD 0):=by
  cases hx:s.faq with
  | nil=>show inI 0;unfold inI;omega
  | cons a l=>exact he a (by rw[hx];simp)
 rw[Dl,if_pos hs]
 refine⟨⟨by simp,by dsimp only;omega,⟨fun w hw=>?_,hh,by unfold inI;dsimp only;omega⟩,by simp⟩,rfl,by simp⟩
 have:=List.eq_of_mem_replicate hw
 rw[this]
 unfold inI
 omega
theorem jh {s:HV}(hs:bp s=true){m:HQ}{n:Nat}(h:MOk m n){l:Int}(h0:0≤l)(h1:l≤20000):br s m l=dU s l.toNat m:=by
 rw[br,if_pos ⟨hs,h.ok,within_iff.2 ⟨h0,h1⟩⟩]
theorem Cq {s:HV}(hs:bp s=true)(he:∀e∈s.faq,inI e){m:HQ}(h:MOk m 0){k:Nat}(hk:k≤60):
  MOk (br s m k).1 60∧(br s (br s m k).1 (60 - (k:Int))).1=(br s m 60).1∧(br s m k).2+(br s (br s m k).1 (60 - (k:Int))).2=(br s m 60).2∧(br s m 60).2≤60∧MOk (br s m 60).1 60:=by
 have h1:=MOk.run (s:=s) he k h (by omega)
 have h2:=MOk.run (s:=s) he 60 h (by omega)
 rw[Nat.zero_add]at h1 h2
 have e1:br s m k=dU s k m:=by rw[jh hs h (by omega) (by omega),Int.toNat_natCast]
 have e2:br s m 60=dU s 60 m:=jh hs h (by omega) (by omega)
 have e3:br s (dU s k m).1 (60 - (k:Int))=dU s (60 - k) (dU s k m).1:=by
  rw[jh hs h1 (by omega) (by omega),show(60 - (k:Int)).toNat=60 - k by omega]
 rw[e1,e2,e3]
 have ha:=tH (s:=s) k (60 - k) m
 rw[show k+(60 - k)=60 by omega]at ha
 have hle:∀(n:Nat) (q:HQ),(dU s n q).2≤n:=by
  intro n
  induction n with
  | zero=>intro q;rw[dU];exact Nat.le_refl _
  | succ n ih=>
   intro q
   by_cases h0:q.fai=0
   ·rw[ko h0];have:=ih (iY q (cC s q));dsimp only;omega
   ·rw[dY (.inl h0)];exact Nat.zero_le _
 refine⟨h1.mono hk,?_,?_,hle 60 m,h2⟩
 ·rw[ha]
 ·rw[ha]
end Go.Proofs.YtjmplnfiabmalaaGreat
