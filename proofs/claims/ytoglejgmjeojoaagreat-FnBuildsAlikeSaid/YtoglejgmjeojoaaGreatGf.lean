import Derived.Test.YtoglejgmjeojoaaGreatGe
set_option maxRecDepth 100000
set_option maxHeartbeats 0
namespace Go.Proofs.P
open Go.Sim Tryz
theorem gf (l:List (List UInt8)):flat (l.map ah):=oy _ (by intro x c hc sz rs e;subst e;simp[ah]at hc)
theorem yN {l:List Qt}{k:Nat}{x:Qt}(hx:l[k]?=some x)(h:x.J0≠3\/h_ l k=none):i_ l k=none:=by
 unfold i_;rw[hx]
 cases he:h_ l k with
 | none=>rfl
 | some e=>
  dsimp only;rw[b8];rcases h with h|h
  ·exact h
  ·rw[he]at h;cases h
theorem V43{p:Prop}(h:p:=by
 have h1:bA l k= -1:=by rw[bA,he];split<;>rfl
 have h2:bi l k= -1:=by
  rw[bi];split
  ·unfold i_;rw[he];cases l[k.toNat]?<;>rfl
  ·rfl
 rw[h1]at hE;rw[h2]
 repeat' ((conv=>whnf);first|refine Or.inl ?_|apply oi|apply fi|intro h|refine ci hE (ai rfl (ai rfl trivial)) ?_|exact Y2|refine e_ rfl ?_)):p:=h
theorem V5{p:Prop}(h:p:=by
 by_cases h4:y.J0=4
 ·rw[b9 h4]at hr;subst hr;repeat' ((conv=>whnf);first|refine Or.inl ?_|apply oi|apply fi|intro h|refine ci Wy (ai rfl (ai rfl trivial)) ?_|refine⟨i,y.tr,rfl,ab hy,?_⟩|exact Y2|refine e_ rfl ?_)
  all_goals try exact Q1
 ·rw[b8 h4]at hr;by_cases h5:y.J0=3\/y.J0=5
  ·rw[b9 h5]at hr;obtain⟨m,hm,Wa,U2⟩:=dE he (i:=i) VB O4 hy (opensK_iff.2 o_);rw[hm]at hr;dsimp only at hr;rw[bc,aU hm]at Wy;repeat' ((conv=>whnf);first|refine Or.inl ?_|apply oi|apply fi|intro h|refine ci Wy (ai rfl (ai rfl trivial)) ?_|refine⟨i,y.tr,rfl,ab hy,?_⟩|exact Y2|refine e_ rfl ?_)
   all_goals try exact Q1
   all_goals
    conv=>whnf
    refine⟨⟨m+1,o_,o_,hr⟩,?_,KD⟩;repeat' ((conv=>whnf);first|refine Or.inl ?_|apply oi|apply fi|intro h|exact Y4|refine e_ rfl ?_)
    all_goals exact Q5
  ·rw[b8 h5]at hr;repeat' ((conv=>whnf);first|refine Or.inl ?_|apply oi|apply fi|intro h|refine ci Wy (ai rfl (ai rfl trivial)) ?_|refine⟨i,y.tr,rfl,ab hy,?_⟩|exact Y2|refine e_ rfl ?_)
   all_goals try exact Q1
   all_goals try exact Q3
   conv=>whnf
   refine⟨⟨i+1,o_,o_,hr⟩,?_,KD⟩;repeat' ((conv=>whnf);first|refine Or.inl ?_|apply oi|apply fi|intro h|exact Y4|refine e_ rfl ?_)
   all_goals exact⟨by dsimp only;rw[c8 _ o_];rfl⟩):p:=h
theorem V40{p:Prop}(h:p:=by
 have h2:bi l (k:Int)= -1:=by rw[bi,b9 h0,e7,yN hx (.inl h3)];rfl
 rw[h2];repeat' ((conv=>whnf);first|refine Or.inl ?_|apply oi|apply fi|intro h|refine ci hE (ai rfl (ai rfl trivial)) ?_|refine⟨k,x.tr,rfl,ab hx,?_⟩|exact Y2|refine e_ rfl ?_)
 all_goals try(exfalso;(try simp_all[af]);(try omega);done)):p:=h
theorem V64{p:Prop}(h:p:=by
 have h1:bA l k= -1:=by rw[bA,b8 h0]
 have h2:bi l k= -1:=by rw[bi,b8 h0]
 rw[h1]at hE;rw[h2]
 repeat' ((conv=>whnf);first|refine Or.inl ?_|apply oi|apply fi|intro h|refine ci hE (ai rfl (ai rfl trivial)) ?_|exact Y2|refine e_ rfl ?_)):p:=h
theorem qM (l:List Qt)(k:Int)(hl:l.length<=1048576):Sim.Spec prog 155 [tvP l,tvI k] (rI (bi l k)):=by
 refine az hΓ aF func155 rfl d_ rfl ?_;have O2:(l.map Qt.tr).length=l.length:=s_;have hE:=dL l k hl
 cases he:h_ l k.toNat with
 | none=>exact V43
 | some e=>
  obtain⟨x,hx,ho,_,QI,QP⟩:=aI he;by_cases h0:0<=k
  ·obtain⟨k,rfl⟩:=i7 h0;rw[e7]at he hx QI;rw[bc,aU he]at hE;by_cases h3:x.J0=3
   ·obtain⟨R,hR⟩:∃R,bi l (k:Int)=R:=⟨_,rfl⟩;rw[hR]
    have hR:cn (elseN l e (e-(k+1)) (k+1))=R:=by rw[bi,b9 h0,e7,i_,hx,he]at hR;dsimp only at hR;rw[b9 h3]at hR;exact hR
    repeat' ((conv=>whnf);first|refine Or.inl ?_|apply oi|apply fi|intro h|refine ci hE (ai rfl (ai rfl trivial)) ?_|refine⟨k,x.tr,rfl,ab hx,?_⟩|exact Y2|refine e_ rfl ?_)
    all_goals try exact Q1
    conv=>whnf
    refine⟨{i:Nat//k<i/\i<=e/\cn (elseN l e (e-i) i)=R},fun q=>⟨[(0,vP l),(5,tI .i64 (e:Int)),(6,tI .i64 (q.1:Int))],[],[]⟩,fun q=>e-q.1,⟨k+1,o_,o_,hR⟩,?_,?_⟩
    ·repeat' ((conv=>whnf);first|refine Or.inl ?_|apply oi|apply fi|intro h|exact Y1|refine e_ rfl ?_)
     all_goals exact Q5
    intro⟨i,VB,hi,hr⟩;dsimp only at VB hi hr⊢;by_cases O4:i<e
    ·obtain⟨y,hy⟩:=ae (l:=l) (k:=i) o_;rw[Ad O4 hy]at hr;have Wy:=dL l (i:Int) hl;exact V5
    ·rw[Cg o_]at hr;subst hr;exact Z4
   ·exact V40
  ·exact V64
theorem gR (l:List Qt)(k:Int)(hl:l.length<=1048576):Sim.Spec prog 173 [tvP l,tvI k] (rI (bi l k)):=by
 refine az hΓ aF func173 rfl d_ rfl ?_;have O2:(l.map Qt.tr).length=l.length:=s_;have hE:=bW l k hl
 cases he:h_ l k.toNat with
 | none=>exact V43
 | some e=>
  obtain⟨x,hx,ho,_,QI,QP⟩:=aI he;by_cases h0:0<=k
  ·obtain⟨k,rfl⟩:=i7 h0;rw[e7]at he hx QI;rw[bc,aU he]at hE;by_cases h3:x.J0=3
   ·obtain⟨R,hR⟩:∃R,bi l (k:Int)=R:=⟨_,rfl⟩;rw[hR]
    have hR:cn (elseN l e (e-(k+1)) (k+1))=R:=by rw[bi,b9 h0,e7,i_,hx,he]at hR;dsimp only at hR;rw[b9 h3]at hR;exact hR
    repeat' ((conv=>whnf);first|refine Or.inl ?_|apply oi|apply fi|intro h|refine ci hE (ai rfl (ai rfl trivial)) ?_|refine⟨k,x.tr,rfl,ab hx,?_⟩|exact Y2|refine e_ rfl ?_)
    all_goals try exact Q1
    conv=>whnf
    refine⟨{i:Nat//k<i/\i<=e/\cn (elseN l e (e-i) i)=R},fun q=>⟨[(0,vP l),(5,tI .i64 (e:Int)),(6,tI .i64 (q.1:Int))],[],[]⟩,fun q=>e-q.1,⟨k+1,o_,o_,hR⟩,?_,?_⟩
    ·repeat' ((conv=>whnf);first|refine Or.inl ?_|apply oi|apply fi|intro h|exact Y1|refine e_ rfl ?_)
     all_goals exact Q5
    intro⟨i,VB,hi,hr⟩;dsimp only at VB hi hr⊢;by_cases O4:i<e
    ·obtain⟨y,hy⟩:=ae (l:=l) (k:=i) o_;rw[Ad O4 hy]at hr;have Wy:=bW l (i:Int) hl;exact V5
    ·rw[Cg o_]at hr;subst hr;exact Z4
   ·exact V40
  ·exact V64
theorem Q28{p:Prop}(h:p:=by exact⟨⟨by simp;omega,by simp;omega⟩⟩):p:=h
theorem V13{p:Prop}(h:p:=by
 obtain⟨x,hx⟩:=ae O4;rw[mK hx]at hr;by_cases h0:x.J0=0
 ·rw[b9 h0]at hr;repeat' ((conv=>whnf);first|refine Or.inl ?_|apply oi|apply fi|intro h|refine⟨k,x.tr,rfl,ab hx,?_⟩|exact Y2|refine e_ rfl ?_)
  all_goals try exact Q1
  all_goals try exact Q28
  conv=>whnf
  refine⟨⟨(k+1,acc++[k]),g_,by simp;omega,by rw[<-hr];simp⟩,?_,KD⟩;repeat' ((conv=>whnf);first|refine Or.inl ?_|apply oi|apply fi|intro h|exact Y4|refine e_ rfl ?_)
  all_goals exact⟨by simp[aa]⟩
 ·rw[b8 h0,r9]at hr;repeat' ((conv=>whnf);first|refine Or.inl ?_|apply oi|apply fi|intro h|refine⟨k,x.tr,rfl,ab hx,?_⟩|exact Y2|refine e_ rfl ?_)
  all_goals try exact Q1
  conv=>whnf
  refine⟨⟨(k+1,acc),g_,g_,hr⟩,?_,KD⟩
  exact Z3):p:=h
theorem ct (l:List Qt)(hl:l.length<=1048576):Sim.Spec prog 88 [tvP l] (rL 1 ((aq l).map fun n:Nat=>aa n)):=by
 refine az hΓ aF func88 rfl d_ rfl ?_;have O2:(l.map Qt.tr).length=l.length:=s_;obtain⟨R,hR⟩:∃R,aq l=R:=⟨_,rfl⟩;rw[hR];repeat' ((conv=>whnf);first|refine Or.inl ?_|apply oi|apply fi|intro h|exact Y1|refine e_ rfl ?_)
 conv=>whnf
 refine⟨{q:Nat×List Nat//q.1<=l.length/\q.2.length<=q.1/\q.2++funsF (l.drop q.1) q.1=R},fun q=>⟨[(0,vP l),(3,.r (.c (.own (6,0,0)))),(7,vP l),(8,tI .i64 ((l.map Qt.tr).length:Int)),(9,tI .i64 (q.1.1:Int))],[((6,0,0),some (.arr true 1 (q.1.2.map fun n:Nat=>aa n)))],[6]⟩,fun q=>l.length-q.1.1,⟨(0,[]),s_,s_,by simpa [aq]using hR⟩,?_,?_⟩
 ·exact Z1
 intro⟨⟨k,acc⟩,hk,QZ,hr⟩;dsimp only at hk QZ hr⊢;have Yg:(acc.map fun n:Nat=>aa n).length=acc.length:=s_;by_cases O4:k<l.length
 ·exact V13
 ·rw[m6 o_,funsF,m7]at hr;subst hr;exact Z4
theorem dC (l:List Qt)(hl:l.length<=1048576):Sim.Spec prog 62 [tvP l] (rL 1 ((aq l).map fun n:Nat=>aa n)):=by
 refine az hΓ aF func62 rfl d_ rfl ?_;have O2:(l.map Qt.tr).length=l.length:=s_;obtain⟨R,hR⟩:∃R,aq l=R:=⟨_,rfl⟩;rw[hR];repeat' ((conv=>whnf);first|refine Or.inl ?_|apply oi|apply fi|intro h|exact Y1|refine e_ rfl ?_)
 conv=>whnf
 refine⟨{q:Nat×List Nat//q.1<=l.length/\q.2.length<=q.1/\q.2++funsF (l.drop q.1) q.1=R},fun q=>⟨[(0,vP l),(3,.r (.c (.own (5,0,0)))),(4,tI .i64 (q.1.1:Int))],[((5,0,0),some (.arr true 1 (q.1.2.map fun n:Nat=>aa n)))],[5]⟩,fun q=>l.length-q.1.1,⟨(0,[]),s_,s_,by simpa [aq]using hR⟩,?_,?_⟩
 ·exact Z1
 intro⟨⟨k,acc⟩,hk,QZ,hr⟩;dsimp only at hk QZ hr⊢;have Yg:(acc.map fun n:Nat=>aa n).length=acc.length:=s_;by_cases O4:k<l.length
 ·exact V13
 ·rw[m6 o_,funsF,m7]at hr;subst hr;exact Z4
theorem V18{p:Prop}(h:p:=by
 obtain⟨x,hx⟩:=ae O4;rw[Gg hx]at hr;by_cases h0:x.J0=0/\x.J7=s
 ·rw[b9 h0]at hr;obtain⟨h1,h2⟩:=h0;subst h2;subst hr;repeat' ((conv=>whnf);first|refine Or.inl ?_|apply oi|apply fi|intro h|refine⟨k,x.tr,rfl,ab hx,?_⟩|exact Y2|refine e_ rfl ?_)
  all_goals try exact Q1
 ·rw[b8 h0]at hr;repeat' ((conv=>whnf);first|refine Or.inl ?_|apply oi|apply fi|intro h|refine⟨k,x.tr,rfl,ab hx,?_⟩|exact Y2|refine e_ rfl ?_)
  all_goals try(exfalso;apply h0;simp_all;done)
  all_goals
   conv=>whnf
   refine⟨⟨k+1,o_,hr⟩,?_,KD⟩
   exact Z3):p:=h
theorem gB (l:List Qt)(s:List UInt8)(hl:l.length<=1048576):Sim.Spec prog 153 [tvP l,tvS s] (rI (fS l s)):=by
 refine az hΓ aF func153 rfl d_ rfl ?_;have O2:(l.map Qt.tr).length=l.length:=s_;obtain⟨R,hR⟩:∃R,fS l s=R:=⟨_,rfl⟩;rw[hR];repeat' ((conv=>whnf);first|refine Or.inl ?_|apply oi|apply fi|intro h|exact Y1|refine e_ rfl ?_)
 conv=>whnf
 refine⟨{k:Nat//k<=l.length/\cn (findN (l.drop k) k s)=R},fun q=>⟨[(0,vP l),(1,tS s),(7,vP l),(8,tI .i64 ((l.map Qt.tr).length:Int)),(9,tI .i64 (q.1:Int))],[],[]⟩,fun q=>l.length-q.1,⟨0,o_,hR⟩,?_,?_⟩
 ·exact Z1
 intro⟨k,hk,hr⟩;dsimp only at hk hr⊢;by_cases O4:k<l.length
 ·exact V18
 ·rw[m6 o_,findN]at hr;subst hr;exact Z4
theorem dJ (l:List Qt)(s:List UInt8)(hl:l.length<=1048576):Sim.Spec prog 120 [tvP l,tvS s] (rI (fS l s)):=by
 refine az hΓ aF func120 rfl d_ rfl ?_;have O2:(l.map Qt.tr).length=l.length:=s_;obtain⟨R,hR⟩:∃R,fS l s=R:=⟨_,rfl⟩;rw[hR];repeat' ((conv=>whnf);first|refine Or.inl ?_|apply oi|apply fi|intro h|exact Y1|refine e_ rfl ?_)
 conv=>whnf
 refine⟨{k:Nat//k<=l.length/\cn (findN (l.drop k) k s)=R},fun q=>⟨[(0,vP l),(1,tS s),(5,tI .i64 (q.1:Int))],[],[]⟩,fun q=>l.length-q.1,⟨0,o_,hR⟩,?_,?_⟩
 ·exact Z1
 intro⟨k,hk,hr⟩;dsimp only at hk hr⊢;by_cases O4:k<l.length
 ·exact V18
 ·rw[m6 o_,findN]at hr;subst hr;exact Z4
abbrev rN (l:List (List UInt8)):Res:=rL 1 (l.map ah)
theorem wH {l:List Qt}{k e:Nat}{x:Qt}(hx:l[k]?=some x)(he:h_ l k=some e)(h0:x.J0=0):a_ l (k:Int)=locN l e (e-k) k x.L3:=by rw[a_,b9 o_,e7,hx,he];dsimp only;rw[b9 h0]
theorem jz {l:List Qt}{k:Int}(h:∀e x,h_ l k.toNat=some e->l[k.toNat]?=some x->0<=k->x.J0≠0):a_ l k=[]:=by
 rw[a_];split
 ·split
  ·rename_i x e hx he;rw[b8 (h e x he hx aav)]
  ·rfl
 ·rfl
theorem Bw {l:List Qt}{k:Int}(hl:l.length<=1048576)(hs:∀x∈l,aS 1048576 x.tr):(a_ l k).length<=2097152/\True:=by
 refine⟨?_,trivial⟩;rw[a_];split
 ·split
  ·rename_i x e hx he;obtain⟨_,_,_,_,h1,h2⟩:=aI he;have:=(dv (hs x (c9 hx))).2.1;split
   ·have:=Fh (l:=l) (e:=e) (e-k.toNat) k.toNat x.L3;omega
   ·simp
  ·simp
 ·simp
theorem er (l:List (List UInt8))(s:List UInt8)(hl:l.length<=2097152):Sim.Spec prog 176 [tvL 1 (l.map ah),tvS s] (rI (cN l s)):=by
 refine az hΓ aF func176 rfl d_ rfl ?_;have O2:(l.map ah).length=l.length:=s_;obtain⟨R,hR⟩:∃R,cN l s=R:=⟨_,rfl⟩;rw[hR];repeat' ((conv=>whnf);first|refine Or.inl ?_|apply oi|apply fi|intro h|exact Y1|refine e_ rfl ?_)
 conv=>whnf
 refine⟨{k:Nat//k<=l.length/\cn (eQ (l.drop k) k s)=R},fun k=>⟨[(0,.r (.c (.t (.lst 1 (l.map ah))))),(1,tS s),(5,tI .i64 (k.1:Int))],[],[]⟩,fun k=>l.length-k.1,⟨0,o_,hR⟩,?_,?_⟩
 ·exact Z1
 intro⟨k,hk,hr⟩;dsimp only at hk hr⊢;by_cases O4:k<l.length
 ·exact V17
 ·rw[m6 o_,eQ]at hr;subst hr;exact Z4
theorem V69{p:Prop}(h:p:=by
 rw[kY he]at hE;rw[jz (fun e x h1 _ _=>by rw[e7,he]at h1;cases h1)]
 repeat' ((conv=>whnf);first|refine Or.inl ?_|apply oi|apply fi|intro h|refine ci hE (ai rfl (ai rfl trivial)) ?_|exact Y2|refine e_ rfl ?_)):p:=h
theorem V42{p:Prop}(h:p:=by
 rw[b9 rfl]at hr;repeat' ((conv=>whnf);first|refine Or.inl ?_|apply oi|apply fi|intro h|refine ci hC (ai rfl (ai rfl trivial)) ?_|refine⟨i,y.tr,rfl,ab hy,?_⟩|exact Y2|refine e_ rfl ?_)
 all_goals try exact Q1
 all_goals
  conv=>whnf
  refine⟨⟨(i+1,acc),g_,g_,g_,hr⟩,?_,KD⟩
  exact Z3):p:=h
theorem V20{p:Prop}(h:p:=by
 rw[b8 s_]at hr;repeat' ((conv=>whnf);first|refine Or.inl ?_|apply oi|apply fi|intro h|refine ci hC (ai rfl (ai rfl trivial)) ?_|refine⟨i,y.tr,rfl,ab hy,?_⟩|exact Y2|refine e_ rfl ?_)
 all_goals try exact Q1
 all_goals try exact Q28
 all_goals
  conv=>whnf
  refine⟨⟨(i+1,acc++[y.J7]),g_,g_,by simp;omega,hr⟩,?_,KD⟩;repeat' ((conv=>whnf);first|refine Or.inl ?_|apply oi|apply fi|intro h|exact Y4|refine e_ rfl ?_)
  all_goals exact⟨by simp[ah]⟩):p:=h
theorem V37{p:Prop}(h:p:=by
 rw[b8 h1]at hr;repeat' ((conv=>whnf);first|refine Or.inl ?_|apply oi|apply fi|intro h|refine ci hC (ai rfl (ai rfl trivial)) ?_|refine⟨i,y.tr,rfl,ab hy,?_⟩|exact Y2|refine e_ rfl ?_)
 all_goals try exact Q1
 all_goals try exact Q3
 conv=>whnf
 refine⟨⟨(i+1,acc),g_,g_,g_,hr⟩,?_,KD⟩
 exact Z3):p:=h
theorem V107{p:Prop}(h:p:=by
 rw[DU o_]at hr;subst hr;repeat' ((conv=>whnf);first|refine Or.inl ?_|apply oi|apply fi|intro h|exact Y2|refine e_ rfl ?_)
 all_goals exact⟨⟨rfl,gf _⟩⟩):p:=h
theorem V39{p:Prop}(h:p:=by
 rw[jz (fun e x' h1 h2 _=>by rw[e7,hx]at h2;injection h2 with h2;subst h2;exact S9)];repeat' ((conv=>whnf);first|refine Or.inl ?_|apply oi|apply fi|intro h|refine ci hE (ai rfl (ai rfl trivial)) ?_|refine⟨k,x.tr,rfl,ab hx,?_⟩|exact Y2|refine e_ rfl ?_)
 all_goals try(exfalso;(try simp_all[af]);(try omega);done)):p:=h
theorem V67{p:Prop}(h:p:=by
 have h1:bA l k= -1:=by rw[bA,b8 h0]
 rw[h1]at hE;rw[jz (fun e x _ _ h=>absurd h h0)]
 repeat' ((conv=>whnf);first|refine Or.inl ?_|apply oi|apply fi|intro h|refine ci hE (ai rfl (ai rfl trivial)) ?_|exact Y2|refine e_ rfl ?_)):p:=h
theorem ko (l:List Qt)(k:Int)(hl:l.length<=1048576)(hs:∀x∈l,aS 1048576 x.tr):Sim.Spec prog 215 [tvP l,tvI k] (rN (a_ l k)):=by
 refine az hΓ aF func215 rfl d_ rfl ?_;have O2:(l.map Qt.tr).length=l.length:=s_;have hE:=dL l k hl;by_cases h0:0<=k
 ·obtain⟨k,rfl⟩:=i7 h0;rw[bc]at hE
  cases he:h_ l k with
  | none=>exact V69
  | some e=>
   rw[aU he]at hE;obtain⟨x,hx,ho,_,QI,QP⟩:=aI he;by_cases S9:x.J0=0
   ·have U6:=dv (hs x (c9 hx));rw[wH hx he S9];obtain⟨R,hR⟩:∃R,locN l e (e-k) k x.L3=R:=⟨_,rfl⟩;rw[hR];have QZ:(x.L3.map ah).length=x.L3.length:=s_;repeat' ((conv=>whnf);first|refine Or.inl ?_|apply oi|apply fi|intro h|refine ci hE (ai rfl (ai rfl trivial)) ?_|refine⟨k,x.tr,rfl,ab hx,?_⟩|exact Y2|refine e_ rfl ?_)
    all_goals try exact Q1
    all_goals try exact Q28
    conv=>whnf
    refine⟨{q:Nat×List (List UInt8)//k<=q.1/\q.1<=e/\q.2.length<=1048576+q.1/\locN l e (e-q.1) q.1 q.2=R},fun q=>⟨[(0,vP l),(5,tI .i64 (e:Int)),(6,.r (.c (.own (6,0,0)))),(7,tI .i64 (q.1.1:Int))],[((6,0,0),some (.arr false 1 (q.1.2.map ah)))],[6]⟩,fun q=>e-q.1.1,⟨(k,x.L3),g_,g_,g_,hR⟩,?_,?_⟩
    ·repeat' ((conv=>whnf);first|refine Or.inl ?_|apply oi|apply fi|intro h|exact Y1|refine e_ rfl ?_)
     all_goals exact⟨s_⟩
    intro⟨⟨i,acc⟩,VB,hi,hac,hr⟩;dsimp only at VB hi hac hr⊢;have Ub:(acc.map ah).length=acc.length:=s_;by_cases O4:i<e
    ·obtain⟨y,hy⟩:=ae (l:=l) (k:=i) o_;rw[AP O4 hy]at hr;have hC:=ir acc y.J7 o_;by_cases h1:y.J0=1
     ·rw[b9 h1]at hr;unfold gZ at hr
      cases hc:acc.contains y.J7 with
      | true=>
       rw[hc]at hC hr
       exact V42
      | false=>rw[hc]at hC hr;exact V20
     ·exact V37
    ·exact V107
   ·exact V39
 ·exact V67
theorem ic (l:List Qt)(k:Int)(hl:l.length<=1048576)(hs:∀x∈l,aS 1048576 x.tr):Sim.Spec prog 172 [tvP l,tvI k] (rN (a_ l k)):=by
 refine az hΓ aF func172 rfl d_ rfl ?_;have O2:(l.map Qt.tr).length=l.length:=s_;have hE:=bW l k hl;by_cases h0:0<=k
 ·obtain⟨k,rfl⟩:=i7 h0;rw[bc]at hE
  cases he:h_ l k with
  | none=>exact V69
  | some e=>
   rw[aU he]at hE;obtain⟨x,hx,ho,_,QI,QP⟩:=aI he;by_cases S9:x.J0=0
   ·have U6:=dv (hs x (c9 hx));rw[wH hx he S9];obtain⟨R,hR⟩:∃R,locN l e (e-k) k x.L3=R:=⟨_,rfl⟩;rw[hR];have QZ:(x.L3.map ah).length=x.L3.length:=s_;repeat' ((conv=>whnf);first|refine Or.inl ?_|apply oi|apply fi|intro h|refine ci hE (ai rfl (ai rfl trivial)) ?_|refine⟨k,x.tr,rfl,ab hx,?_⟩|exact Y2|refine e_ rfl ?_)
    all_goals try exact Q1
    all_goals try exact Q28
    conv=>whnf
    refine⟨{q:Nat×List (List UInt8)//k<=q.1/\q.1<=e/\q.2.length<=1048576+q.1/\locN l e (e-q.1) q.1 q.2=R},fun q=>⟨[(0,vP l),(5,tI .i64 (e:Int)),(6,.r (.c (.own (6,0,0)))),(7,tI .i64 (q.1.1:Int))],[((6,0,0),some (.arr false 1 (q.1.2.map ah)))],[6]⟩,fun q=>e-q.1.1,⟨(k,x.L3),g_,g_,g_,hR⟩,?_,?_⟩
    ·repeat' ((conv=>whnf);first|refine Or.inl ?_|apply oi|apply fi|intro h|exact Y1|refine e_ rfl ?_)
     all_goals exact⟨s_⟩
    intro⟨⟨i,acc⟩,VB,hi,hac,hr⟩;dsimp only at VB hi hac hr⊢;have Ub:(acc.map ah).length=acc.length:=s_;by_cases O4:i<e
    ·obtain⟨y,hy⟩:=ae (l:=l) (k:=i) o_;rw[AP O4 hy]at hr;have hC:=er acc y.J7 o_;by_cases h1:y.J0=1
     ·rw[b9 h1]at hr;have S3:=qq (l:=acc) (s:=y.J7)
      generalize cN acc y.J7=ix at *
      unfold gZ at hr
      cases hc:acc.contains y.J7 with
      | true=>
       rw[hc]at S3 hr
       exact V42
      | false=>rw[hc]at S3 hr;exact V20
     ·exact V37
    ·exact V107
   ·exact V39
 ·exact V67
abbrev vN (l:List (List UInt8)):AV:= .r (.c (.t (.lst 1 (l.map ah))))
theorem Hu {α:Type}{f:α->Bool}{l:List α}{k:Nat}{x:α}(hx:l[k]?=some x):(l.drop k).all f=(f x&&(l.drop (k+1)).all f):=by rw[dX hx,F3]
theorem V51{p:Prop}(h:p:=by
 repeat' ((conv=>whnf);first|refine Or.inl ?_|apply oi|apply fi|intro h|refine⟨k,t.tr,rfl,ab ht,?_⟩|refine ci hC (ai rfl (ai rfl trivial)) ?_|refine ci hF (ai rfl (ai rfl trivial)) ?_|exact Y2|refine e_ rfl ?_)
 all_goals try(exfalso;(try simp_all[af]);(try omega);done)):p:=h
theorem V36{p:Prop}(h:p:=by
 repeat' ((conv=>whnf);first|refine Or.inl ?_|apply oi|apply fi|intro h|refine⟨k,t.tr,rfl,ab ht,?_⟩|refine ci hC (ai rfl (ai rfl trivial)) ?_|refine ci hF (ai rfl (ai rfl trivial)) ?_|exact Y2|refine e_ rfl ?_)
 all_goals try exact Q1
 all_goals try exact Q3
 conv=>whnf
 refine⟨⟨k+1,o_,hr⟩,?_,KD⟩
 exact Z3):p:=h
theorem vL (l:List Qt)(loc:List (List UInt8))(ts:List QC)(hl:l.length<=1048576)(Rs:loc.length<=4194304)(T5:ts.length<=1048576):Sim.Spec prog 216 [tvP l,tvL 1 (loc.map ah),tvL 3 (ts.map QC.tr)] (rB (bQ l loc ts)):=by
 refine az hΓ aF func216 rfl d_ rfl ?_;have O2:(ts.map QC.tr).length=ts.length:=s_;have VO:(l.map Qt.tr).length=l.length:=s_;obtain⟨R,hR⟩:∃R,bQ l loc ts=R:=⟨_,rfl⟩;rw[hR];repeat' ((conv=>whnf);first|refine Or.inl ?_|apply oi|apply fi|intro h|exact Y1|refine e_ rfl ?_)
 conv=>whnf
 refine⟨{k:Nat//k<=ts.length/\(ts.drop k).all (bR l loc)=R},fun q=>⟨[(0,vP l),(1,vN loc),(10,.r (.c (.t (.lst 3 (ts.map QC.tr))))),(11,tI .i64 ((ts.map QC.tr).length:Int)),(12,tI .i64 (q.1:Int))],[],[]⟩,fun q=>ts.length-q.1,⟨0,o_,hR⟩,?_,?_⟩
 ·exact Z1
 intro⟨k,hk,hr⟩;dsimp only at hk hr⊢;by_cases O4:k<ts.length
 ·obtain⟨t,ht⟩:=ae O4;rw[Hu ht]at hr;have hC:=ir loc t.J7 Rs;have hF:=gB l t.J7 hl;by_cases h1:t.J0=1
  ·have e1:bR l loc t=loc.contains t.J7:=(by unfold bR;rw[b9 h1]);rw[e1]at hr
   cases hc:loc.contains t.J7 with
   | false=>
    rw[hc]at hC hr;rw[n4]at hr;subst hr
    exact V51
   | true=>rw[hc]at hC hr;rw[l6]at hr;exact V36
  ·by_cases h7:t.J0=7
   ·cases hf:findN l 0 t.J7 with
    | none=>
     have e1:bR l loc t=false:=(by unfold bR;rw[b8 h1,b9 h7,hf]);rw[e1,n4]at hr;subst hr;rw[show fS l t.J7= -1 from kY hf]at hF
     exact V51
    | some f=>
     obtain⟨P7,x,hx,S5,_⟩:=dR hf;have e1:bR l loc t=((x.L3.length:Int)==t.M1):=(by unfold bR;rw[b8 h1,b9 h7,hf];dsimp only;rw[hx]);rw[e1]at hr;rw[show fS l t.J7=(f:Int) from aU hf]at hF;have U7:(x.L3.map ah).length=x.L3.length:=s_;by_cases hn:(x.L3.length:Int)=t.M1
     ·rw[w5.2 hn,l6]at hr;repeat' ((conv=>whnf);first|refine Or.inl ?_|apply oi|apply fi|intro h|refine⟨k,t.tr,rfl,ab ht,?_⟩|refine⟨f,x.tr,rfl,ab hx,?_⟩|refine ci hC (ai rfl (ai rfl trivial)) ?_|refine ci hF (ai rfl (ai rfl trivial)) ?_|exact Y2|refine e_ rfl ?_)
      all_goals try exact Q1
      all_goals try exact Q3
      conv=>whnf
      refine⟨⟨k+1,o_,hr⟩,?_,KD⟩;exact Z3
     ·rw[w3.2 hn,n4]at hr;subst hr;repeat' ((conv=>whnf);first|refine Or.inl ?_|apply oi|apply fi|intro h|refine⟨k,t.tr,rfl,ab ht,?_⟩|refine⟨f,x.tr,rfl,ab hx,?_⟩|refine ci hC (ai rfl (ai rfl trivial)) ?_|refine ci hF (ai rfl (ai rfl trivial)) ?_|exact Y2|refine e_ rfl ?_)
      all_goals try exact Q1
      all_goals try exact Q3
   ·have e1:bR l loc t=true:=(by unfold bR;rw[b8 h1,b8 h7]);rw[e1,l6]at hr;exact V36
 ·rw[m6 o_,I7]at hr;subst hr;exact Z4
def fk (n:Nat):List Tr:=aa n
theorem qU {x:Qt}(h:cF x=true)(hk:x.J0=7):x.L0=[]:=by unfold cF at h;simp only[d5]at h;have h3:=h.2.2.2;rw[b8 (by rw[hk];decide)]at h3;exact z4.1 (z8 h3)
def Qa (i:Nat)(st es:List Nat):Prop:=st=es\/st=(i-1)::es
theorem mv (m:Nat)(r:List Nat):((m::r).reverse.map fk)[r.length]?=some (fk m):=s_
theorem StkOk.top {l:List Qt}{e i m:Nat}{r:List Nat}(h:StkOk l e i (m::r)):i<=m:=h.1
theorem V34{p:Prop}(h:p:=by
 rw[Rn]at hX g4;rw[b8 s_]at g4;subst g4;repeat' ((conv=>whnf);first|refine Or.inl ?_|apply oi|apply fi|intro h|refine ci hE (ai rfl (ai rfl trivial)) ?_|refine ci hX (ai rfl (ai rfl (ai rfl trivial))) ?_|refine⟨i,y.tr,rfl,ab hy,?_⟩|exact Y2|refine e_ rfl ?_)
 all_goals try exact Q1
 all_goals try(exfalso;simp_all;done)):p:=h
theorem V151{p:Prop}(h:p:=by
 cases hh:cU y.J0 with
 | false=>rfl
 | true=>rw[opensK_iff]at hh;omega):p:=h
theorem V28{p:Prop}(h:p:=by
 rw[Rn]at hX g4;rw[b8 s_]at g4;subst g4;repeat' ((conv=>whnf);first|refine Or.inl ?_|apply oi|apply fi|intro h|refine⟨r.length,hw,aaJ,?_⟩|refine⟨(fk m),(mv m r),?_⟩|refine ci hE (ai rfl (ai rfl trivial)) ?_|refine ci hX (ai rfl (ai rfl (ai rfl trivial))) ?_|refine⟨i,y.tr,rfl,ab hy,?_⟩|exact Y2|refine e_ rfl ?_)
 all_goals try exact Q1
 all_goals try(exfalso;simp_all;done)):p:=h
theorem Q2{p:Prop}(h:p:=by exact⟨⟨by simp<;>omega,by simp<;>omega⟩⟩):p:=h
theorem Q9{p:Prop}(h:p:=by exfalso;simp at h;omega):p:=h
theorem tN (l:List Qt)(k e:Nat)(hl:l.length<=60)(hs:∀x∈l,aS 1048576 x.tr)(O7:∀x∈l,cF x=true)(he:h_ l k=some e):Sim.Spec prog 154 [tvP l,tvI k,tvI e] (rB (kL l k e)):=by
 refine az hΓ aF func154 rfl d_ rfl ?_;have O2:(l.map Qt.tr).length=l.length:=s_;have hL:=ko l k o_ hs;obtain⟨ZW,ZI⟩:=Bw (l:=l) (k:=(k:Int)) o_ hs;have Yk:=(aI he);obtain⟨x0,S5,ho0,YF,QI,QP⟩:=Yk;unfold kL
 generalize a_ l (k:Int)=loc at *
 have Sk:(loc.map ah).length=loc.length:=s_;by_cases h8:loc.length<=8
 ·rw[q9 h8,l6];obtain⟨R,hR⟩:∃R,jo l loc e (e-(k+1)) (k+1) 0=R:=⟨_,rfl⟩;rw[hR];repeat' ((conv=>whnf);first|refine Or.inl ?_|apply oi|apply fi|intro h|refine ci hL (ai rfl (ai rfl trivial)) ?_|exact Y2|refine e_ rfl ?_)
  conv=>whnf
  refine⟨{q:Nat×List Nat×List Nat//k<q.1/\q.1<=e+1/\q.2.1.length<=5/\(q.1=e+1->R=true)/\(q.1<=e->StkOk l e q.1 q.2.2/\q.2.2.length<=4/\Qa q.1 q.2.1 q.2.2/\jo l loc e (e-q.1) q.1 q.2.2.length=R)},fun q=>⟨[(0,vP l),(2,tI .i64 (e:Int)),(7,.r (.c (.own (7,0,0)))),(8,.r (.c (.own (8,0,0)))),(9,tI .i64 (q.1.1:Int))],[((7,0,0),some (.arr true 1 (loc.map ah))),((8,0,0),some (.arr false 1 (q.1.2.1.reverse.map fk)))],[7,8]⟩,fun q=>e+1-q.1.1,⟨(k+1,[],[]),g_,g_,s_,fun h=>by dsimp only at h;omega,fun _=>⟨YF,s_,.inl rfl,hR⟩⟩,?_,?_⟩
  ·repeat' ((conv=>whnf);first|refine Or.inl ?_|apply oi|apply fi|intro h|exact Y4|refine e_ rfl ?_)
   all_goals exact⟨s_⟩
  intro⟨⟨i,st,es⟩,q1,q2,q3,q4,q5⟩;dsimp only at q1 q2 q3 q4 q5⊢;by_cases Sv:i<=e
  ·obtain⟨y,hy⟩:=ae (l:=l) (k:=i) o_;obtain⟨g1,g2,g3,g4⟩:=q5 Sv;have hE:=dL l (i:Int) o_;have hX:=vL l loc y.L0 o_ o_ (by have:=(dv (hs y (c9 hy))).2.2.2.1;omega);repeat' ((conv=>whnf);first|refine Or.inl ?_|apply oi|apply fi|intro h|exact Y2|refine e_ rfl ?_)
   conv=>whnf
   refine⟨{u:List Nat//Qa i u es},fun q=>⟨[(0,vP l),(2,tI .i64 (e:Int)),(7,.r (.c (.own (7,0,0)))),(8,.r (.c (.own (8,0,0)))),(9,tI .i64 (i:Int))],[((7,0,0),some (.arr true 1 (loc.map ah))),((8,0,0),some (.arr false 1 (q.1.reverse.map fk)))],[7,8]⟩,fun q=>q.1.length,⟨st,g3⟩,?_,?_⟩
   ·exact Z1
   intro⟨u,hu⟩;dsimp only at hu⊢;have XX:(u.reverse.map fk).length=u.length:=s_
   cases u with
   | nil=>
    have acd:es=[]:=by
     rcases hu with h|h
     ·exact h.symm
     ·cases h
    subst acd;by_cases O4:i<e
    ·rw[zk O4 hy]at g4;by_cases h0:y.J0=0
     ·rw[b9 h0]at g4;subst g4;repeat' ((conv=>whnf);first|refine Or.inl ?_|apply oi|apply fi|intro h|refine ci hE (ai rfl (ai rfl trivial)) ?_|refine ci hX (ai rfl (ai rfl (ai rfl trivial))) ?_|refine⟨i,y.tr,rfl,ab hy,?_⟩|exact Y2|refine e_ rfl ?_)
      all_goals try exact Q1
     ·rw[b8 h0]at g4;by_cases TY:y.J0=3\/y.J0=5
      ·have hd:dep y ([]:List Nat).length=([]:List Nat).length+1:=(by unfold dep;rw[b9 TY]);rw[hd]at g4;obtain⟨m',Sh,WA,RA⟩:=g1.push hy (opensK_iff.2 o_);rw[bc,aU Sh]at hE;by_cases hc:([]:List Nat).length+1<=4/\bQ l loc y.L0=true
       ·obtain⟨c1,c2⟩:=hc;rw[b9 ⟨c1,c2⟩]at g4;rw[c2]at hX;repeat' ((conv=>whnf);first|refine Or.inl ?_|apply oi|apply fi|intro h|refine ci hE (ai rfl (ai rfl trivial)) ?_|refine ci hX (ai rfl (ai rfl (ai rfl trivial))) ?_|refine⟨i,y.tr,rfl,ab hy,?_⟩|exact Y2|refine e_ rfl ?_)
        all_goals try exact Q1
        all_goals try exact Q9
        all_goals try exact Q2
        all_goals try exact Q3
        all_goals
         conv=>whnf
         refine⟨⟨(i+1,m'::([]:List Nat),m'::([]:List Nat)),g_,g_,by simp only[d6]at *;omega,fun h=>by dsimp only at h;omega,fun _=>⟨RA,by simp only[d6]at *;omega,.inl rfl,g4⟩⟩,?_,KD⟩;repeat' ((conv=>whnf);first|refine Or.inl ?_|apply oi|apply fi|intro h|exact Y4|refine e_ rfl ?_)
         all_goals exact⟨by simp[fk,aa]⟩
       ·rw[b8 hc]at g4;subst g4
        cases Rn:bQ l loc y.L0 with
        | true=>
         rw[Rn]at hX hc;repeat' ((conv=>whnf);first|refine Or.inl ?_|apply oi|apply fi|intro h|refine ci hE (ai rfl (ai rfl trivial)) ?_|refine ci hX (ai rfl (ai rfl (ai rfl trivial))) ?_|refine⟨i,y.tr,rfl,ab hy,?_⟩|exact Y2|refine e_ rfl ?_)
         all_goals try exact Q1
         all_goals try exact Q2
         all_goals try(exfalso;apply hc;refine⟨?_,rfl⟩;simp at h;omega)
         all_goals try exact Q3
        | false=>
         rw[Rn]at hX hc;repeat' ((conv=>whnf);first|refine Or.inl ?_|apply oi|apply fi|intro h|refine ci hE (ai rfl (ai rfl trivial)) ?_|refine ci hX (ai rfl (ai rfl (ai rfl trivial))) ?_|refine⟨i,y.tr,rfl,ab hy,?_⟩|exact Y2|refine e_ rfl ?_)
         all_goals try exact Q1
         all_goals try exact Q2
         all_goals try exact Q3
      ·by_cases h7:y.J0=7
       ·rcases g1.pop hy h7 with⟨_,h'⟩|⟨R6,Sw,RA⟩
        ·omega
        have hd:dep y ([]:List Nat).length=R6.length:=(by unfold dep;rw[b8 TY,b9 h7,Sw];simp);have Y0:R6.length<=4:=(by rw[Sw]at g2;simp at g2;omega);rw[hd]at g4
        cases Rn:bQ l loc y.L0 with
        | true=>
         rw[Rn]at hX g4;rw[b9 ⟨Y0,rfl⟩]at g4;repeat' ((conv=>whnf);first|refine Or.inl ?_|apply oi|apply fi|intro h|refine ci hE (ai rfl (ai rfl trivial)) ?_|refine ci hX (ai rfl (ai rfl (ai rfl trivial))) ?_|refine⟨i,y.tr,rfl,ab hy,?_⟩|exact Y2|refine e_ rfl ?_)
         all_goals try exact Q1
         all_goals try exact Q9
         all_goals try exact Q3
         all_goals
          conv=>whnf
          refine⟨⟨(i+1,[],R6),g_,g_,g_,fun h=>by dsimp only at h;omega,fun _=>⟨RA,Y0,.inr (by dsimp only;rw[Sw];rfl),g4⟩⟩,?_,KD⟩
          exact Z3
        | false=>exact V34
       ·have hd:dep y ([]:List Nat).length=([]:List Nat).length:=by unfold dep;rw[b8 TY,b8 h7]
        have ho:cU y.J0=false:=by exact V151
        have RA:=g1.other hy ho h7;rw[hd]at g4
        cases Rn:bQ l loc y.L0 with
        | true=>
         rw[Rn]at hX g4;rw[b9 ⟨g2,rfl⟩]at g4;repeat' ((conv=>whnf);first|refine Or.inl ?_|apply oi|apply fi|intro h|refine ci hE (ai rfl (ai rfl trivial)) ?_|refine ci hX (ai rfl (ai rfl (ai rfl trivial))) ?_|refine⟨i,y.tr,rfl,ab hy,?_⟩|exact Y2|refine e_ rfl ?_)
         all_goals try exact Q1
         all_goals try exact Q9
         all_goals try exact Q3
         all_goals
          conv=>whnf
          refine⟨⟨(i+1,[],[]),g_,g_,g_,fun h=>by dsimp only at h;omega,fun _=>⟨RA,g2,.inl rfl,g4⟩⟩,?_,KD⟩
          exact Z3
        | false=>exact V34
    ·have VS:i=e:=o_;obtain⟨z,hz,Yo⟩:=bn he;rw[<-VS,hy]at hz;injection hz with hz;subst hz;rw[BG o_]at g4;have Rn:bQ l loc y.L0=true:=(by rw[qU (O7 y (c9 hy)) Yo];rfl);rw[Rn]at hX;repeat' ((conv=>whnf);first|refine Or.inl ?_|apply oi|apply fi|intro h|refine ci hE (ai rfl (ai rfl trivial)) ?_|refine ci hX (ai rfl (ai rfl (ai rfl trivial))) ?_|refine⟨i,y.tr,rfl,ab hy,?_⟩|exact Y2|refine e_ rfl ?_)
     all_goals try exact Q1
     all_goals try exact Q9
     all_goals try exact Q3
     all_goals
      conv=>whnf
      refine⟨⟨(i+1,[],[]),g_,g_,g_,fun _=>g4.symm,fun h=>by dsimp only at h;omega⟩,?_,KD⟩
      exact Z3
   | cons m r=>
    have R9:((m::r).reverse.map fk).length=r.length+1:=s_
    have RM:r.length<=5:=by
     rcases hu with h|h
     ·rw[<-h]at g2;simp only[d6]at g2;omega
     ·injection h with h1 h2;rw[h2];omega
    have hw:IntKind.i64.wrap ((((m::r).reverse.map fk).length:Int)-1)=(r.length:Int):=(by rw[R9,c8 _ o_];omega);by_cases hm:m<i
    ·have hr:r=es:=by
      rcases hu with h|h
      ·subst h;have:=g1.top;omega
      ·injection h
     subst hr;repeat' ((conv=>whnf);first|refine Or.inl ?_|apply oi|apply fi|intro h|refine⟨r.length,hw,aaJ,?_⟩|refine⟨(fk m),(mv m r),?_⟩|exact Y2|refine e_ rfl ?_)
     conv=>whnf
     refine⟨⟨r,.inl rfl⟩,?_,by dsimp only;simp⟩;repeat' ((conv=>whnf);first|refine Or.inl ?_|apply oi|apply fi|intro h|exact Y5|refine e_ rfl ?_)
    ·have hr:es=m::r:=by
      rcases hu with h|h
      ·exact h.symm
      ·injection h with h1 h2;omega
     subst hr;have hbk:=0;by_cases O4:i<e
     ·rw[zk O4 hy]at g4;by_cases h0:y.J0=0
      ·rw[b9 h0]at g4;subst g4;repeat' ((conv=>whnf);first|refine Or.inl ?_|apply oi|apply fi|intro h|refine⟨r.length,hw,aaJ,?_⟩|refine⟨(fk m),(mv m r),?_⟩|refine ci hE (ai rfl (ai rfl trivial)) ?_|refine ci hX (ai rfl (ai rfl (ai rfl trivial))) ?_|refine⟨i,y.tr,rfl,ab hy,?_⟩|exact Y2|refine e_ rfl ?_)
       all_goals try exact Q1
      ·rw[b8 h0]at g4;by_cases TY:y.J0=3\/y.J0=5
       ·have hd:dep y (m::r).length=(m::r).length+1:=(by unfold dep;rw[b9 TY]);rw[hd]at g4;obtain⟨m',Sh,WA,RA⟩:=g1.push hy (opensK_iff.2 o_);rw[bc,aU Sh]at hE;by_cases hc:(m::r).length+1<=4/\bQ l loc y.L0=true
        ·obtain⟨c1,c2⟩:=hc;rw[b9 ⟨c1,c2⟩]at g4;rw[c2]at hX;repeat' ((conv=>whnf);first|refine Or.inl ?_|apply oi|apply fi|intro h|refine⟨r.length,hw,aaJ,?_⟩|refine⟨(fk m),(mv m r),?_⟩|refine ci hE (ai rfl (ai rfl trivial)) ?_|refine ci hX (ai rfl (ai rfl (ai rfl trivial))) ?_|refine⟨i,y.tr,rfl,ab hy,?_⟩|exact Y2|refine e_ rfl ?_)
         all_goals try exact Q1
         all_goals try exact Q9
         all_goals try exact Q2
         all_goals try exact Q3
         all_goals
          conv=>whnf
          refine⟨⟨(i+1,m'::(m::r),m'::(m::r)),g_,g_,by simp only[d6]at *;omega,fun h=>by dsimp only at h;omega,fun _=>⟨RA,by simp only[d6]at *;omega,.inl rfl,g4⟩⟩,?_,KD⟩;repeat' ((conv=>whnf);first|refine Or.inl ?_|apply oi|apply fi|intro h|exact Y4|refine e_ rfl ?_)
          all_goals exact⟨by simp[fk,aa]⟩
        ·rw[b8 hc]at g4;subst g4
         cases Rn:bQ l loc y.L0 with
         | true=>
          rw[Rn]at hX hc;repeat' ((conv=>whnf);first|refine Or.inl ?_|apply oi|apply fi|intro h|refine⟨r.length,hw,aaJ,?_⟩|refine⟨(fk m),(mv m r),?_⟩|refine ci hE (ai rfl (ai rfl trivial)) ?_|refine ci hX (ai rfl (ai rfl (ai rfl trivial))) ?_|refine⟨i,y.tr,rfl,ab hy,?_⟩|exact Y2|refine e_ rfl ?_)
          all_goals try exact Q1
          all_goals try exact Q2
          all_goals try(exfalso;apply hc;refine⟨?_,rfl⟩;simp at h;omega)
          all_goals try exact Q3
         | false=>
          rw[Rn]at hX hc;repeat' ((conv=>whnf);first|refine Or.inl ?_|apply oi|apply fi|intro h|refine⟨r.length,hw,aaJ,?_⟩|refine⟨(fk m),(mv m r),?_⟩|refine ci hE (ai rfl (ai rfl trivial)) ?_|refine ci hX (ai rfl (ai rfl (ai rfl trivial))) ?_|refine⟨i,y.tr,rfl,ab hy,?_⟩|exact Y2|refine e_ rfl ?_)
          all_goals try exact Q1
          all_goals try exact Q2
          all_goals try exact Q3
       ·by_cases h7:y.J0=7
        ·rcases g1.pop hy h7 with⟨_,h'⟩|⟨R6,Sw,RA⟩
         ·omega
         have hd:dep y (m::r).length=R6.length:=(by unfold dep;rw[b8 TY,b9 h7,Sw];simp);have Y0:R6.length<=4:=(by rw[Sw]at g2;simp at g2;omega);rw[hd]at g4
         cases Rn:bQ l loc y.L0 with
         | true=>
          rw[Rn]at hX g4;rw[b9 ⟨Y0,rfl⟩]at g4;repeat' ((conv=>whnf);first|refine Or.inl ?_|apply oi|apply fi|intro h|refine⟨r.length,hw,aaJ,?_⟩|refine⟨(fk m),(mv m r),?_⟩|refine ci hE (ai rfl (ai rfl trivial)) ?_|refine ci hX (ai rfl (ai rfl (ai rfl trivial))) ?_|refine⟨i,y.tr,rfl,ab hy,?_⟩|exact Y2|refine e_ rfl ?_)
          all_goals try exact Q1
          all_goals try exact Q9
          all_goals try exact Q3
          all_goals
           conv=>whnf
           refine⟨⟨(i+1,(m::r),R6),g_,g_,g_,fun h=>by dsimp only at h;omega,fun _=>⟨RA,Y0,.inr (by dsimp only;rw[Sw];rfl),g4⟩⟩,?_,KD⟩
           exact Z3
         | false=>exact V28
        ·have hd:dep y (m::r).length=(m::r).length:=by unfold dep;rw[b8 TY,b8 h7]
         have ho:cU y.J0=false:=by exact V151
         have RA:=g1.other hy ho h7;rw[hd]at g4
         cases Rn:bQ l loc y.L0 with
         | true=>
          rw[Rn]at hX g4;rw[b9 ⟨g2,rfl⟩]at g4;repeat' ((conv=>whnf);first|refine Or.inl ?_|apply oi|apply fi|intro h|refine⟨r.length,hw,aaJ,?_⟩|refine⟨(fk m),(mv m r),?_⟩|refine ci hE (ai rfl (ai rfl trivial)) ?_|refine ci hX (ai rfl (ai rfl (ai rfl trivial))) ?_|refine⟨i,y.tr,rfl,ab hy,?_⟩|exact Y2|refine e_ rfl ?_)
          all_goals try exact Q1
          all_goals try exact Q9
          all_goals try exact Q3
          all_goals
           conv=>whnf
           refine⟨⟨(i+1,(m::r),(m::r)),g_,g_,g_,fun h=>by dsimp only at h;omega,fun _=>⟨RA,g2,.inl rfl,g4⟩⟩,?_,KD⟩
           exact Z3
         | false=>exact V28
     ·have VS:i=e:=o_;obtain⟨z,hz,Yo⟩:=bn he;rw[<-VS,hy]at hz;injection hz with hz;subst hz;rw[BG o_]at g4;have Rn:bQ l loc y.L0=true:=(by rw[qU (O7 y (c9 hy)) Yo];rfl);rw[Rn]at hX;repeat' ((conv=>whnf);first|refine Or.inl ?_|apply oi|apply fi|intro h|refine⟨r.length,hw,aaJ,?_⟩|refine⟨(fk m),(mv m r),?_⟩|refine ci hE (ai rfl (ai rfl trivial)) ?_|refine ci hX (ai rfl (ai rfl (ai rfl trivial))) ?_|refine⟨i,y.tr,rfl,ab hy,?_⟩|exact Y2|refine e_ rfl ?_)
      all_goals try exact Q1
      all_goals try exact Q9
      all_goals try exact Q3
      all_goals
       conv=>whnf
       refine⟨⟨(i+1,(m::r),(m::r)),g_,g_,g_,fun _=>g4.symm,fun h=>by dsimp only at h;omega⟩,?_,KD⟩;exact Z3
  ·rw[q4 o_];exact Z4
 ·rw[A5 h8,n4];repeat' ((conv=>whnf);first|refine Or.inl ?_|apply oi|apply fi|intro h|refine ci hL (ai rfl (ai rfl trivial)) ?_|exact Y2|refine e_ rfl ?_)
abbrev nR (n:Nat):List Tr:=aa n
theorem Gw {l:List Qt}{k:Nat}{fs:List Nat}{next:Nat}:jA l (k::fs) next=match h_ l k with|some e=>if k=next/\nameFirst l k=true/\kL l k e=true then jA l fs (e+1)else false|none=>false:=by rw[jA]<;>(cases h_ l k<;>rfl)
theorem vQ {l:List Qt}{x:Qt}(hx:l[0]?=some x):headOk l=(x.J0==0&&(x.J7==iM&&x.L3.length==0)):=by
 cases l with
 | nil=>cases hx
 | cons y r=>rw[f9]at hx;injection hx with hx;subst hx;rfl
theorem DF {l:List Qt}{k e i:Nat}{x:Qt}(hi:i<e)(hx:l[i]?=some x):elsesIn l k e (e-i) i=((if x.J0=4 then anyE l i (i-k) k else true)&&elsesIn l k e (e-(i+1)) (i+1)):=by rw[show e-i=(e-(i+1))+1 by omega,elsesIn,b9 hi,hx]
theorem JJ {l:List Qt}{i:Nat}(hi:i<l.length):((List.range l.length).map fun j:Nat=>bi l (j:Int)).contains (i:Int)=anyE l i i 0:=by
 rw[u0,pA,A4,q7];constructor
 ·rintro⟨j,hj,he⟩;rw[bi,b9 o_,e7]at he
  cases hx:i_ l j with
  | none=>rw[hx]at he;simp only[cn]at he;omega
  | some m=>rw[hx]at he;simp only[cn]at he;have:m=i:=o_;subst this;obtain⟨_,_,_,_,_,h1,_⟩:=aP hx;exact⟨j,o_,o_,hx⟩
 ·rintro⟨j,_,hj,he⟩;refine⟨j,by rw[E7];omega,?_⟩;rw[bi,b9 o_,e7,he];rfl
theorem V47{p:Prop}(h:p:=by
 repeat' ((conv=>whnf);first|refine Or.inl ?_|apply oi|apply fi|intro h|refine⟨k,x.tr,rfl,ab hx,?_⟩|refine ci hC (ai rfl (ai rfl trivial)) ?_|exact Y2|refine e_ rfl ?_)
 all_goals try exact Q1
 conv=>whnf
 refine⟨⟨k+1,o_,hq⟩,?_,KD⟩
 exact Z3):p:=h
theorem Q29{p:Prop}(h:p:=by exfalso;simp_all[iM];first|done|fail):p:=h
theorem gg (l:List Qt)(U6:aK 1048576 (.lst 4 (l.map Qt.tr))):Sim.Spec prog 77 [tvP l] (rB (ak l)):=by
 refine az hΓ aF func77 rfl d_ rfl ?_;have hl:=cP U6;have hs:∀x∈l,aS 1048576 x.tr:=fun x hx=>bk U6 hx;have O2:(l.map Qt.tr).length=l.length:=s_;have hF:=ct l hl;have P7:((aq l).map fun n:Nat=>aa n).length=(aq l).length:=s_;have afz:(aq l).length<=l.length:=pP l 0;have hB:=aN (((aq l).map fun n:Nat=>aa n).length:Int) 1 6;by_cases c1:l.length<=60/\(1<=(aq l).length/\(aq l).length<=6)
 ·obtain⟨c1,c2,c3⟩:=c1;rw[within_iff.2 ⟨by rw[P7];omega,by rw[P7];omega⟩]at hB;unfold ak;rw[q9 c1,q9 (show 1<=(aq l).length/\(aq l).length<=6 from⟨c2,c3⟩),l6,l6]
  cases Ss:l.all cF with
  | false=>
   rw[n4];repeat' ((conv=>whnf);first|refine Or.inl ?_|apply oi|apply fi|intro h|refine ci hF (ai rfl trivial) ?_|refine ci hB (ai rfl (ai rfl (ai rfl trivial))) ?_|exact Y2|refine e_ rfl ?_)
   all_goals try exact Q1
   conv=>whnf
   refine⟨{k:Nat//k<=l.length/\(l.drop k).all cF=false},fun q=>⟨[(0,vP l),(3,.r (.c (.own (3,0,0)))),(25,vP l),(26,tI .i64 ((l.map Qt.tr).length:Int)),(27,tI .i64 (q.1:Int))],[((3,0,0),some (.arr true 1 ((aq l).map fun n:Nat=>aa n)))],[3]⟩,fun q=>l.length-q.1,⟨0,o_,Ss⟩,?_,?_⟩
   ·exact Z1
   intro⟨k,hk,hr⟩;dsimp only at hk hr⊢;by_cases O4:k<l.length
   ·obtain⟨x,hx⟩:=ae O4;rw[Hu hx]at hr;have hL:=qO x (hs x (c9 hx))
    cases ho:cF x with
    | false=>
     rw[ho]at hL;repeat' ((conv=>whnf);first|refine Or.inl ?_|apply oi|apply fi|intro h|refine⟨k,x.tr,rfl,ab hx,?_⟩|refine ci hL (ai (ai rfl (ai rfl (ai rfl (ai rfl trivial)))) trivial) ?_|exact Y2|refine e_ rfl ?_)
     all_goals try exact Q1
    | true=>
     rw[ho]at hL hr;rw[l6]at hr;repeat' ((conv=>whnf);first|refine Or.inl ?_|apply oi|apply fi|intro h|refine⟨k,x.tr,rfl,ab hx,?_⟩|refine ci hL (ai (ai rfl (ai rfl (ai rfl (ai rfl trivial)))) trivial) ?_|exact Y2|refine e_ rfl ?_)
     all_goals try exact Q1
     conv=>whnf
     refine⟨⟨k+1,o_,hr⟩,?_,KD⟩;exact Z3
   ·rw[m6 o_]at hr
    cases hr
  | true=>
   have O7:∀x∈l,cF x=true:=n9.1 Ss;rw[l6];repeat' ((conv=>whnf);first|refine Or.inl ?_|apply oi|apply fi|intro h|refine ci hF (ai rfl trivial) ?_|refine ci hB (ai rfl (ai rfl (ai rfl trivial))) ?_|exact Y2|refine e_ rfl ?_)
   all_goals try exact Q1
   conv=>whnf
   refine⟨{k:Nat//k<=l.length},fun q=>⟨[(0,vP l),(3,.r (.c (.own (3,0,0)))),(25,vP l),(26,tI .i64 ((l.map Qt.tr).length:Int)),(27,tI .i64 (q.1:Int))],[((3,0,0),some (.arr true 1 ((aq l).map fun n:Nat=>aa n)))],[3]⟩,fun q=>l.length-q.1,⟨0,o_⟩,?_,?_⟩
   ·exact Z1
   intro⟨k,hk⟩;dsimp only at hk⊢;by_cases O4:k<l.length
   ·obtain⟨x,hx⟩:=ae O4;have hL:=qO x (hs x (c9 hx));rw[O7 x (c9 hx)]at hL;repeat' ((conv=>whnf);first|refine Or.inl ?_|apply oi|apply fi|intro h|refine⟨k,x.tr,rfl,ab hx,?_⟩|refine ci hL (ai (ai rfl (ai rfl (ai rfl (ai rfl trivial)))) trivial) ?_|exact Y2|refine e_ rfl ?_)
    all_goals try exact Q1
    conv=>whnf
    refine⟨⟨k+1,o_⟩,?_,KD⟩;exact Z3
   ·clear hB hF;have Rq:0<l.length:=o_;obtain⟨x0,S5⟩:=ae Rq;have QZ:(x0.L3.map ah).length=x0.L3.length:=s_
    cases hho:headOk l with
    | false=>
     rw[n4];rw[vQ S5]at hho;repeat' ((conv=>whnf);first|refine Or.inl ?_|apply oi|apply fi|intro h|refine⟨0,x0.tr,rfl,ab S5,?_⟩|exact Y2|refine e_ rfl ?_)
     all_goals try exact Q1
     all_goals try exact Q29
    | true=>
     rw[l6];obtain⟨R,hR⟩:∃R,jA l (aq l) 0=R:=⟨_,rfl⟩;rw[<-Hn,hR];rw[vQ S5]at hho;repeat' ((conv=>whnf);first|refine Or.inl ?_|apply oi|apply fi|intro h|refine⟨0,x0.tr,rfl,ab S5,?_⟩|exact Y2|refine e_ rfl ?_)
     all_goals try exact Q1
     all_goals try exact Q29
     conv=>whnf
     refine⟨{q:Nat×Nat//q.1<=(aq l).length/\q.2<=l.length/\jA l ((aq l).drop q.1) q.2=R},fun q=>⟨[(0,vP l),(6,tI .i64 (q.1.2:Int)),(55,.r (.c (.own (3,0,0)))),(56,tI .i64 (((aq l).map fun n:Nat=>aa n).length:Int)),(57,tI .i64 (q.1.1:Int))],[((3,0,0),some (.arr true 1 ((aq l).map fun n:Nat=>aa n)))],[3]⟩,fun q=>(aq l).length-q.1.1,⟨(0,0),g_,g_,hR⟩,?_,?_⟩
     ·exact Z1
     intro⟨⟨j,next⟩,hj,Sb,hr⟩;dsimp only at hj Sb hr⊢;by_cases Q0:j<(aq l).length
     ·obtain⟨f,hf⟩:=ae Q0;obtain⟨Tv,x,hx,agx⟩:=kN (c9 hf);rw[dX hf,Gw]at hr;have hE:=dL l (f:Int) hl;have hN:=gB l x.J7 hl;have YA:j<((aq l).map fun n:Nat=>aa n).length:=by rw[P7];exact Q0
      cases he:h_ l f with
      | none=>
       rw[bc,kY he]at hE;rw[he]at hr;subst hr
       generalize fS l x.J7=ff at *
       repeat' ((conv=>whnf);first|refine aD ?_|apply au|apply oi|apply fi|intro h|refine⟨j,rfl,YA,?_⟩|refine⟨(nR f),(ab hf),?_⟩|refine⟨f,x.tr,rfl,ab hx,?_⟩|refine cl hE ?_|refine cl hN ?_|exact Y2|refine e_ rfl ?_)
       all_goals try exact Q1
      | some e=>
       obtain⟨_,_,_,_,QI,QP⟩:=aI he;rw[bc,aU he]at hE;rw[he]at hr;dsimp only at hr;have hK:=tN l f e c1 hs O7 he;have SX:nameFirst l f=(findN l 0 x.J7==some f):=by unfold nameFirst;rw[hx]
       have VW:(fS l x.J7==(f:Int))=nameFirst l f:=by
        rw[SX,fS]
        cases findN l 0 x.J7 with|none=>simp[cn]|some m=>rw[u0];simp[cn];omega
       generalize fS l x.J7=ff at *
       by_cases hc:f=next/\nameFirst l f=true/\kL l f e=true
       ·rw[b9 hc]at hr;obtain⟨d1,d2,d3⟩:=hc;rw[d2]at VW;have hff:=z8 VW;subst hff;rw[d3]at hK;repeat' ((conv=>whnf);first|refine aD ?_|apply au|apply oi|apply fi|intro h|refine⟨j,rfl,YA,?_⟩|refine⟨(nR f),(ab hf),?_⟩|refine⟨f,x.tr,rfl,ab hx,?_⟩|refine cl hE ?_|refine cl hN ?_|refine cl hK ?_|exact Y2|refine e_ rfl ?_)
        all_goals try exact Q1
        all_goals try exact Q3
        conv=>whnf
        refine⟨⟨(j+1,e+1),g_,g_,hr⟩,?_,KD⟩;repeat' ((conv=>whnf);first|refine aD ?_|apply au|apply oi|apply fi|intro h|exact Y4|refine e_ rfl ?_)
       ·rw[b8 hc]at hr;subst hr
        have UV:∀b1 b2:Bool,kL l f e=b2->(ff==(f:Int))=b1->f=next->b1=true->b2=true->False:=by intro b1 b2 h1 h2 h3 h4 h5;subst h4;subst h5;exact hc ⟨h3,by rw[<-VW];exact h2,h1⟩
        cases hfk:kL l f e with
        | true=>
         rw[hfk]at hK;repeat' ((conv=>whnf);first|refine aD ?_|apply au|apply oi|apply fi|intro h|refine⟨j,rfl,YA,?_⟩|refine⟨(nR f),(ab hf),?_⟩|refine⟨f,x.tr,rfl,ab hx,?_⟩|refine cl hE ?_|refine cl hN ?_|refine cl hK ?_|exact Y2|refine e_ rfl ?_)
         all_goals try exact Q1
         all_goals(exfalso;refine UV true true hfk ?_ ?_ rfl rfl<;>simp_all<;>omega)
        | false=>
         rw[hfk]at hK;repeat' ((conv=>whnf);first|refine aD ?_|apply au|apply oi|apply fi|intro h|refine⟨j,rfl,YA,?_⟩|refine⟨(nR f),(ab hf),?_⟩|refine⟨f,x.tr,rfl,ab hx,?_⟩|refine cl hE ?_|refine cl hN ?_|refine cl hK ?_|exact Y2|refine e_ rfl ?_)
         all_goals try exact Q1
     ·rw[m6 o_,jA]at hr;repeat' ((conv=>whnf);first|refine Or.inl ?_|apply oi|apply fi|intro h|exact Y2|refine e_ rfl ?_)
      conv=>whnf
      refine⟨{k:Nat//k<=l.length},fun q=>⟨[(0,vP l),(6,tI .i64 (next:Int)),(10,.r (.c (.own (10,0,0)))),(94,tI .i64 ((l.map Qt.tr).length:Int)),(95,tI .i64 (q.1:Int))],[((10,0,0),some (.arr true 1 (((List.range q.1).map fun j:Nat=>bi l (j:Int)).map aa)))],[10]⟩,fun q=>l.length-q.1,⟨0,o_⟩,?_,?_⟩
      ·exact Z1
      intro⟨k,hk⟩;dsimp only at hk⊢;have agi:(((List.range k).map fun j:Nat=>bi l (j:Int)).map aa).length=k:=s_;by_cases O4:k<l.length
      ·have hS:=qM l (k:Int) hl;repeat' ((conv=>whnf);first|refine aD ?_|apply au|apply oi|apply fi|intro h|refine cl hS ?_|exact Y2|refine e_ rfl ?_)
       all_goals try exact Q2
       conv=>whnf
       refine⟨⟨k+1,o_⟩,?_,KD⟩;repeat' ((conv=>whnf);first|refine aD ?_|apply au|apply oi|apply fi|intro h|exact Y4|refine e_ rfl ?_)
       all_goals exact⟨by simp[D6,aa]⟩
      ·have QV:k=l.length:=o_;subst QV;obtain⟨Q,hQ⟩:∃Q,kH l=Q:=⟨_,rfl⟩;rw[hQ]at hr;rw[kH]at hQ;repeat' ((conv=>whnf);first|refine Or.inl ?_|apply oi|apply fi|intro h|exact Y2|refine e_ rfl ?_)
       conv=>whnf
       refine⟨{k:Nat//k<=l.length/\elsesIn l 0 l.length (l.length-k) k=Q},fun q=>⟨[(0,vP l),(6,tI .i64 (next:Int)),(10,.r (.c (.own (10,0,0)))),(105,vP l),(106,tI .i64 ((l.map Qt.tr).length:Int)),(107,tI .i64 (q.1:Int))],[((10,0,0),some (.arr true 1 (((List.range l.length).map fun j:Nat=>bi l (j:Int)).map aa)))],[10]⟩,fun q=>l.length-q.1,⟨0,o_,by rw[u7];exact hQ⟩,?_,?_⟩
       ·exact Z1
       intro⟨k,hk,hq⟩;dsimp only at hk hq⊢;by_cases O4:k<l.length
       ·obtain⟨x,hx⟩:=ae O4;rw[DF O4 hx]at hq;have hC:=lq ((List.range l.length).map fun j:Nat=>bi l (j:Int)) (k:Int) aad;rw[JJ O4]at hC;by_cases h4:x.J0=4
        ·rw[b9 h4,u7]at hq
         cases ha:anyE l k k 0 with
         | false=>
          rw[ha]at hC hq;rw[n4]at hq;subst hq;rw[n4]at hr;subst hr;repeat' ((conv=>whnf);first|refine Or.inl ?_|apply oi|apply fi|intro h|refine⟨k,x.tr,rfl,ab hx,?_⟩|refine ci hC (ai rfl (ai rfl trivial)) ?_|exact Y2|refine e_ rfl ?_)
          all_goals try exact Q1
         | true=>rw[ha]at hC hq;rw[l6]at hq;exact V47
        ·rw[b8 h4,l6]at hq;exact V47
       ·rw[show l.length-k=0 by omega]at hq;have hq:true=Q:=hq;subst hq;rw[l6]at hr;subst hr;repeat' ((conv=>whnf);first|refine Or.inl ?_|apply oi|apply fi|intro h|exact Y2|refine e_ rfl ?_)
        all_goals(refine⟨congrArg Tr.bool ?_⟩;rw[O2,u0];simp;omega)
 ·have:ak l=false:=by
   unfold ak;by_cases SA:l.length<=60
   ·rw[A5 (show ¬(1<=(aq l).length/\(aq l).length<=6) from fun h=>c1 ⟨SA,h⟩)];simp
   ·rw[A5 SA,n4]
  rw[this];by_cases SA:l.length<=60
  ·have hw:af (((aq l).map fun n:Nat=>aa n).length:Int) 1 6=false:=by cases hx:af (((aq l).map fun n:Nat=>aa n).length:Int) 1 6 with|false=>rfl|true=>have:=within_iff.1 hx;rw[P7]at this;exact absurd ⟨SA,o_,o_⟩ c1
   rw[hw]at hB;repeat' ((conv=>whnf);first|refine Or.inl ?_|apply oi|apply fi|intro h|refine ci hF (ai rfl trivial) ?_|refine ci hB (ai rfl (ai rfl (ai rfl trivial))) ?_|exact Y2|refine e_ rfl ?_)
   all_goals try exact Q1
  ·repeat' ((conv=>whnf);first|refine Or.inl ?_|apply oi|apply fi|intro h|refine ci hF (ai rfl trivial) ?_|refine ci hB (ai rfl (ai rfl (ai rfl trivial))) ?_|exact Y2|refine e_ rfl ?_)
   all_goals try exact Q1
theorem Hf {p q:Prop}[Decidable p][Decidable q]{α:Type}{a b:α}{r:α}(hp:p):((if p/\q then a else b)=r)=((if q then a else b)=r):=by
 by_cases hq:q
 ·rw[b9 ⟨hp,hq⟩,b9 hq]
 ·rw[b8 (fun h=>hq h.2),b8 hq]
theorem NP {l:List Qt}{j i:Nat}:(bi l (j:Int)==(i:Int))=(i_ l j==some i):=by
 rw[bi,b9 o_,e7]
 cases i_ l j with|none=>simp[cn]|some m=>rw[u0];simp[cn];omega
theorem V60{p:Prop}(h:p:=by
 repeat' ((conv=>whnf);first|apply Wx|apply W6|apply oi|apply fi|intro h|refine⟨i,y.tr,rfl,ab hy,?_⟩|refine⟨j,t.tr,rfl,ab ht,?_⟩|refine cl hI ?_|refine cl hF ?_|exact Y6|refine e_ rfl ?_)
 all_goals try(exfalso;(try simp_all[af]);(try omega);done)):p:=h
theorem V38{p:Prop}(h:p:=by
 repeat' ((conv=>whnf);first|apply Wx|apply W6|apply oi|apply fi|intro h|refine⟨i,y.tr,rfl,ab hy,?_⟩|refine⟨j,t.tr,rfl,ab ht,?_⟩|refine cl hI ?_|refine cl hF ?_|exact Y6|refine e_ rfl ?_)
 all_goals try exact Q1
 all_goals try exact Q3
 conv=>whnf
 refine⟨⟨j+1,o_,Rf⟩,?_,KD⟩
 exact Z7):p:=h
theorem Q23{p:Prop}(h:p:=by exfalso;have h':=j5 h;rw[Vz]at h';omega):p:=h
theorem Q30{p:Prop}(h:p:=by exfalso;simp only[p6,i8]at h;omega):p:=h
theorem zY (l:List Qt)(k e:Nat)(hl:l.length<=60)(hs:∀x∈l,aS 1048576 x.tr)(he:h_ l k=some e):Sim.Spec prog 122 [tvP l,tvI k,tvI e] (rB (om l k e)):=by
 refine aW hΓ aF func122 rfl d_ rfl ?_;have O2:(l.map Qt.tr).length=l.length:=s_;have hL:=ic l k o_ hs;obtain⟨ZW,ZI⟩:=Bw (l:=l) (k:=(k:Int)) o_ hs;have Yk:=(aI he);obtain⟨x0,S5,ho0,YF,QI,QP⟩:=Yk;unfold om
 generalize a_ l (k:Int)=loc at *
 have Sk:(loc.map ah).length=loc.length:=s_;by_cases h8:loc.length<=8
 ·rw[q9 h8,l6];obtain⟨R,hR⟩:∃R,oh l loc k e (e-(k+1)) (k+1) 0=R:=⟨_,rfl⟩;rw[hR];repeat' ((conv=>whnf);first|apply Wx|apply W6|apply oi|apply fi|intro h|refine cl hL ?_|exact Y6|refine e_ rfl ?_)
  conv=>whnf
  refine⟨{q:Nat×List Nat//k<q.1/\q.1<=e/\StkOk l e q.1 q.2/\q.2.length<=4/\oh l loc k e (e-q.1) q.1 q.2.length=R},fun q=>⟨[(0,vP l),(1,tI .i64 (k:Int)),(2,tI .i64 (e:Int)),(7,.r (.c (.own (7,0,0)))),(8,tI .i64 ((q.1.2.length:Nat):Int)),(9,tI .i64 (q.1.1:Int))],[((7,0,0),some (.arr true 1 (loc.map ah)))],[7]⟩,fun q=>e-q.1.1,⟨(k+1,[]),g_,g_,YF,s_,hR⟩,?_,?_⟩
  ·exact Z7
  intro⟨⟨i,es⟩,q1,q2,g1,g2,g4⟩;dsimp only at q1 q2 g1 g2 g4⊢;by_cases O4:i<e
  ·obtain⟨y,hy⟩:=ae (l:=l) (k:=i) o_;have Vz:(y.L0.map QC.tr).length=y.L0.length:=s_;have agn:=(dv (hs y (c9 hy))).2.2.2.1;obtain⟨K,hK⟩:∃K,bQ l loc y.L0=K:=⟨_,rfl⟩;rw[GQ O4 hy,hK]at g4;by_cases h0:y.J0=0
   ·rw[b9 h0]at g4;subst g4;repeat' ((conv=>whnf);first|apply Wx|apply W6|apply oi|apply fi|intro h|refine⟨i,y.tr,rfl,ab hy,?_⟩|exact Y6|refine e_ rfl ?_)
    all_goals try exact Q3
   ·rw[b8 h0]at g4;repeat' ((conv=>whnf);first|(with_reducible apply W1;fail_if_success (with_reducible show Wo _ _ _ _ (Code.seq (Code.region 8 _ _) _) _ _))|(with_reducible first|apply W2|apply W3|apply W4|apply W5|apply W6|apply W7|apply W8|apply W9)|apply au|apply oi|apply fi|intro h|refine⟨i,y.tr,rfl,ab hy,?_⟩|exact Y6|refine e_ rfl ?_)
    refine lb {q:Nat×List Nat//StkOk l e (i+1) q.2/\q.1=q.2.length/\q.1<=60/\(if q.1<=4/\K=true then oh l loc k e (e-(i+1)) (i+1) q.1 else false)=R} (fun q=>⟨[(0,vP l),(1,tI .i64 (k:Int)),(2,tI .i64 (e:Int)),(7,.r (.c (.own (7,0,0)))),(8,tI .i64 ((q.1.1:Nat):Int)),(9,tI .i64 (i:Int))],[((7,0,0),some (.arr true 1 (loc.map ah)))],[7]⟩) ?_ ?_
    ·by_cases TY:y.J0=3\/y.J0=5
     ·rw[b8 (fun h=>o_)]at g4;have hd:dep y es.length=es.length+1:=(by unfold dep;rw[b9 TY]);rw[hd]at g4;obtain⟨m',Sh,WA,RA⟩:=g1.push hy (opensK_iff.2 o_);have Za:IntKind.i64.wrap ((es.length:Int)+1)=((es.length+1:Nat):Int):=(by rw[c8 _ o_];omega);repeat' ((conv=>whnf);first|apply Wx|apply W6|apply oi|apply fi|intro h|refine⟨i,y.tr,rfl,ab hy,?_⟩|exact Y6|refine e_ rfl ?_)
      all_goals try exact Q3
      all_goals
       conv=>whnf
       refine⟨⟨(es.length+1,m'::es),RA,rfl,g_,g4⟩,?_⟩;repeat' ((conv=>whnf);first|apply Wx|apply W6|apply oi|apply fi|intro h|exact Y8|refine e_ rfl ?_)
       all_goals try exact⟨by dsimp only;rw[Za]⟩
     ·by_cases Zx:y.J0=7
      ·rw[b8 (fun h=>o_)]at g4;rcases g1.pop hy Zx with⟨_,h'⟩|⟨R6,Sw,RA⟩
       ·omega
       have hd:dep y es.length=R6.length:=(by unfold dep;rw[b8 TY,b9 Zx,Sw];simp);have Y0:es.length=R6.length+1:=(by rw[Sw];rfl);rw[hd]at g4;have Za:IntKind.i64.wrap ((es.length:Int)-1)=(R6.length:Int):=(by rw[c8 _ o_];omega);repeat' ((conv=>whnf);first|apply Wx|apply W6|apply oi|apply fi|intro h|refine⟨i,y.tr,rfl,ab hy,?_⟩|exact Y6|refine e_ rfl ?_)
       all_goals try exact Q3
       conv=>whnf
       refine⟨⟨(R6.length,R6),RA,rfl,g_,g4⟩,?_⟩;repeat' ((conv=>whnf);first|apply Wx|apply W6|apply oi|apply fi|intro h|exact Y8|refine e_ rfl ?_)
       all_goals try exact⟨by dsimp only;rw[Za]⟩
      ·have hd:dep y es.length=es.length:=by unfold dep;rw[b8 TY,b8 Zx]
       have ho:cU y.J0=false:=by exact V151
       have RA:=g1.other hy ho Zx;rw[hd]at g4;by_cases h4:y.J0=4
       ·obtain⟨Av,hA⟩:∃Av,anyE l i (i-k) k=Av:=⟨_,rfl⟩;rw[hA]at g4;repeat' ((conv=>whnf);first|apply Wx|apply W6|apply oi|apply fi|intro h|refine⟨i,y.tr,rfl,ab hy,?_⟩|exact Y6|refine e_ rfl ?_)
        all_goals try exact Q3
        conv=>whnf
        refine⟨{q:Nat×Bool//q.1<=i/\(q.2||anyE l i (i-q.1) q.1)=Av},fun q=>⟨[(0,vP l),(1,tI .i64 (k:Int)),(2,tI .i64 (e:Int)),(7,.r (.c (.own (7,0,0)))),(8,tI .i64 ((es.length:Nat):Int)),(9,tI .i64 (i:Int)),(10,tB q.1.2),(11,tI .i64 (q.1.1:Int))],[((7,0,0),some (.arr true 1 (loc.map ah)))],[7]⟩,fun q=>i-q.1.1,⟨(k,false),g_,by simpa using hA⟩,?_,?_⟩
        ·exact Z2
        intro⟨⟨j,b⟩,hj,hb⟩;dsimp only at hj hb⊢;by_cases R7:j<i
        ·obtain⟨n,hn⟩:∃n,i-j=n+1:=⟨i-j-1,o_⟩;have TI:i-(j+1)=n:=o_;rw[hn,anyE,<-NP]at hb;have hS:=gR l (j:Int) o_
         generalize bi l (j:Int)=ee at *
         cases b with
         | true=>
          repeat' ((conv=>whnf);first|apply Wx|apply W6|apply oi|apply fi|intro h|refine cl hS ?_|exact Y6|refine e_ rfl ?_)
          conv=>whnf
          refine⟨⟨(j+1,true),g_,by simpa using hb⟩,?_,KD⟩
          exact Z7
         | false=>
          repeat' ((conv=>whnf);first|apply Wx|apply W6|apply oi|apply fi|intro h|refine cl hS ?_|exact Y6|refine e_ rfl ?_)
          conv=>whnf
          refine⟨⟨(j+1,(ee==(i:Int))),g_,by dsimp only;rw[TI];simpa using hb⟩,?_,KD⟩;exact Z7
        ·rw[show i-j=0 by omega,anyE,Bool.or_false]at hb;subst hb
         cases b with
         | false=>
          rw[b9 ⟨h4,rfl⟩]at g4;subst g4
          exact Z6
         | true=>
          rw[b8 s_]at g4;repeat' ((conv=>whnf);first|apply Wx|apply W6|apply oi|apply fi|intro h|exact Y6|refine e_ rfl ?_)
          conv=>whnf
          refine⟨⟨(es.length,es),RA,rfl,g_,g4⟩,?_⟩;exact Z2
       ·rw[b8 (fun h=>h4 h.1)]at g4;repeat' ((conv=>whnf);first|apply Wx|apply W6|apply oi|apply fi|intro h|refine⟨i,y.tr,rfl,ab hy,?_⟩|exact Y6|refine e_ rfl ?_)
        all_goals try exact Q3
        conv=>whnf
        refine⟨⟨(es.length,es),RA,rfl,g_,g4⟩,?_⟩;exact Z2
    clear g4 g1;intro⟨⟨d,R6⟩,RA,Tj,ack,g4⟩;dsimp only at RA Tj ack g4⊢;have Za:(d:Int)=(d:Int):=rfl;by_cases hd4:(d)<=4
    ·rw[Hf hd4]at g4;repeat' ((conv=>whnf);first|apply Wx|apply W6|apply oi|apply fi|intro h|refine⟨i,y.tr,rfl,ab hy,?_⟩|exact Y6|refine e_ rfl ?_)
     all_goals try exact Q30
     conv=>whnf
     refine⟨{j:Nat//j<=y.L0.length/\(y.L0.drop j).all (bR l loc)=K},fun q=>⟨[(0,vP l),(1,tI .i64 (k:Int)),(2,tI .i64 (e:Int)),(7,.r (.c (.own (7,0,0)))),(8,tI .i64 (d:Int)),(9,tI .i64 (i:Int)),(12,tI .i64 (q.1:Int))],[((7,0,0),some (.arr true 1 (loc.map ah)))],[7]⟩,fun q=>y.L0.length-q.1,⟨0,o_,hK⟩,?_,?_⟩
     ·exact Z2
     intro⟨j,hj,Rf⟩;dsimp only at hj Rf⊢;by_cases Q0:j<y.L0.length
     ·obtain⟨t,ht⟩:=ae Q0;rw[Hu ht]at Rf;have hI:=er loc t.J7 o_;have hF:=dJ l t.J7 o_;by_cases h1:t.J0=1
      ·have e1:bR l loc t=loc.contains t.J7:=(by unfold bR;rw[b9 h1]);rw[e1]at Rf;have S3:=qq (l:=loc) (s:=t.J7)
       generalize cN loc t.J7=ix at *
       generalize fS l t.J7=ff at *
       cases hc:loc.contains t.J7 with
       | false=>
        rw[hc]at S3 Rf;rw[n4]at Rf;subst Rf;rw[b8 s_]at g4;subst g4
        exact V60
       | true=>rw[hc]at S3 Rf;rw[l6]at Rf;exact V38
      ·by_cases h7:t.J0=7
       ·cases hf:findN l 0 t.J7 with
        | none=>
         have e1:bR l loc t=false:=(by unfold bR;rw[b8 h1,b9 h7,hf]);rw[e1,n4]at Rf;subst Rf;rw[b8 s_]at g4;subst g4;rw[show fS l t.J7= -1 from kY hf]at hF
         exact V60
        | some f=>
         obtain⟨P7,x,hx,S5,_⟩:=dR hf;have e1:bR l loc t=((x.L3.length:Int)==t.M1):=(by unfold bR;rw[b8 h1,b9 h7,hf];dsimp only;rw[hx]);rw[e1]at Rf;rw[show fS l t.J7=(f:Int) from aU hf]at hF;have U7:(x.L3.map ah).length=x.L3.length:=s_;by_cases hn:(x.L3.length:Int)=t.M1
         ·rw[w5.2 hn,l6]at Rf;repeat' ((conv=>whnf);first|apply Wx|apply W6|apply oi|apply fi|intro h|refine⟨i,y.tr,rfl,ab hy,?_⟩|refine⟨j,t.tr,rfl,ab ht,?_⟩|refine⟨f,x.tr,rfl,ab hx,?_⟩|refine cl hI ?_|refine cl hF ?_|exact Y6|refine e_ rfl ?_)
          all_goals try exact Q1
          all_goals try exact Q3
          conv=>whnf
          refine⟨⟨j+1,o_,Rf⟩,?_,KD⟩;exact Z7
         ·rw[w3.2 hn,n4]at Rf;subst Rf;rw[b8 s_]at g4;subst g4;repeat' ((conv=>whnf);first|apply Wx|apply W6|apply oi|apply fi|intro h|refine⟨i,y.tr,rfl,ab hy,?_⟩|refine⟨j,t.tr,rfl,ab ht,?_⟩|refine⟨f,x.tr,rfl,ab hx,?_⟩|refine cl hI ?_|refine cl hF ?_|exact Y6|refine e_ rfl ?_)
          all_goals try exact Q1
          all_goals try exact Q3
       ·have e1:bR l loc t=true:=(by unfold bR;rw[b8 h1,b8 h7]);rw[e1,l6]at Rf;exact V38
     ·rw[m6 o_,I7]at Rf;subst Rf;rw[b9 rfl]at g4;repeat' ((conv=>whnf);first|apply Wx|apply W6|apply oi|apply fi|intro h|refine⟨i,y.tr,rfl,ab hy,?_⟩|exact Y8|refine e_ rfl ?_)
      all_goals try exact Q23
      conv=>whnf
      refine⟨⟨(i+1,R6),g_,g_,RA,g_,by dsimp only;rw[<-Tj];exact g4⟩,?_,KD⟩;repeat' ((conv=>whnf);first|apply Wx|apply W6|apply oi|apply fi|intro h|exact Y8|refine e_ rfl ?_)
      all_goals try exact⟨by dsimp only;rw[Tj]⟩
      all_goals try exact⟨K2⟩
    ·rw[b8 (fun h=>hd4 h.1)]at g4;subst g4;repeat' ((conv=>whnf);first|apply Wx|apply W6|apply oi|apply fi|intro h|refine⟨i,y.tr,rfl,ab hy,?_⟩|exact Y6|refine e_ rfl ?_)
     all_goals try exact Q30
  ·rw[Jw o_]at g4;subst g4;exact Z6
 ·rw[A5 h8,n4];repeat' ((conv=>whnf);first|apply Wx|apply W6|apply oi|apply fi|intro h|refine cl hL ?_|exact Y6|refine e_ rfl ?_)
theorem LP {l:List Qt}:(aq l).all (nameFirst l)=true↔∀k x,l[k]?=some x->x.J0=0->nameFirst l k=true:=by
 rw[n9];constructor
 ·intro H k x hx h0;refine H k ?_
  have key:∀(n i:Nat),l.length-i<=n->i<=k->k∈funsF (l.drop i) i:=by
   have QV:k<l.length:=by exact V145
   intro n
   induction n with
   | zero=>intro i h1 h2;omega
   | succ n ih=>
    intro i h1 h2;obtain⟨y,hy⟩:=ae (l:=l) (k:=i) o_;rw[mK hy,f0];by_cases RB:i=k
    ·subst RB;rw[hx]at hy;injection hy with hy;subst hy;rw[b9 h0];exact .inl s_
    ·exact .inr (ih (i+1) o_ o_)
  have:=key l.length 0 o_ o_;rwa [A1]at this
 ·intro H k hk;obtain⟨_,x,hx,h0⟩:=kN hk;exact H k x hx h0
def ok1 (l:List Qt)(k:Nat)(x:Qt):Bool:=cF x&&(if x.J0=0 then nameFirst l k else true)
def okN (l:List Qt):Nat->Nat->Bool
 | 0,_=>true
 | n+1,k=>match l[k]? with
  | some x=>ok1 l k x&&okN l n (k+1)
  | none=>true
theorem Gi {l:List Qt}{k:Nat}{x:Qt}(hx:l[k]?=some x):okN l (l.length-k) k=(ok1 l k x&&okN l (l.length-(k+1)) (k+1)):=by
 have hk:k<l.length:=by exact V145
 rw[show l.length-k=(l.length-(k+1))+1 by omega,okN,hx]
theorem Dr {l:List Qt}:∀(n k:Nat),l.length-k<=n->(okN l (l.length-k) k=true↔∀j x,k<=j->l[j]?=some x->ok1 l j x=true)
 | n,k,hn=>by
  by_cases hk:k<l.length
  ·obtain⟨x,hx⟩:=ae hk
   cases n with
   | zero=>omega
   | succ n=>
    rw[Gi hx,d5,Dr n (k+1) o_];constructor
    ·rintro⟨h1,h2⟩ j y hj hy;by_cases SN:j=k
     ·subst SN;rw[hx]at hy;injection hy with hy;subst hy;exact h1
     ·exact h2 j y o_ hy
    ·intro H;exact⟨H k x (d7 _) hx,fun j y hj hy=>H j y o_ hy⟩
  ·rw[show l.length-k=0 by omega];refine⟨fun _ j x hj hx=>?_,fun _=>rfl⟩;rw[e9 o_]at hx
   cases hx
theorem Oc (l:List Qt):okN l l.length 0=(l.all cF&&(aq l).all (nameFirst l)):=by
 have h0:=Dr (l:=l) l.length 0 o_;rw[u7]at h0;rw[u0,h0,d5,LP,n9];constructor
 ·intro H;refine⟨fun x hx=>?_,fun k x hx h0=>?_⟩
  ·obtain⟨k,hk⟩:=C4 hx;have:=H k x o_ hk;rw[ok1,d5]at this;exact this.1
  ·have:=H k x o_ hx;rw[ok1,d5,b9 h0]at this;exact this.2
 ·rintro⟨H1,H2⟩ j x _ hx;rw[ok1,d5];refine⟨H1 x (c9 hx),?_⟩;split
  ·exact H2 j x hx aav
  ·rfl
theorem wj {l:List Qt}:ak l=(decide (l.length<=60)&&(decide ((aq l).length<=6)&&(headOk l&&(okN l l.length 0&&ck (om l) l l.length 0)))):=by
 unfold ak;rw[Oc,rx]
 cases hh:headOk l with
 | false=>simp
 | true=>
  have h1:1<=(aq l).length:=by
   cases l with
   | nil=>cases hh
   | cons x r=>
    have:x.J0=0:=by unfold headOk at hh;simp only[d5,w5]at hh;exact hh.1
    rw[aq,funsF,b9 this];simp
  have e:(decide (1<=(aq l).length/\(aq l).length<=6))=decide ((aq l).length<=6):=by rw[decide_eq_decide];omega
  rw[e];generalize decide (l.length<=60)=b1;generalize decide ((aq l).length<=6)=b2;generalize l.all cF=b3;generalize(aq l).all (nameFirst l)=b4;generalize kH l=b5;generalize ck (kL l) l l.length 0=b6
  cases b1<;>cases b2<;>cases b3<;>cases b4<;>cases b5<;>cases b6<;>rfl
theorem V82{p:Prop}(h:p:=by
 repeat' ((conv=>whnf);first|apply Wx|apply W6|apply oi|apply fi|intro h|refine cl hF ?_|refine⟨0,x0.tr,rfl,ab S5,?_⟩|exact Y6|refine e_ rfl ?_)
 all_goals try(exfalso;simp_all[iM];done)):p:=h
theorem V123{p:Prop}(h:p:=by
 unfold nameFirst;rw[hx,fS];dsimp only
 cases findN l 0 x.J7 with
 | none=>simp[cn]
 | some m=>rw[u0];simp[cn];omega):p:=h
theorem V53{p:Prop}(h:p:=by
 repeat' ((conv=>whnf);first|apply Wx|apply W6|apply oi|apply fi|intro h|refine cl hL ?_|refine cl hN ?_|refine⟨k,x.tr,rfl,ab hx,?_⟩|exact Y6|refine e_ rfl ?_)
 all_goals try exact Q3
 all_goals
  conv=>whnf
  refine⟨⟨k+1,o_,by simp_all⟩,?_,KD⟩
  exact Z7):p:=h
theorem V55{p:Prop}(h:p:=by
 repeat' ((conv=>whnf);first|apply Wx|apply W6|apply oi|apply fi|intro h|refine cl hL ?_|refine cl hN ?_|refine⟨k,x.tr,rfl,ab hx,?_⟩|exact Y6|refine e_ rfl ?_)
 all_goals try exact Q3
 all_goals
  conv=>whnf
  refine⟨⟨k+1,o_⟩,?_,KD⟩
  exact Z7):p:=h
theorem dz (l:List Qt)(U6:aK 1048576 (.lst 4 (l.map Qt.tr))):Sim.Spec prog 47 [tvP l] (rB (ak l)):=by
 refine aW hΓ aF func47 rfl d_ rfl ?_;have hl:=cP U6;have hs:∀x∈l,aS 1048576 x.tr:=fun x hx=>bk U6 hx;have O2:(l.map Qt.tr).length=l.length:=s_;have hF:=dC l hl;have P7:((aq l).map fun n:Nat=>aa n).length=(aq l).length:=s_;rw[wj];by_cases c1:l.length<=60
 ·rw[q9 c1,l6];by_cases Rq:0<l.length
  ·obtain⟨x0,S5⟩:=ae Rq;have QZ:(x0.L3.map ah).length=x0.L3.length:=s_;have Zt:=vQ S5;by_cases c2:(aq l).length<=6
   ·rw[q9 c2,l6]
    cases hh:headOk l with
    | false=>
     rw[hh]at Zt;rw[n4]
     exact V82
    | true=>
     rw[hh]at Zt;rw[l6]
     cases O7:okN l l.length 0 with
     | false=>
      rw[n4];repeat' ((conv=>whnf);first|apply Wx|apply W6|apply oi|apply fi|intro h|refine cl hF ?_|refine⟨0,x0.tr,rfl,ab S5,?_⟩|exact Y6|refine e_ rfl ?_)
      all_goals try exact Q29
      conv=>whnf
      refine⟨{k:Nat//k<=l.length/\okN l (l.length-k) k=false},fun q=>⟨[(0,vP l),(3,tI .i64 (q.1:Int))],[],[]⟩,fun q=>l.length-q.1,⟨0,o_,by rw[u7];exact O7⟩,?_,?_⟩
      ·exact Z2
      intro⟨k,hk,hr⟩;dsimp only at hk hr⊢;by_cases O4:k<l.length
      ·obtain⟨x,hx⟩:=ae O4;rw[Gi hx,ok1]at hr;have hL:=qV x (hs x (c9 hx));have hN:=dJ l x.J7 hl
       have VW:(fS l x.J7==(k:Int))=nameFirst l k:=by exact V123
       generalize fS l x.J7=ff at *
       generalize cF x=lo at *
       generalize nameFirst l k=nf at *
       by_cases h0:x.J0=0
       ·rw[b9 h0]at hr;exact V53
       ·rw[b8 h0,Bool.and_true]at hr;exact V53
      ·rw[show l.length-k=0 by omega]at hr
       cases hr
     | true=>
      rw[l6];obtain⟨R,hR⟩:∃R,ck (om l) l l.length 0=R:=⟨_,rfl⟩;rw[hR];have VX:=(Dr (l:=l) l.length 0 o_);rw[u7]at VX;have VX:=VX.1 O7;repeat' ((conv=>whnf);first|apply Wx|apply W6|apply oi|apply fi|intro h|refine cl hF ?_|refine⟨0,x0.tr,rfl,ab S5,?_⟩|exact Y6|refine e_ rfl ?_)
      all_goals try exact Q29
      conv=>whnf
      refine⟨{k:Nat//k<=l.length},fun q=>⟨[(0,vP l),(3,tI .i64 (q.1:Int))],[],[]⟩,fun q=>l.length-q.1,⟨0,o_⟩,?_,?_⟩
      ·exact Z2
      intro⟨k,hk⟩;dsimp only at hk⊢;by_cases O4:k<l.length
      ·obtain⟨x,hx⟩:=ae O4;have hr:=VX k x o_ hx;rw[ok1]at hr;have hL:=qV x (hs x (c9 hx));have hN:=dJ l x.J7 hl
       have VW:(fS l x.J7==(k:Int))=nameFirst l k:=by exact V123
       clear VX O7
       generalize fS l x.J7=ff at *
       generalize cF x=lo at *
       generalize nameFirst l k=nf at *
       by_cases h0:x.J0=0
       ·rw[b9 h0]at hr;exact V55
       ·rw[b8 h0,Bool.and_true]at hr;exact V55
      ·repeat' ((conv=>whnf);first|apply Wx|apply W6|apply oi|apply fi|intro h|exact Y6|refine e_ rfl ?_)
       conv=>whnf
       refine⟨{k:Nat//k<=l.length/\ck (om l) l (l.length-k) k=R},fun q=>⟨[(0,vP l),(4,tI .i64 (q.1:Int))],[],[]⟩,fun q=>l.length-q.1,⟨0,o_,by rw[u7];exact hR⟩,?_,?_⟩
       ·exact Z2
       intro⟨k,hk,hr⟩;dsimp only at hk hr⊢;by_cases O4:k<l.length
       ·obtain⟨x,hx⟩:=ae O4;rw[lY hx (d7 _)]at hr;have hE:=bW l (k:Int) hl
        cases he:h_ l k with
        | none=>
         rw[bc,kY he]at hE;rw[he]at hr;subst hr;repeat' ((conv=>whnf);first|apply Wx|apply W6|apply oi|apply fi|intro h|refine cl hE ?_|refine⟨k,x.tr,rfl,ab hx,?_⟩|exact Y6|refine e_ rfl ?_)
         all_goals try exact Q3
        | some e=>
         obtain⟨_,_,_,_,QI,QP⟩:=aI he;rw[bc,aU he]at hE;rw[he]at hr;dsimp only at hr;have hK:=zY l k e c1 hs he
         generalize om l k e=fb at *
         by_cases hc:x.J0=0/\fb=true
         ·rw[b9 hc]at hr;obtain⟨d1,d2⟩:=hc;subst d2;repeat' ((conv=>whnf);first|apply Wx|apply W6|apply oi|apply fi|intro h|refine cl hE ?_|refine cl hK ?_|refine⟨k,x.tr,rfl,ab hx,?_⟩|exact Y6|refine e_ rfl ?_)
          all_goals try exact Q3
          conv=>whnf
          refine⟨⟨e+1,o_,hr⟩,?_,KD⟩;exact Z7
         ·rw[b8 hc]at hr;subst hr;repeat' ((conv=>whnf);first|apply Wx|apply W6|apply oi|apply fi|intro h|refine cl hE ?_|refine cl hK ?_|refine⟨k,x.tr,rfl,ab hx,?_⟩|exact Y6|refine e_ rfl ?_)
          all_goals try exact Q3
       ·rw[show l.length-k=0 by omega,ck,q9 o_]at hr;subst hr;exact Z6
   ·rw[A5 c2,n4];exact V82
  ·have acE:l=[]:=z4.1 o_;subst acE;rw[show headOk ([]:List Qt)=false from rfl,n4,E9];repeat' ((conv=>whnf);first|apply Wx|apply W6|apply oi|apply fi|intro h|refine cl hF ?_|exact Y6|refine e_ rfl ?_)
 ·rw[A5 c1,n4];repeat' ((conv=>whnf);first|apply Wx|apply W6|apply oi|apply fi|intro h|refine cl hF ?_|exact Y6|refine e_ rfl ?_)
  all_goals try exact Q3
theorem gj {l:List QC}{p:Nat}{e:Ex}(h:iv l p e):p+e.toks.length<=l.length:=by obtain⟨r,h⟩:=h;have h1:=congrArg List.length h;rw[y9,c7]at h1;have:=e.toks_pos;omega
theorem V88{p:Prop}(h:p:=by
 rw[iS,m7]at h1;subst h1;repeat' ((conv=>whnf);first|apply Wx|apply W6|apply oi|apply fi|intro h|exact Y6|refine e_ rfl ?_)
 all_goals try(exfalso;simp at h;done)):p:=h
theorem Q6{p:Prop}(h:p:=by exfalso;simp at h;first|done|fail):p:=h
theorem V14{p:Prop}(h:p:=by
 rw[ll g1 h3.1]at hX2;have TH:=gj g1;have P7:(a::fs).length=fs.length+1:=rfl;repeat' ((conv=>whnf);first|apply Wx|apply W6|apply oi|apply fi|intro h|refine cl hX2 ?_|exact Y6|refine e_ rfl ?_)
 all_goals try exact Q6
 all_goals try exact Q2
 conv=>whnf
 refine⟨⟨(q+a.toks.length,acc++[q],fs),by dsimp only;rw[<-h1,iS];simp,g2,h3.2,by simp only[c7,d6,e8]at *;omega,g_⟩,?_,by dsimp only;simp⟩;repeat' ((conv=>whnf);first|apply Wx|apply W6|apply oi|apply fi|intro h|exact Y8|refine e_ rfl ?_)
 all_goals try exact⟨by dsimp only;rw[P7,c8 _ o_];congr 1;omega⟩
 all_goals exact⟨by simp[aa]⟩):p:=h
theorem oc (l:List QC)(p:Nat)(t:QC)(es:List Ex)(hl:l.length<=1048576)(hn:ep l)(ho:(Ex.node t es).ok)(hs:iv l p (.node t es)):Sim.Spec prog 272 [tvL 3 (l.map QC.tr),tvI p] (rL 1 ((iS (p+1) es).map nR)):=by
 refine aW hΓ aF func272 rfl d_ rfl ?_;have O2:(l.map QC.tr).length=l.length:=s_;have P6:=gj hs;obtain⟨ht,TZ⟩:=ip hs;have hX:=lD l p hl hn;rw[ll hs ho]at hX;have htn:=hn t (c9 ht);have hA:=tX t htn;obtain⟨e1,e2⟩:=rg ho.1;have QP:es.length=ar t:=ho.2.1;rw[e1,<-QP]at hA;obtain⟨R,hR⟩:∃R,iS (p+1) es=R:=⟨_,rfl⟩;rw[hR]
 have Se:p<l.length:=by have:=(Ex.node t es).toks_pos;omega
 generalize p+(Ex.node t es).toks.length=pe at *
 repeat' ((conv=>whnf);first|apply Wx|apply W6|apply oi|apply fi|intro h|refine cl hX ?_|refine⟨p,t.tr,rfl,ab ht,?_⟩|refine cl hA ?_|exact Y6|refine e_ rfl ?_)
 conv=>whnf
 refine⟨{q:Nat×List Nat×List Ex//q.2.1++iS q.1 q.2.2=R/\lp l q.1 q.2.2/\jd q.2.2/\q.2.1.length+q.2.2.length<=4/\q.1<=1048577},fun q=>⟨[(0,.r (.c (.t (.lst 3 (l.map QC.tr))))),(5,.r (.c (.own (5,0,0)))),(6,tI .i64 (q.1.1:Int)),(7,tI .i64 (q.1.2.2.length:Int))],[((5,0,0),some (.arr true 1 (q.1.2.1.map nR)))],[5]⟩,fun q=>q.1.2.2.length,⟨(p+1,[],es),hR,TZ,ho.2.2,by simp;omega,g_⟩,?_,?_⟩
 ·exact Z7
 intro⟨⟨q,acc,fs⟩,h1,h2,h3,h4,h5⟩;dsimp only at h1 h2 h3 h4 h5⊢
 cases fs with
 | nil=>exact V88
 | cons a fs=>obtain⟨g1,g2⟩:=fC h2;have hX2:=lD l q hl hn;exact V14
theorem xg (l:List QC)(p:Nat)(t:QC)(es:List Ex)(hl:l.length<=1048576)(hn:ep l)(ho:(Ex.node t es).ok)(hs:iv l p (.node t es)):Sim.Spec prog 258 [tvL 3 (l.map QC.tr),tvI p] (rL 1 ((iS (p+1) es).map nR)):=by
 refine aW hΓ aF func258 rfl d_ rfl ?_;have O2:(l.map QC.tr).length=l.length:=s_;have P6:=gj hs;obtain⟨ht,TZ⟩:=ip hs;have hX:=lF l p hl hn;rw[ll hs ho]at hX;have htn:=hn t (c9 ht);have hA:=kO t htn;obtain⟨e1,e2⟩:=rg ho.1;have QP:es.length=ar t:=ho.2.1;rw[e1,<-QP]at hA;obtain⟨R,hR⟩:∃R,iS (p+1) es=R:=⟨_,rfl⟩;rw[hR]
 have Se:p<l.length:=by have:=(Ex.node t es).toks_pos;omega
 generalize p+(Ex.node t es).toks.length=pe at *
 repeat' ((conv=>whnf);first|apply Wx|apply W6|apply oi|apply fi|intro h|refine cl hX ?_|refine⟨p,t.tr,rfl,ab ht,?_⟩|refine cl hA ?_|exact Y6|refine e_ rfl ?_)
 conv=>whnf
 refine⟨{q:Nat×List Nat×List Ex//q.2.1++iS q.1 q.2.2=R/\lp l q.1 q.2.2/\jd q.2.2/\q.2.1.length+q.2.2.length<=4/\q.1<=1048577},fun q=>⟨[(0,.r (.c (.t (.lst 3 (l.map QC.tr))))),(5,.r (.c (.own (5,0,0)))),(6,tI .i64 (q.1.1:Int)),(7,tI .i64 (q.1.2.2.length:Int))],[((5,0,0),some (.arr true 1 (q.1.2.1.map nR)))],[5]⟩,fun q=>q.1.2.2.length,⟨(p+1,[],es),hR,TZ,ho.2.2,by simp;omega,g_⟩,?_,?_⟩
 ·exact Z7
 intro⟨⟨q,acc,fs⟩,h1,h2,h3,h4,h5⟩;dsimp only at h1 h2 h3 h4 h5⊢
 cases fs with
 | nil=>exact V88
 | cons a fs=>obtain⟨g1,g2⟩:=fC h2;have hX2:=lF l q hl hn;exact V14
def w32 (n:Int):Int:=IntKind.i32.wrap n
theorem qr (n:Int):IntKind.i32.wrap n=if n%4294967296≥2147483648 then n%4294967296-4294967296 else n%4294967296:=by simp[IntKind.wrap,IntKind.bits,IntKind.signed]
theorem JT (n:Int):IntKind.u32.wrap n=n%4294967296:=by simp[IntKind.wrap,IntKind.bits,IntKind.signed]
theorem kT (n:Int):-2147483648<=w32 n/\w32 n<=2147483647:=by unfold w32;rw[qr];split<;>omega
theorem FF (n:Int):Sim.Spec prog 256 [tvI n] (rI (w32 n)):=by
 refine az hΓ aF func256 rfl d_ rfl ?_;repeat' ((conv=>whnf);first|refine Or.inl ?_|apply oi|apply fi|intro h|exact Y1|refine e_ rfl ?_)
 all_goals(refine⟨congrArg (Tr.int _) ?_⟩;have:=kT n;unfold w32 at *;rw[qr]at *;rw[qr,JT,c8 _ (by split<;>omega)];simp)
theorem LQ (n:Int):((BitVec.ofInt IntKind.i64.bits n &&& BitVec.ofInt IntKind.i64.bits 4294967295).toNat:Int)=n%4294967296:=by show((BitVec.ofInt 64 n &&& BitVec.ofInt 64 4294967295).toNat:Int)=_;have e:(BitVec.ofInt 64 4294967295).toNat=2^32-1:=d_;rw[BitVec.toNat_and,e,G9,H9];have:((2^64:Nat):Int)=18446744073709551616:=d_;omega
theorem Fa (n:Int):Sim.Spec prog 246 [tvI n] (rI (w32 n)):=by
 refine az hΓ aF func246 rfl d_ rfl ?_
 have Vs:IntKind.i64.wrap ((BitVec.ofInt IntKind.i64.bits n &&& BitVec.ofInt IntKind.i64.bits 4294967295).toNat:Int)=n%4294967296:=by rw[LQ,c8 _ o_]
 unfold w32;rw[qr];repeat' ((conv=>whnf);first|refine Or.inl ?_|apply oi|apply fi|intro h|exact Y1|refine e_ rfl ?_)
 all_goals(refine⟨congrArg (Tr.int _) ?_⟩;rw[Vs]at h⊢)
 ·have h':=j5 h;rw[b9 o_,c8 _ o_]
 ·have h':=j6 h;rw[b8 o_]
theorem Cc {x y:Int}(hx:-2147483648<=x/\x<=2147483647)(hy:-2147483648<=y/\y<=2147483647):-4611686018427387904<=x*y/\x*y<=4611686018427387904:=by
 have h:(x*y).natAbs<=2147483648*2147483648:=by rw[Int.natAbs_mul];exact A2 o_ o_
 omega
def cG (k a b:Int):Int:=
 if k=2 then w32 (w32 a+w32 b)else if k=3 then w32 (w32 a-w32 b)else if k=4 then w32 (w32 a*w32 b)
 else if(k=5/\w32 a<w32 b)\/(k=6/\w32 a=w32 b)then 1 else 0
theorem sQ (k a b:Int):Sim.Spec prog 233 [tvI k,tvI a,tvI b] (rI (cG k a b)):=by
 refine az hΓ aF func233 rfl d_ rfl ?_;have ha:=kT a;have hb:=kT b;have hm:=Cc ha hb;have e1:IntKind.i64.wrap (w32 a+w32 b)=w32 a+w32 b:=c8 _ o_;have e2:IntKind.i64.wrap (w32 a-w32 b)=w32 a-w32 b:=c8 _ o_;have e3:IntKind.i64.wrap (w32 a*w32 b)=w32 a*w32 b:=c8 _ o_;unfold cG;repeat' ((conv=>whnf);first|refine Or.inl ?_|apply oi|apply fi|intro h|refine ci (FF _) (ai rfl trivial) ?_|exact Y1|refine e_ rfl ?_)
 all_goals(refine⟨congrArg (Tr.int _) ?_⟩;simp_all;try omega)
theorem sZ (k a b:Int):Sim.Spec prog 206 [tvI k,tvI a,tvI b] (rI (cG k a b)):=by
 refine az hΓ aF func206 rfl d_ rfl ?_;have ha:=kT a;have hb:=kT b;have hm:=Cc ha hb;have e1:IntKind.i64.wrap (w32 a+w32 b)=w32 a+w32 b:=c8 _ o_;have e2:IntKind.i64.wrap (w32 a-w32 b)=w32 a-w32 b:=c8 _ o_;have e3:IntKind.i64.wrap (w32 a*w32 b)=w32 a*w32 b:=c8 _ o_;unfold cG;repeat' ((conv=>whnf);first|refine Or.inl ?_|apply oi|apply fi|intro h|refine ci (Fa _) (ai rfl trivial) ?_|exact Y1|refine e_ rfl ?_)
 all_goals(refine⟨congrArg (Tr.int _) ?_⟩;simp_all;try omega)
def At (n:Int):Ex:= .node ⟨0,n,[]⟩ []
def Kl (t a b:QC):Prop:=af t.J0 2 6=true/\a.J0=0/\b.J0=0/\af (cG t.J0 a.M1 b.M1) 0 999=true
instance (t a b:QC):Decidable (Kl t a b):=by unfold Kl;infer_instance
def xa (t:QC):List Ex->Ex
 | [.node a [],.node b []]=>if Kl t a b then At (cG t.J0 a.M1 b.M1)else .node t [.node a [],.node b []]
 | fs=> .node t fs
mutual
def Ex.fold:Ex->Ex
 | .node t es=>xa t (bx es)
def bx:List Ex->List Ex
 | []=>[]
 | a::es=>a.fold::bx es
end
theorem aV (l:List QC):flat (l.map QC.tr):=oy _ (by intro x c hc sz rs e;subst e;simp[QC.tr]at hc)
theorem lx:∀es:List Ex,(bx es).length=es.length
 | []=>rfl
 | a::es=>by rw[bx,d6,lx,d6]
theorem oG:∀(es:List Ex) (j:Nat),(bx es).take j=bx (es.take j)
 | [],j=>by simp[bx]
 | a::es,0=>by rw[D1,D1,bx]
 | a::es,j+1=>by rw[bx,s5,s5,bx,oG es j]
theorem nd:∀{es:List Ex} {j:Nat} {a:Ex},es[j]?=some a->bx (es.take (j+1))=bx (es.take j)++[a.fold]
 | [],_,_,h=>by simp at h
 | b::es,0,a,h=>by
  rw[f9]at h;injection h with h;subst h
  rfl
 | b::es,j+1,a,h=>by
  rw[j8]at h;rw[s5,bx,s5,bx,nd h,p9]
theorem nq (a:Ex):ao [a]=a.toks:=by rw[ao,ao,m7]
theorem xJ {f:Ex}(h:f.toks.length=1):∃a,f= .node a []:=by
 cases f with
 | node a es=>
  rw[Ex.toks,d6]at h
  cases es with
  | nil=>exact⟨a,rfl⟩
  | cons b es=>rw[ao,c7]at h;have:=b.toks_pos;omega
theorem nP {t:QC}{fs:List Ex}(h:(ao fs).length≠2\/af t.J0 2 6=false):xa t fs= .node t fs:=by
 unfold xa;split
 ·rename_i a b;rw[b8];intro hc;rcases h with h|h
  ·exact h (by simp[ao,Ex.toks])
  ·rw[hc.1]at h;cases h
 ·rfl
theorem Gu (t a b:QC):xa t [.node a [],.node b []]=if Kl t a b then At (cG t.J0 a.M1 b.M1)else .node t [.node a [],.node b []]:=rfl
theorem Oj (t:QC)(fs:List Ex):(xa t fs).toks.length<=1+(ao fs).length:=by
 unfold xa;split
 ·split
  ·simp[At,Ex.toks,ao]
  ·simp[Ex.toks,ao]
 ·rw[Ex.toks,d6];omega
mutual
theorem Ex.fold_le:∀e:Ex,e.fold.toks.length<=e.toks.length
 | .node t es=>by
  rw[Ex.fold,Ex.toks,d6];have h1:=Oj t (bx es);have h2:=qB es;omega
theorem qB:∀es:List Ex,(ao (bx es)).length<=(ao es).length
 | []=>d7 _
 | a::es=>by
  rw[bx,ao,ao,c7,c7];have h1:=Ex.fold_le a;have h2:=qB es;omega
end
theorem cV:∀(es:List Ex) (j:Nat),(ao (es.take j)).length<=(ao es).length
 | [],j=>by rw[List.take_nil];omega
 | a::es,0=>by rw[D1,ao];simp
 | a::es,j+1=>by
  have:=cV es j;rw[s5,ao,ao,c7,c7];omega
theorem jw:∀{es:List Ex} {j:Nat} {a:Ex},es[j]?=some a->a.toks.length<=(ao es).length
 | [],_,_,h=>by simp at h
 | b::es,0,a,h=>by
  rw[f9]at h;injection h with h;subst h
  rw[ao,c7];omega
 | b::es,j+1,a,h=>by
  rw[j8]at h;have:=jw h;rw[ao,c7];omega
theorem iD:∀{es:List Ex} {j:Nat} {a:Ex},jd es->es[j]?=some a->a.ok
 | [],_,_,_,h=>by simp at h
 | b::es,0,a,ho,h=>by
  rw[f9]at h;injection h with h;subst h
  exact ho.1
 | b::es,j+1,a,ho,h=>by
  rw[j8]at h;exact iD ho.2 h
theorem Nv {t:QC}(ho:fI t=true)(hk:af t.J0 2 6=true):ar t=2:=by have:=within_iff.1 hk;unfold ar nX;rw[b8 aao,b8 o_,b8 o_];rfl
theorem Li {α:Type}{l:List α}(h:l.length=2):∃a b,l=[a,b]:=by
 match l,h with
 | [a,b],_=>exact⟨a,b,rfl⟩
theorem Q31{p:Prop}(h:p:=by exact⟨⟨rfl,aV _⟩⟩):p:=h
theorem V33{p:Prop}(h:p:=by
 generalize cG t.J0 a.M1 b.M1=ap at *
 repeat' ((conv=>whnf);first|apply Wx|apply W6|apply oi|apply fi|intro h|refine⟨p,t.tr,rfl,ab ht,?_⟩|refine cl hB ?_|refine⟨1,rfl,h1l,?_⟩|refine⟨2,rfl,ZM,?_⟩|refine⟨a.tr,rfl,?_⟩|refine⟨b.tr,rfl,?_⟩|refine cl YG ?_|refine cl Vp ?_|exact Y6|refine e_ rfl ?_)
 all_goals try exact Q31
 all_goals try(exfalso;simp_all;done)):p:=h
theorem Q22{p:Prop}(h:p:=by exact⟨⟨by rw[YO,Tv];(try dsimp only);omega,by rw[YO,Tv];(try dsimp only);omega⟩⟩):p:=h
theorem oF:∀(n:Nat) (e:Ex),e.toks.length<=n->∀(l:List QC) (p:Nat),l.length<=1048576->ep l->e.ok->iv l p e->Sim.Spec prog 240 [tvL 3 (l.map QC.tr),tvI p] (rL 3 (e.fold.toks.map QC.tr))
 | 0,e,hn,_,_,_,_,_,_=>by have:=e.toks_pos;omega
 | n+1,.node t es,hn,l,p,hl,Tz,ho,hs=>by
  refine aW hΓ aF func240 rfl d_ rfl ?_;have O2:(l.map QC.tr).length=l.length:=s_;have P6:=gj hs;obtain⟨ht,TZ⟩:=ip hs;have hO:=xg l p t es hl Tz ho hs;have Se:((iS (p+1) es).map nR).length=es.length:=by rw[d9,tw]
  rw[Ex.toks,d6]at hn P6;rw[Ex.fold];have Xf:=qB es;obtain⟨e1,e2⟩:=rg ho.1;have QP:es.length=ar t:=ho.2.1;repeat' ((conv=>whnf);first|apply Wx|apply W6|apply oi|apply fi|intro h|refine cl hO ?_|refine⟨p,t.tr,rfl,ab ht,?_⟩|exact Y8|refine e_ rfl ?_)
  conv=>whnf
  refine⟨{j:Nat//j<=es.length},fun q=>⟨[(0,.r (.c (.t (.lst 3 (l.map QC.tr))))),(1,tI .i64 (p:Int)),(5,.r (.c (.own (5,0,0)))),(6,.r (.c (.own (6,0,0)))),(7,tI .i64 (q.1:Int))],[((5,0,0),some (.arr false 3 ((t::ao (bx (es.take q.1))).map QC.tr))),((6,0,0),some (.arr true 1 ((iS (p+1) es).map nR)))],[5,6]⟩,fun q=>es.length-q.1,⟨0,o_⟩,?_,?_⟩
  ·repeat' ((conv=>whnf);first|apply Wx|apply W6|apply oi|apply fi|intro h|exact Y8|refine e_ rfl ?_)
   all_goals try exact⟨by simp[bx,ao];rfl⟩
  intro⟨j,hj⟩;dsimp only at hj⊢;by_cases O4:j<es.length
  ·obtain⟨a,ha⟩:=ae O4;obtain⟨q,hq,hqs⟩:=xP TZ ha;have QZ:=jw ha;have hR:=oF n a o_ l q hl Tz (iD ho.2.2 ha) hqs;have Q0:j<((iS (p+1) es).map nR).length:=(by rw[Se];exact O4);have ZC:=a.fold_le;have X8:=cV (bx es) j;rw[oG]at X8;have YO:((t::ao (bx (es.take j))).map QC.tr).length=1+(ao (bx (es.take j))).length:=(by simp;omega);have Tv:(a.fold.toks.map QC.tr).length=a.fold.toks.length:=s_;repeat' ((conv=>whnf);first|apply Wx|apply W6|apply oi|apply fi|intro h|refine cl hR ?_|refine⟨j,rfl,Q0,?_⟩|refine⟨(nR q),(ab hq),?_⟩|exact Y6|refine e_ rfl ?_)
   all_goals try exact Q22
   conv=>whnf
   refine⟨⟨j+1,o_⟩,?_,KD⟩;repeat' ((conv=>whnf);first|apply Wx|apply W6|apply oi|apply fi|intro h|exact Y7|refine e_ rfl ?_)
   all_goals exact⟨by rw[nd ha,gM,nq];simp⟩
  ·have Ut:j=es.length:=o_;subst Ut;rw[A3];have hB:=bz t.J0 2 6;have hFl:=lx es;have Sq:((t::ao (bx es)).map QC.tr).length=1+(ao (bx es)).length:=by simp;omega
   generalize bx es=F at *
   cases hk:af t.J0 2 6 with
   | false=>
    rw[hk]at hB;rw[nP (.inr hk),Ex.toks];repeat' ((conv=>whnf);first|apply Wx|apply W6|apply oi|apply fi|intro h|refine⟨p,t.tr,rfl,ab ht,?_⟩|refine cl hB ?_|exact Y6|refine e_ rfl ?_)
    all_goals exact Q31
   | true=>
    rw[hk]at hB;by_cases h2:(ao F).length=2
    ·obtain⟨f1,f2,rfl⟩:=Li (hFl.trans (QP.trans (Nv ho.1 hk)));rw[ao,nq,c7]at h2;have p1:=f1.toks_pos;have p2:=f2.toks_pos;obtain⟨a,rfl⟩:=xJ (f:=f1) o_;obtain⟨b,rfl⟩:=xJ (f:=f2) o_;have e3:t::ao [Ex.node a [],Ex.node b []]=[t,a,b]:=(by simp[ao,Ex.toks]);have e4:(Ex.node t [Ex.node a [],Ex.node b []]).toks=[t,a,b]:=(by rw[Ex.toks];exact e3);rw[e3];have h1l:1<([t,a,b].map QC.tr).length:=s_;have ZM:2<([t,a,b].map QC.tr).length:=s_;have YG:=sZ t.J0 a.M1 b.M1;have Vp:=bz (cG t.J0 a.M1 b.M1) 0 999;rw[Gu];by_cases hc:Kl t a b
     ·rw[b9 hc];obtain⟨_,c1,c2,c3⟩:=hc;rw[c3]at Vp;have e5:(At (cG t.J0 a.M1 b.M1)).toks=[⟨0,cG t.J0 a.M1 b.M1,[]⟩]:=(by simp[At,Ex.toks,ao]);rw[e5]
      generalize cG t.J0 a.M1 b.M1=ap at *
      repeat' ((conv=>whnf);first|apply Wx|apply W6|apply oi|apply fi|intro h|refine⟨p,t.tr,rfl,ab ht,?_⟩|refine cl hB ?_|refine⟨1,rfl,h1l,?_⟩|refine⟨2,rfl,ZM,?_⟩|refine⟨a.tr,rfl,?_⟩|refine⟨b.tr,rfl,?_⟩|refine cl YG ?_|refine cl Vp ?_|exact Y6|refine e_ rfl ?_)
      all_goals try exact Q3
     ·rw[b8 hc,e4];have VJ:∀w,af (cG t.J0 a.M1 b.M1) 0 999=w->a.J0=0->b.J0=0->w=true->False:=fun w h1 h2 h3 h4=>hc ⟨hk,h2,h3,h1.trans h4⟩
      cases hw:af (cG t.J0 a.M1 b.M1) 0 999 with
      | true=>
       rw[hw]at Vp;have hc3:=VJ true hw
       exact V33
      | false=>rw[hw]at Vp;exact V33
    ·rw[nP (.inl h2),Ex.toks];repeat' ((conv=>whnf);first|apply Wx|apply W6|apply oi|apply fi|intro h|refine⟨p,t.tr,rfl,ab ht,?_⟩|refine cl hB ?_|exact Y6|refine e_ rfl ?_)
     all_goals try exact Q31
     all_goals try(exfalso;rw[Sq]at *;simp at *;omega)
structure Grow (n:Nat) (s s':Gs):Prop where
 ge:s.I8.length<=s'.I8.length
 le:s'.I8.length<=s.I8.length+n
 J4:s.J4<=s'.J4
 cap:s.J4<=1000->s'.J4<=1000
theorem Grow.refl (s:Gs):Grow 0 s s:=⟨d7 _,d7 _,u6 _,id⟩
theorem Grow.trans {n m:Nat}{a b c:Gs}(h:Grow n a b)(h':Grow m b c):Grow (n+m) a c:=⟨s8 h.ge h'.ge,by have:=h.le;have:=h'.le;omega,B0 h.J4 h'.J4,fun x=>h'.cap (h.cap x)⟩
theorem Grow.mono {n m:Nat}{a b:Gs}(h:Grow n a b)(hn:n<=m):Grow m a b:=⟨h.ge,by have:=h.le;omega,h.J4,h.cap⟩
theorem bK (C:Cx)(s:Gs)(d code arg line:Int)(chain:List Int):Grow 1 s (aB C s d code arg line chain):=⟨by simp[aB],by simp[aB],u6 _,id⟩
theorem bB (l:List Qs)(j v:Int):(bv l j v).length=l.length:=by
 unfold bv;split
 ·split
  ·rw[o8]
  ·rfl
 ·rfl
theorem eH (v:Int):∀(js:List Int) (l:List Qs),(patchL l v js).length=l.length
 | [],_=>rfl
 | j::js,l=>by rw[patchL,eH v js,bB]
def dc:Nat->Nat
 | 0=>1
 | n+1=>30+9*(20*dc n+3)
theorem yB:∀n,1<=dc n
 | 0=>d7 _
 | n+1=>by rw[dc];omega
theorem NN:∀{n m:Nat},n<=m->dc n<=dc m:=by
 intro n m h
 induction h with
 | refl=>exact d7 _
 | step _ ih=>rw[dc];omega
theorem vq {n:Nat}(h:n<=3):dc n<=8679837:=s8 (NN h) (by simp[dc])
def bI (C:Cx)(g:Nat):Prop:=∃ln,C.p[g]?=some ln/\ln.J0=0
section
variable {C:Cx} {x:Sc} {ins:List Nat} {rep:Sc->List Nat->Nat->Nat->Int->Gs->Gs} {line:Nat} {lev:Nat}
theorem um (y:Sc)(chain:List Int)(line:Int):∀(n:Nat) (d:Int) (s:Gs),Grow n s (bD C y chain line n d s)
 | 0,d,s=>Grow.refl s
 | n+1,d,s=>by
  rw[bD];exact((bK C s d _ _ _ _).trans (um y chain line n (d-1) _)).mono o_
theorem wO (y:Sc)(chain:List Int)(line d:Int):∀(n i:Nat) (s:Gs),Grow (2*n) s (cj C y chain line d n i s)
 | 0,i,s=>Grow.refl s
 | n+1,i,s=>by
  rw[cj];exact(((bK C s d _ _ _ _).trans (bK C _ (d+1) _ _ _ _)).trans (wO y chain line d n (i+1) _)).mono o_
theorem Kj (O6:∀g d s,bI C g->cv C ins g s.I8.length=true->Grow (dc lev) s (rep x ins line g d s))(t:QC)(d:Int)(s:Gs):Grow (dc lev) s (fW C rep x ins line t d s):=by
 have hp:=yB lev;unfold fW;split
 ·exact(bK ..).mono hp
 ·split
  ·exact(bK ..).mono hp
  ·split
   ·split
    ·rename_i g hg;split
     ·rename_i hr;obtain⟨_,ln,h1,h2,_⟩:=dR hg;exact O6 g d s ⟨ln,h1,h2⟩ hr
     ·exact(bK ..).mono hp
    ·exact(Grow.refl s).mono o_
   ·exact(bK ..).mono hp
mutual
theorem Br (O6:∀g d s,bI C g->cv C ins g s.I8.length=true->Grow (dc lev) s (rep x ins line g d s)):∀(e:Ex) (d:Int) (s:Gs),Grow (e.toks.length*dc lev) s (dk C rep x ins line e d s)
 | .node t es,d,s=>by
  rw[dk,Ex.toks,d6];exact((nz O6 es d s).trans (Kj O6 t _ _)).mono (by rw[p8];omega)
theorem nz (O6:∀g d s,bI C g->cv C ins g s.I8.length=true->Grow (dc lev) s (rep x ins line g d s)):∀(es:List Ex) (d:Int) (s:Gs),Grow ((ao es).length*dc lev) s (ce C rep x ins line es d s)
 | [],d,s=>by rw[ce,ao];exact(Grow.refl s).mono o_
 | a::es,d,s=>by
  rw[ce,ao,c7,p8];exact(Br O6 a d s).trans (nz O6 es (d+1) _)
end
theorem rE (C:Cx)(rep:Sc->List Nat->Nat->Nat->Int->Gs->Gs)(x:Sc)(ins:List Nat)(line:Nat):∀{es:List Ex} {j:Nat} {a:Ex} (d:Int) (s:Gs),es[j]?=some a->ce C rep x ins line (es.take (j+1)) d s=dk C rep x ins line a (d+j) (ce C rep x ins line (es.take j) d s)
 | [],_,_,_,_,h=>by simp at h
 | b::es,0,a,d,s,h=>by
  rw[f9]at h;injection h with h;subst h
  simp[ce]
 | b::es,j+1,a,d,s,h=>by
  rw[j8]at h;rw[s5,ce,rE C rep x ins line (d+1) _ h,s5,ce];congr 1;omega
theorem fA:∀{es:List Ex} {j:Nat} {a:Ex},es[j]?=some a->(ao (es.take (j+1))).length=(ao (es.take j)).length+a.toks.length
 | [],_,_,h=>by simp at h
 | b::es,0,a,h=>by
  rw[f9]at h;injection h with h;subst h
  simp[ao]
 | b::es,j+1,a,h=>by
  rw[j8]at h;rw[s5,ao,c7,fA h,s5,ao,c7];omega
theorem jg (hC:CxOk C)(hx:ScOk C x ins)(line:Nat){g:Nat}(hg:bI C g):ScOk C (bF C x line g) (ins++[g]):=by
 obtain⟨e,_,_,_,_,h8⟩:=hx.endE hC;have P6:=hx.argLe hC;refine⟨hg,rfl,?_,?_,?_,?_,by simp[bF]⟩
 ·simp only[bF,ba,c7,d6,e8];have:=hx.first;split
  ·rename_i ho;rw[hx.args ho];omega
  ·omega
 ·simp only[bF,c7,d6,e8];have:=hx.I9;omega
 ·simp[bF]
 ·simp[bF]
theorem mR (hC:CxOk C)(hx:ScOk C x ins):0<=ba C x/\ba C x<=8*ins.length+8:=by
 obtain⟨e,_,_,_,_,h8⟩:=hx.endE hC;have P6:=hx.argLe hC;have:=hx.first;unfold ba;split
 ·rename_i ho;rw[hx.args ho];omega
 ·omega
theorem cW (hC:CxOk C){g:Nat}(hg:bI C g):(a_ C.p (g:Int)).length<=8/\b_ C.p g<=(a_ C.p (g:Int)).length:=by obtain⟨ln,h1,h2⟩:=hg;obtain⟨e,h3,h4,h5,_⟩:=hC.fn _ _ h1 h2;rw[b_,h1];exact⟨h4,h5⟩
theorem BJ (hC:CxOk C)(hx:ScOk C x ins)(hi:ins.length<=10)(line:Nat){g:Nat}(hg:bI C g)(d:Int)(s:Gs):Grow 16 s (di C x line g d s):=by obtain⟨h1,h2⟩:=cW hC hg;have ht:=mR hC hx;have h0:Grow 0 s ⟨s.I8,max s.J4 (ba C x+(a_ C.p (g:Int)).length),s.start⟩:=⟨d7 _,d7 _,g_,fun h=>g_⟩;unfold di;exact((h0.trans (um _ _ _ _ _ _)).trans (wO _ _ _ _ _ _ _)).mono o_
theorem wt (x:Sc)(line:Nat)(d:Int)(s:Gs):Grow 1 s (bu C x line d s):=by
 unfold bu;split
 ·exact bK ..
 ·exact(Grow.refl s).mono o_
theorem oz (x:Sc)(k:Nat)(last:Bool)(d:Int)(L:Ls):Grow 1 L.g (be C x k last d L).g:=by
 unfold be;split
 ·split
  ·exact bK ..
  ·exact bK ..
 ·split
  ·exact(Grow.refl _).mono o_
  ·exact bK ..
theorem Grow.set {n:Nat}{a b:Gs}{l:List Qs}(h:Grow n a b)(hl:l.length=b.I8.length):Grow n a ⟨l,b.J4,b.start⟩:=⟨by have:=h.ge;simp only[hl];omega,by have:=h.le;simp only[hl];omega,h.J4,h.cap⟩
theorem nD (O6:∀g d s,bI C g->cv C ins g s.I8.length=true->Grow (dc lev) s (rep x ins line g d s))(hC:CxOk C){k:Nat}{ln:Qt}(hk:C.p[k]?=some ln)(he:bq ln.L0=true)(d:Int)(s:Gs):Grow (20*dc lev) s (dk C rep x ins line (exL ln.L0) d s):=by have h1:=(mA he).2;have h2:=(hC.line _ _ hk).2.2.2.1;rw[h1]at h2;exact(Br O6 _ d s).mono (m5 _ h2)
theorem nu (O6:∀line g d s,bI C g->cv C ins g s.I8.length=true->Grow (dc lev) s (rep x ins line g d s))(hC:CxOk C){k:Nat}{ln:Qt}(hk:C.p[k]?=some ln)(h0:ln.J0≠0)(base:Int)(L:Ls):Grow (20*dc lev+2) L.g (dn C rep x ins base k ln L).g:=by
 unfold dn;split
 ·exact((bK ..).set (bB _ _ _)).mono o_
 ·split
  ·split
   ·refine Grow.mono (n:=1+1) ?_ o_;exact(bK ..).trans (oz x k true (base+1) {L with g:=aB C L.g base 0 0 k x.I9})
   ·split
    ·exact(bK ..).mono o_
    ·exact(Grow.refl _).mono o_
  ·rename_i h4 h7;have hl:=hC.line _ _ hk
   have RZ:Grow (20*dc lev) L.g (dk C rep x ins k (exL ln.L0) base ⟨L.g.I8,L.g.J4,true⟩):=by have:=nD (fun g d s=>O6 k g d s) hC hk (hl.2.2.2.2 o_) base ⟨L.g.I8,L.g.J4,true⟩;exact⟨this.ge,this.le,this.J4,this.cap⟩
   split
   ·exact(RZ.trans (bK ..)).mono o_
   ·split
    ·exact(RZ.trans (bK ..)).mono o_
    ·split
     ·refine Grow.mono (n:=20*dc lev+1) ?_ o_;exact RZ.trans (oz x k false (base+1) {L with g:=dk C rep x ins k (exL ln.L0) base ⟨L.g.I8,L.g.J4,true⟩,J6:=L.J6.set k L.g.I8.length})
     ·exact(RZ.trans (bK ..)).mono o_
theorem ya (k:Nat)(ln:Qt)(L:Ls):Grow 0 L.g (bf C x k ln L).g:=by
 unfold bf;split
 ·exact(Grow.refl _).set (bB _ _ _)
 ·exact Grow.refl _
theorem BM (O6:∀line g d s,bI C g->cv C ins g s.I8.length=true->Grow (dc lev) s (rep x ins line g d s))(hC:CxOk C)(base:Int):∀(n k:Nat) (L:Ls),(∀i y,k<=i->i<k+n->C.p[i]?=some y->y.J0≠0)->Grow (n*(20*dc lev+3)) L.g (fh C rep x ins base n k L).g
 | 0,k,L,_=>(Grow.refl _).mono o_
 | n+1,k,L,h=>by
  rw[fh];split
  ·rename_i ln hk;exact(((nu O6 hC hk (h k ln (d7 _) o_ hk) base L).trans (ya k ln _)).trans (BM O6 hC base n (k+1) _ fun i y h1 h2 hy=>h i y o_ o_ hy)).mono (by rw[p8];omega)
  ·exact(Grow.refl _).mono o_
theorem V117{p:Prop}(h:p:=by
 by_cases Sv:i=e
 ·subst Sv;obtain⟨z,hz,h7⟩:=bn h3;rw[hy]at hz;injection hz with hz;subst hz;omega
 ·exact(h4 i y o_ o_ hy).1):p:=h
theorem kj (O6:∀line g d s,bI C g->cv C ins g s.I8.length=true->Grow (dc lev) s (rep x ins line g d s))(hC:CxOk C)(hx:ScOk C x ins)(base:Int)(s:Gs):Grow ((dq C.p x.f-x.f)*(20*dc lev+3)) s (aZ C rep x ins base s).1:=by unfold aZ;obtain⟨ln,h1,h2⟩:=hx.fn;obtain⟨e,h3,_,_,h4⟩:=hC.fn _ _ h1 h2;obtain⟨e',g3,_,_,g5,_⟩:=hx.endE hC;rw[h3]at g3;injection g3 with g3;subst g3;rw[g5];refine BM O6 hC base (e-x.f) (x.f+1) (cz C s) fun i y k1 k2 hy=>?_;exact V117
end
theorem eM {C:Cx}{ins:List Nat}{g n:Nat}(h:cv C ins g n=true):(ins.length:Int)<=C.b.M0/\bA C.p (g:Int)-g<=9/\n<200/\g∉ins:=by unfold cv at h;simp only[d5,i8,v4,List.contains_eq_mem,p6]at h;exact⟨h.1,h.2.1,h.2.2.1,h.2.2.2⟩
theorem dQ {C:Cx}(hC:CxOk C):∀(lev:Nat) {x:Sc} {ins:List Nat} (line g:Nat) (d:Int) (s:Gs),ScOk C x ins->bI C g->cv C ins g s.I8.length=true->Grow (dc lev) s (bg C lev x ins line g d s)
 | 0,x,ins,line,g,d,s,hx,hg,hr=>(Grow.refl s).mono o_
 | lev+1,x,ins,line,g,d,s,hx,hg,hr=>by
  obtain⟨r1,r2,_,_⟩:=eM hr;have hin:=hC.inl;have hy:=jg hC hx line hg;have h1:=BJ hC hx o_ line hg d s;have h2:=wt (C:=C) x line (d-b_ C.p g) (di C x line g d s);have h3:=kj (lev:=lev) (rep:=bg C lev) (fun line g d s hg hr=>dQ hC lev line g d s hy hg hr) hC hy (d-b_ C.p g) (bu C x line (d-b_ C.p g) (di C x line g d s));obtain⟨e,e1,e2,e3,e4,_⟩:=hy.endE hC;have e5:bA C.p (g:Int)=(e:Int):=by rw[bc];exact aU e1
  have e6:dq C.p (bF C x line g).f-(bF C x line g).f<=9:=by rw[e4];show e-g<=9;omega
  have h4:=((h1.trans h2).trans h3).mono (m:=dc (lev+1)) (by
   rw[dc];have:=m5 (20*dc lev+3) e6
   omega)
  show Grow _ s (fH C (aZ C (bg C lev)) x ins line g d s);unfold fH;exact h4.set (eH _ _ _)
def lvOk (L:Ls):Prop:=L.lv.length<=L.g.I8.length/\∀j∈L.lv,0<=j/\j<L.g.I8.length
section
variable {C:Cx} {x:Sc} {ins:List Nat} {rep:Sc->List Nat->Nat->Nat->Int->Gs->Gs} {lev:Nat}
theorem lvOk.grow {n:Nat}{L L':Ls}(h:lvOk L)(hl:L'.lv=L.lv)(hg:Grow n L.g L'.g):lvOk L':=⟨by rw[hl];exact s8 h.1 hg.ge,fun j hj=>by
 rw[hl]at hj;have:=h.2 j hj;have:=hg.ge
 omega⟩
theorem Bh {L:Ls}(h:lvOk L)(k:Nat)(last:Bool)(d:Int):lvOk (be C x k last d L):=by
 have hg:=oz (C:=C) x k last d L;unfold be at hg⊢;split
 ·rename_i ho;rw[b9 ho]at hg;split
  ·rename_i hf;rw[b9 hf]at hg;exact h.grow rfl hg
  ·rename_i hf;rw[b8 hf]at hg;exact h.grow rfl hg
 ·split
  ·exact h
  ·refine⟨by have:=h.1;simp only[aB,c7,d6,e8];omega,?_⟩;intro j hj;simp only[f0,d8,m8,or_false]at hj;simp only[aB,c7,d6,e8];rcases hj with hj|rfl
   ·have:=h.2 j hj;omega
   ·omega
theorem DX (O6:∀line g d s,bI C g->cv C ins g s.I8.length=true->Grow (dc lev) s (rep x ins line g d s))(hC:CxOk C){k:Nat}{ln:Qt}(hk:C.p[k]?=some ln)(h0:ln.J0≠0)(base:Int){L:Ls}(h:lvOk L):lvOk (dn C rep x ins base k ln L):=by
 have hg:=nu (x:=x) (ins:=ins) (rep:=rep) (lev:=lev) O6 hC hk h0 base L;unfold dn at hg⊢;split
 ·rename_i h4;rw[b9 h4]at hg;exact h.grow rfl hg
 ·rename_i h4;rw[b8 h4]at hg;split
  ·rename_i h7;rw[b9 h7]at hg;split
   ·exact Bh (h.grow (L':={L with g:=aB C L.g base 0 0 k x.I9}) rfl (bK ..)) _ _ _
   ·rename_i ho;rw[b8 ho]at hg;split
    ·rename_i h5;rw[b9 h5]at hg;exact h.grow rfl hg
    ·exact h
  ·rename_i h7;have hl:=hC.line _ _ hk;have RZ:=nD (x:=x) (ins:=ins) (rep:=rep) (line:=k) (lev:=lev) (fun g d s=>O6 k g d s) hC hk (hl.2.2.2.2 o_) base ⟨L.g.I8,L.g.J4,true⟩;have Tf:lvOk {L with g:=dk C rep x ins k (exL ln.L0) base ⟨L.g.I8,L.g.J4,true⟩,J6:=L.J6.set k L.g.I8.length}:=h.grow rfl ⟨RZ.ge,RZ.le,RZ.J4,RZ.cap⟩;split
   ·exact Tf.grow rfl (bK ..)
   ·split
    ·exact Tf.grow rfl (bK ..)
    ·split
     ·exact Bh Tf _ _ _
     ·exact Tf.grow rfl (bK ..)
theorem Fb (k:Nat)(ln:Qt){L:Ls}(h:lvOk L):lvOk (bf C x k ln L):=by
 have hg:=ya (C:=C) (x:=x) k ln L;unfold bf at hg⊢;split
 ·rename_i h1;rw[b9 h1]at hg;exact h.grow rfl hg
 ·exact h
theorem In (O6:∀line g d s,bI C g->cv C ins g s.I8.length=true->Grow (dc lev) s (rep x ins line g d s))(hC:CxOk C)(base:Int):∀(n k:Nat) (L:Ls),(∀i y,k<=i->i<k+n->C.p[i]?=some y->y.J0≠0)->lvOk L->lvOk (fh C rep x ins base n k L)
 | 0,k,L,_,h=>h
 | n+1,k,L,hf,h=>by
  rw[fh];split
  ·rename_i ln hk;exact In O6 hC base n (k+1) _ (fun i y h1 h2 hy=>hf i y o_ o_ hy) (Fb k ln (DX O6 hC hk (hf k ln (d7 _) o_ hk) base h))
  ·exact h
theorem fQ (hC:CxOk C)(hx:ScOk C x ins){e:Nat}(he:h_ C.p x.f=some e){i:Nat}{y:Qt}(h1:x.f+1<=i)(h2:i<=e)(hy:C.p[i]?=some y):y.J0≠0:=by
 obtain⟨ln,g1,g2⟩:=hx.fn;obtain⟨e',h3,_,_,h4⟩:=hC.fn _ _ g1 g2;rw[he]at h3;injection h3 with h3;subst h3;by_cases Sv:i=e
 ·subst Sv;obtain⟨z,hz,h7⟩:=bn he;rw[hy]at hz;injection hz with hz;subst hz;omega
 ·exact(h4 i y o_ o_ hy).1
theorem Cr (O6:∀line g d s,bI C g->cv C ins g s.I8.length=true->Grow (dc lev) s (rep x ins line g d s))(hC:CxOk C)(hx:ScOk C x ins)(base:Int)(s:Gs):(aZ C rep x ins base s).2.length<=(aZ C rep x ins base s).1.I8.length/\∀j∈(aZ C rep x ins base s).2,0<=j/\j<((aZ C rep x ins base s).1.I8.length:Int):=by unfold aZ;obtain⟨e,g3,g4,_,g5,_⟩:=hx.endE hC;rw[g5];exact In O6 hC base (e-x.f) (x.f+1) (cz C s) (fun i y k1 k2 hy=>fQ hC hx g3 k1 o_ hy) ⟨by simp[cz],by intro j hj;simp[cz]at hj⟩
end
theorem pH (v j:Int):∀(js:List Int) (l:List Qs),patchL l v (js++[j])=bv (patchL l v js) j v
 | [],l=>by rw[r9,patchL,patchL,patchL]
 | a::js,l=>by rw[p9,patchL,pH v j js,patchL]
def dV (l:List Qs)(v to:Int):List (Int×Int)->List Qs
 | []=>l
 | e::r=>dV (if e.1=to then bv l e.2 v else l) v to r
theorem yG (v to:Int):∀(E:List (Int×Int)) (l:List Qs),(dV l v to E).length=l.length
 | [],l=>rfl
 | e::r,l=>by
  rw[dV,yG v to r];split
  ·rw[bB]
  ·rfl
theorem mw (v to:Int):∀(A B:List (Int×Int)) (l:List Qs),dV l v to (A++B)=dV (dV l v to A) v to B
 | [],B,l=>rfl
 | a::A,B,l=>by rw[p9,dV,mw v to A B,dV]
theorem Ft (v to:Int)(e:Int×Int)(E:List (Int×Int))(l:List Qs):dV l v to (E++[e])=if e.1=to then bv (dV l v to E) e.2 v else dV l v to E:=by rw[mw];rfl
def jumps (p:List Qt)(i:Nat):Prop:=j_ p i=3\/j_ p i=4\/j_ p i=5
instance (p:List Qt) (i:Nat):Decidable (jumps p i):=by unfold jumps;infer_instance
def eV (p:List Qt)(i:Nat):Int:=if j_ p i=4 then bA p (f_ p i:Int)+1 else if j_ p i=3/\0<=bi p (i:Int)then-bi p (i:Int)else bA p (i:Int)+1
def entry (p:List Qt)(pos:List Int)(i:Nat):List (Int×Int):=if jumps p i then [(eV p i,atL pos i)]else []
def bJ (p:List Qt)(pos:List Int)(f:Nat):Nat->List (Int×Int)
 | 0=>[]
 | n+1=>bJ p pos f n++entry p pos (f+n)
theorem rQ (p:List Qt)(pos:List Int)(f:Nat):∀n,(bJ p pos f n).length<=n
 | 0=>d7 _
 | n+1=>by
  have:=rQ p pos f n;rw[bJ,c7,entry];split<;>simp<;>omega
theorem eO {l:List Int}{k i:Nat}{v:Int}(h:i≠k):atL (l.set k v) i=atL l i:=by unfold atL;rw[y6 (fun e=>h e.symm)]
theorem fX {l:List Int}{k:Nat}{v:Int}(h:k<l.length):atL (l.set k v) k=v:=by unfold atL;rw[s6 h];rfl
theorem ze (p:List Qt)(pos:List Int)(f k:Nat)(v:Int):∀n,f+n<=k->bJ p (pos.set k v) f n=bJ p pos f n
 | 0,_=>rfl
 | n+1,h=>by
  rw[bJ,bJ,ze p pos f k v n o_,entry,entry,eO o_]
theorem nB {p:List Qt}{pos:List Int}{f k:Nat}(h:f+1<=k)(hj:¬jumps p k):bJ p pos (f+1) (k+1-(f+1))=bJ p pos (f+1) (k-(f+1)):=by rw[show k+1-(f+1)=(k-(f+1))+1 by omega,bJ,show f+1+(k-(f+1))=k by omega,entry,b8 hj,m7]
theorem yJ {p:List Qt}{pos:List Int}{f k:Nat}(h:f+1<=k)(hj:jumps p k)(hk:k<pos.length)(v:Int):bJ p pos (f+1) (k-(f+1))++[(eV p k,v)]=bJ p (pos.set k v) (f+1) (k+1-(f+1)):=by rw[show k+1-(f+1)=(k-(f+1))+1 by omega,bJ,ze _ _ _ _ _ _ o_,show f+1+(k-(f+1))=k by omega,entry,b9 hj,fX hk]
theorem nK {p:List Qt}{pos:List Int}{f:Nat}:∀{n:Nat} {e:Int×Int},e∈bJ p pos f n->∃i,f<=i/\i<f+n/\jumps p i/\e=(eV p i,atL pos i)
 | 0,e,h=>by simp[bJ]at h
 | n+1,e,h=>by
  rw[bJ,f0]at h;rcases h with h|h
  ·obtain⟨i,h1,h2,h3⟩:=nK h;exact⟨i,h1,o_,h3⟩
  ·rw[entry]at h;split at h
   ·rename_i hj;simp only[d8,m8,or_false]at h;exact⟨f+n,o_,o_,hj,h⟩
   ·cases h
theorem lX {v to:Int}:∀{E:List (Int×Int)} {l:List Qs},(∀e∈E,e.1≠to)->dV l v to E=l
 | [],_,_=>rfl
 | e::r,l,h=>by rw[dV,b8 (h e s_),lX fun x hx=>h x aaS]
theorem uC {p:List Qt}{pos:List Int}{f i0:Nat}{v to:Int}(hj:jumps p i0)(ht:eV p i0=to):∀{n:Nat} {l:List Qs},f<=i0->i0<f+n->(∀i,f<=i->i<f+n->jumps p i->eV p i=to->i=i0)->dV l v to (bJ p pos f n)=bv l (atL pos i0) v
 | 0,l,h1,h2,_=>o_
 | n+1,l,h1,h2,hu=>by
  rw[bJ,mw];by_cases h:i0=f+n
  ·subst h
   rw[lX (E:=bJ p pos f n) (fun e he=>by
    obtain⟨i,k1,k2,k3,rfl⟩:=nK he;intro hh;have:=hu i k1 o_ k3 hh
    omega)]
   rw[entry,b9 hj];show(if(eV p (f+n),atL pos (f+n)).1=to then _ else _)=_;rw[b9 ht]
  ·rw[uC hj ht h1 o_ fun i k1 k2 k3 k4=>hu i k1 o_ k3 k4];refine lX fun e he=>?_;rw[entry]at he;split at he
   ·rename_i T3;simp only[d8,m8,or_false]at he;subst he;intro hh;exact h (hu (f+n) o_ o_ T3 hh).symm
   ·cases he
theorem aL {p:List Qt}{k:Nat}{ln:Qt}(h:p[k]?=some ln):j_ p k=ln.J0:=by rw[j_,h]
theorem rC {p:List Qt}{i:Nat}{m:Int}(h:bA p (i:Int)=m)(h0:0<=m):h_ p i=some m.toNat:=by
 rw[bc]at h
 cases he:h_ p i with|none=>rw[he]at h;simp only[cn]at h;omega|some e=>rw[he]at h;simp only[cn]at h;congr 1;omega
theorem gG (p:List Qt)(i:Nat):-1<=bA p (i:Int)/\bA p (i:Int)<=p.length:=by
 rw[bc]
 cases he:h_ p i with|none=>simp only[cn];omega|some e=>obtain⟨_,_,_,_,_,h⟩:=aI he;simp only[cn];omega
theorem bZ {p:List Qt}{i:Nat}:bi p (i:Int)=cn (i_ p i):=by rw[bi,b9 o_,e7]
theorem rW {p:List Qt}{i:Nat}(h:j_ p i≠3):i_ p i=none:=by
 cases he:i_ p i with
 | none=>rfl
 | some j=>obtain⟨y,_,hy,h3,_⟩:=aP he;exact absurd (by rw[aL hy];exact h3) h
section
variable {C:Cx} {x:Sc} {ins:List Nat}
theorem tj (hC:CxOk C)(hx:ScOk C x ins){e:Nat}(he:h_ C.p x.f=some e){k i:Nat}(h1:x.f+1<=i)(h2:i<k)(h3:k<=e)(hj:jumps C.p i)(ht:eV C.p i=(k:Int)):j_ C.p (k-1)=7/\f_ C.p (k-1)≠x.f/\eU C.p (k-1)=i:=by
 have Rw:i<C.p.length:=by obtain⟨_,_,_,_,_,h⟩:=aI he;omega
 obtain⟨y,hy⟩:=ae Rw;have Vm:=aL hy;unfold eV at ht;by_cases h4:j_ C.p i=4
 ·rw[b9 h4]at ht;obtain⟨o1,o2,o3,o4⟩:=hx.own4 hC he o_ o_ hy (by rw[<-Vm];exact h4);have RX:=rC (show bA C.p (f_ C.p i:Int)=((k-1:Nat):Int) by omega) o_;rw[e7]at RX;obtain⟨z,hz,h7⟩:=bn RX;rw[jK RX,aL hz];refine⟨h7,o_,?_⟩;rw[eU,jK RX,o1]
 ·rw[b8 h4]at ht;split at ht
  ·omega
  ·rename_i hn;have RX:=rC (show bA C.p (i:Int)=((k-1:Nat):Int) by omega) o_;rw[e7]at RX;obtain⟨z,hz,h7⟩:=bn RX;rw[jK RX,aL hz];refine⟨h7,o_,?_⟩;rw[eU,jK RX]
   have:i_ C.p i=none:=by
    by_cases UL:j_ C.p i=3
    ·cases QP:i_ C.p i with|none=>rfl|some j=>exact absurd ⟨UL,by rw[bZ,QP];simp[cn]⟩ hn
    ·exact rW UL
   rw[this]
theorem xE (hC:CxOk C)(hx:ScOk C x ins){e:Nat}(he:h_ C.p x.f=some e){j:Nat}{ln:Qt}(h1:x.f<j)(h2:j<e)(hl:C.p[j]?=some ln)(h7:ln.J0=7):x.f+1<=eU C.p j/\eU C.p j<j/\jumps C.p (eU C.p j)/\eV C.p (eU C.p j)=((j+1:Nat):Int)/\f_ C.p j≠x.f:=by
 obtain⟨o1,o2⟩:=hx.own7 hC he h1 o_ hl h7;rcases o2 with⟨o2,_⟩|⟨_,o3,o4,y,hy,ho⟩
 ·omega
 have Vm:=aL hy;have UT:bA C.p (f_ C.p j:Int)=(j:Int):=by rw[bc];exact aU o1
 unfold eU
 cases QP:i_ C.p (f_ C.p j)with
 | none=>
  dsimp only;refine⟨o_,o4,by unfold jumps;omega,?_,o_⟩;unfold eV;rw[b8 o_,b8 (by rw[bZ,QP];simp[cn]),UT]
  omega
 | some m=>obtain⟨z,m1,hz,z3,Wa,k1,k2,w,hw,w4⟩:=aP QP;rw[o1]at Wa;injection Wa with Wa;have hkw:=aL hw;refine⟨g_,g_,by unfold jumps;dsimp only;omega,?_,o_⟩;unfold eV;dsimp only;rw[b9 o_,oT QP,UT];omega
structure LInv (C:Cx) (lev:Nat) (x:Sc) (ins:List Nat) (d:Int) (e:Nat) (R:Ls) (k:Nat) (L:Ls):Prop where
 lo:x.f+1<=k
 hi:k<=e+1
 J6:L.J6.length=C.p.length
 pos:L.pos.length=C.p.length
 at_:∀i,x.f<i->i<k->jumps C.p i->0<=atL L.pos i/\atL L.pos i<L.g.I8.length
 lv:lvOk L
 room:L.g.I8.length+(e+1-k)*(20*dc lev+3)<=68719476736
 fin:fh C (bg C lev) x ins d (e+1-k) k L=R
theorem HM (rep:Sc->List Nat->Nat->Nat->Int->Gs->Gs)(base:Int)(k:Nat)(ln:Qt)(L:Ls):(dn C rep x ins base k ln L).J6.length=L.J6.length/\(dn C rep x ins base k ln L).pos.length=L.pos.length:=by
 unfold dn be;repeat' split
 all_goals simp
theorem rX (k:Nat)(ln:Qt)(L:Ls):(bf C x k ln L).J6=L.J6/\(bf C x k ln L).pos=L.pos/\(bf C x k ln L).lv=L.lv/\(bf C x k ln L).g.I8.length=L.g.I8.length/\(bf C x k ln L).g.J4=L.g.J4/\(bf C x k ln L).g.start=L.g.start:=by
 unfold bf;split
 ·exact⟨rfl,rfl,rfl,bB _ _ _,rfl,rfl⟩
 ·exact⟨rfl,rfl,rfl,rfl,rfl,rfl⟩
theorem KS (rep:Sc->List Nat->Nat->Nat->Int->Gs->Gs)(base:Int)(k:Nat)(ln:Qt)(L:Ls)(hp:k<L.pos.length)(i:Nat):
  (i≠k->atL (dn C rep x ins base k ln L).pos i=atL L.pos i)/\((ln.J0=3\/ln.J0=4\/ln.J0=5)->0<=atL (dn C rep x ins base k ln L).pos k/\atL (dn C rep x ins base k ln L).pos k<(dn C rep x ins base k ln L).g.I8.length):=by
 unfold dn;by_cases h4:ln.J0=4
 ·rw[b9 h4];refine⟨fun hi=>eO hi,fun _=>?_⟩;simp only[fX hp,bB,aB,c7,d6,e8];omega
 ·rw[b8 h4];by_cases h7:ln.J0=7
  ·rw[b9 h7];refine⟨fun _=>?_,fun h=>o_⟩;unfold be;repeat' split
   all_goals rfl
  ·rw[b8 h7];by_cases h1:ln.J0=1
   ·rw[b9 h1];exact⟨fun _=>rfl,fun h=>o_⟩
   ·rw[b8 h1];by_cases h2:ln.J0=2
    ·rw[b9 h2];exact⟨fun _=>rfl,fun h=>o_⟩
    ·rw[b8 h2];by_cases h6:ln.J0=6
     ·rw[b9 h6];refine⟨fun _=>?_,fun h=>o_⟩;unfold be;repeat' split
      all_goals rfl
     ·rw[b8 h6];refine⟨fun hi=>eO hi,fun _=>?_⟩;simp only[fX hp,aB,c7,d6,e8];omega
theorem LInv.next (hC:CxOk C)(hx:ScOk C x ins){lev e k:Nat}{d:Int}{R L:Ls}{ln:Qt}(he:h_ C.p x.f=some e)(h:LInv C lev x ins d e R k L)(hk:k<=e)(hl:C.p[k]?=some ln):LInv C lev x ins d e R (k+1) (bf C x k ln (dn C (bg C lev) x ins d k ln L)):=by
 have h0:=fQ hC hx he h.lo hk hl;have O6:∀line g d s,bI C g->cv C ins g s.I8.length=true->Grow (dc lev) s (bg C lev x ins line g d s):=fun line g d s hg hr=>dQ hC lev line g d s hx hg hr;have hA:=nu (lev:=lev) (rep:=bg C lev) O6 hC hl h0 d L;obtain⟨b1,b2,b3,b4,b5,b6⟩:=rX (C:=C) (x:=x) k ln (dn C (bg C lev) x ins d k ln L);obtain⟨a1,a2⟩:=HM (C:=C) (x:=x) (ins:=ins) (bg C lev) d k ln L;have QY:=hA.ge;have P6:=hA.le;have hr:=h.room;refine⟨by have:=h.lo;omega,o_,by rw[b1,a1];exact h.J6,by rw[b2,a2];exact h.pos,fun i h1 h2 hj=>?_,Fb k ln (DX (lev:=lev) O6 hC hl h0 d h.lv),?_,?_⟩
 ·rw[b2,b4];obtain⟨p1,p2⟩:=KS (C:=C) (x:=x) (ins:=ins) (bg C lev) d k ln L (by rw[h.pos];exact aE hl) i;by_cases RB:i=k
  ·subst RB;refine p2 ?_;unfold jumps at hj;rw[aL hl]at hj;exact hj
  ·rw[p1 RB];have:=h.at_ i h1 o_ hj;omega
 ·rw[b4];obtain⟨n,hn⟩:∃n,e+1-k=n+1:=⟨e-k,o_⟩;rw[hn,p8]at hr;rw[show e+1-(k+1)=n by omega];omega
 ·have hf:=h.fin;obtain⟨n,hn⟩:∃n,e+1-k=n+1:=⟨e-k,o_⟩;rw[hn,fh,hl]at hf;rw[show e+1-(k+1)=n by omega];exact hf
theorem HB (hC:CxOk C)(hx:ScOk C x ins){e k:Nat}{ln:Qt}(he:h_ C.p x.f=some e)(h1:x.f+1<=k)(hk:k<=e)(hl:C.p[k]?=some ln)(A:Ls):
  (k+1<=e->dV A.g.I8 A.g.I8.length ((k+1:Nat):Int) (bJ C.p A.pos (x.f+1) (k+1-(x.f+1)))=(bf C x k ln A).g.I8)/\(k=e->A.g.I8=(bf C x k ln A).g.I8):=by
 constructor
 ·intro QI;unfold bf;by_cases h7:ln.J0=7
  ·obtain⟨q1,q2,q3,q4,q5⟩:=xE hC hx he o_ o_ hl h7;rw[b9 ⟨h7,q5⟩];refine uC q3 q4 q1 o_ fun i k1 k2 k3 k4=>?_;obtain⟨_,_,t3⟩:=tj hC hx he (k:=k+1) k1 o_ QI k3 k4;rw[F8]at t3;exact t3.symm
  ·rw[b8 o_];refine lX fun z hz=>?_;obtain⟨i,k1,k2,k3,rfl⟩:=nK hz;intro hh;obtain⟨t1,_⟩:=tj hC hx he (k:=k+1) k1 o_ QI k3 hh;rw[F8,aL hl]at t1;exact h7 t1
 ·rintro rfl;unfold bf;rw[b8];rintro⟨_,h⟩;exact h (jK he)
theorem HQ (hC:CxOk C)(hx:ScOk C x ins){e k:Nat}{ln:Qt}(he:h_ C.p x.f=some e)(h1:x.f+1<=k)(hk:k<=e)(hl:C.p[k]?=some ln)(h4:ln.J0=4)(pos:List Int)(l:List Qs)(v:Int):
  dV l v (-(k:Int)) (bJ C.p pos (x.f+1) (k+1-(x.f+1)))=bv l (atL pos (f_ C.p k)) v:=by
 obtain⟨o1,o2,o3,o4⟩:=hx.own4 hC he h1 hk hl h4;obtain⟨y,m,hy,y3,hm,_,_,_⟩:=aP o1;have Vm:=aL hy;have QP:bi C.p (f_ C.p k:Int)=(k:Int):=by rw[bZ];exact aU o1
 refine uC aaY (by unfold eV;rw[b8 o_,b9 ⟨o_,o_⟩,QP]) o_ o_ fun i k1 k2 k3 k4=>?_;unfold eV at k4;by_cases hi4:j_ C.p i=4
 ·rw[b9 hi4]at k4;have:=gG C.p (f_ C.p i);omega
 ·rw[b8 hi4]at k4;split at k4
  ·rename_i h3;have SG:bi C.p (i:Int)=(k:Int):=o_;rw[bZ]at SG
   cases Sv:i_ C.p i with
   | none=>rw[Sv]at SG;simp only[cn]at SG;omega
   | some j=>rw[Sv]at SG;simp only[cn]at SG;have:j=k:=o_;subst this;exact lG Sv o1
  ·have:=gG C.p i;omega
end
end Go.Proofs.P
