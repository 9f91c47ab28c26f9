import Derived.Test.YtoglejgmjeojoaaGreatGe
set_option maxRecDepth 100000
set_option maxHeartbeats 4000000
namespace Go.Proofs.P
open Go.Sim Tryz
theorem Cq {p q:Prop}[Decidable p][Decidable q]{α:Type}{a b:α}{r:α}(hp:p):((if p/\q then a else b)=r)=((if q then a else b)=r):=by
 by_cases hq:q
 ·rw[c7 ⟨hp,hq⟩,c7 hq]
 ·rw[b8 (fun h=>hq h.2),b8 hq]
theorem IY {l:List LP}{j i:Nat}:(cB l (j:Int)==(i:Int))=(elseAt l j==some i):=by
 rw[cB,c7 o_,d7]
 cases elseAt l j with|none=>simp[cM]|some m=>rw[A0];simp[cM];omega
theorem V38{p:Prop}(h:p:=by
 repeat' ((conv=>whnf);first|apply Wx|apply W6|apply oi|apply fi|intro h|refine⟨i,y.tr,rfl,ab hy,?_⟩|refine⟨j,t.tr,rfl,ab ht,?_⟩|refine cl hI ?_|refine cl hF ?_|exact Y5|refine e_ rfl ?_)
 all_goals try(exfalso;(try simp_all[af]);(try omega);done)):p:=h
theorem V26{p:Prop}(h:p:=by
 repeat' ((conv=>whnf);first|apply Wx|apply W6|apply oi|apply fi|intro h|refine⟨i,y.tr,rfl,ab hy,?_⟩|refine⟨j,t.tr,rfl,ab ht,?_⟩|refine cl hI ?_|refine cl hF ?_|exact Y5|refine e_ rfl ?_)
 all_goals try exact Q2
 all_goals try exact Q5
 conv=>whnf
 refine⟨⟨j+1,o_,MO⟩,?_,KD⟩
 exact Z5):p:=h
theorem Q22{p:Prop}(h:p:=by exfalso;simp only[p9,j5]at h;omega):p:=h
theorem wL (l:List LP)(k e:Nat)(hl:l.length<=60)(hs:∀x∈l,aF 1048576 x.tr)(he:endAt l k=some e):Sim.Spec prog 122 [tvP l,tvI k,tvI e] (rB (lW l k e)):=by
 refine bv hΓ aG func122 rfl d_ rfl ?_;have Mw:(l.map LP.tr).length=l.length:=s_;have hL:=iM l k o_ hs;obtain⟨XO,X2⟩:=Gi (l:=l) (k:=(k:Int)) o_ hs;have Wt:=(aN he);obtain⟨x0,QL,ho0,RN,NF,M6⟩:=Wt;unfold lW
 generalize localsOf l (k:Int)=loc at *
 have Oh:(loc.map ao).length=loc.length:=s_;by_cases h8:loc.length<=8
 ·rw[q9 h8,m9];obtain⟨R,hR⟩:∃R,lN l loc k e (e-(k+1)) (k+1) 0=R:=⟨_,rfl⟩;rw[hR];repeat' ((conv=>whnf);first|apply Wx|apply W6|apply oi|apply fi|intro h|refine cl hL ?_|exact Y5|refine e_ rfl ?_)
  conv=>whnf
  refine⟨{q:Nat×List Nat//k<q.1/\q.1<=e/\StkOk l e q.1 q.2/\q.2.length<=4/\lN l loc k e (e-q.1) q.1 q.2.length=R},fun q=>⟨[(0,vP l),(1,tI .i64 (k:Int)),(2,tI .i64 (e:Int)),(7,.r (.c (.own (7,0,0)))),(8,tI .i64 ((q.1.2.length:Nat):Int)),(9,tI .i64 (q.1.1:Int))],[((7,0,0),some (.arr true 1 (loc.map ao)))],[7]⟩,fun q=>e-q.1.1,⟨(k+1,[]),g_,g_,RN,s_,hR⟩,?_,?_⟩
  ·exact Z5
  intro⟨⟨i,es⟩,q1,q2,g1,g2,g4⟩;dsimp only at q1 q2 g1 g2 g4⊢;by_cases Mz:i<e
  ·obtain⟨y,hy⟩:=ae (l:=l) (k:=i) o_;have QX:(y.K9.map LZ.tr).length=y.K9.length:=s_;have Yo:=(fM (hs y (c9 hy))).2.2.2.1;obtain⟨K,hK⟩:∃K,eB l loc y.K9=K:=⟨_,rfl⟩;rw[Dd Mz hy,hK]at g4;by_cases h0:y.J1=0
   ·rw[c7 h0]at g4;subst g4;repeat' ((conv=>whnf);first|apply Wx|apply W6|apply oi|apply fi|intro h|refine⟨i,y.tr,rfl,ab hy,?_⟩|exact Y5|refine e_ rfl ?_)
    all_goals try exact Q5
   ·rw[b8 h0]at g4;repeat' ((conv=>whnf);first|(with_reducible apply W1;fail_if_success (with_reducible show Wo _ _ _ _ (Code.seq (Code.region 8 _ _) _) _ _))|(with_reducible first|apply W2|apply W3|apply W4|apply W5|apply W6|apply W7|apply W8|apply W9)|apply aB|apply oi|apply fi|intro h|refine⟨i,y.tr,rfl,ab hy,?_⟩|exact Y5|refine e_ rfl ?_)
    refine nw {q:Nat×List Nat//StkOk l e (i+1) q.2/\q.1=q.2.length/\q.1<=60/\(if q.1<=4/\K=true then lN l loc k e (e-(i+1)) (i+1) q.1 else false)=R} (fun q=>⟨[(0,vP l),(1,tI .i64 (k:Int)),(2,tI .i64 (e:Int)),(7,.r (.c (.own (7,0,0)))),(8,tI .i64 ((q.1.1:Nat):Int)),(9,tI .i64 (i:Int))],[((7,0,0),some (.arr true 1 (loc.map ao)))],[7]⟩) ?_ ?_
    ·by_cases UB:y.J1=3\/y.J1=5
     ·rw[b8 (fun h=>o_)]at g4;have hd:dep y es.length=es.length+1:=(by unfold dep;rw[c7 UB]);rw[hd]at g4;obtain⟨m',P8,Ta,Oo⟩:=g1.push hy (opensK_iff.2 o_);have QD:IntKind.i64.wrap ((es.length:Int)+1)=((es.length+1:Nat):Int):=(by rw[c6 _ o_];omega);repeat' ((conv=>whnf);first|apply Wx|apply W6|apply oi|apply fi|intro h|refine⟨i,y.tr,rfl,ab hy,?_⟩|exact Y5|refine e_ rfl ?_)
      all_goals try exact Q5
      all_goals
       conv=>whnf
       refine⟨⟨(es.length+1,m'::es),Oo,rfl,g_,g4⟩,?_⟩;repeat' ((conv=>whnf);first|apply Wx|apply W6|apply oi|apply fi|intro h|exact Y7|refine e_ rfl ?_)
       all_goals try exact⟨by dsimp only;rw[QD]⟩
     ·by_cases U2:y.J1=7
      ·rw[b8 (fun h=>o_)]at g4;rcases g1.pop hy U2 with⟨_,h'⟩|⟨NY,Rf,Oo⟩
       ·omega
       have hd:dep y es.length=NY.length:=(by unfold dep;rw[b8 UB,c7 U2,Rf];simp);have hl4:es.length=NY.length+1:=(by rw[Rf];rfl);rw[hd]at g4;have QD:IntKind.i64.wrap ((es.length:Int)-1)=(NY.length:Int):=(by rw[c6 _ o_];omega);repeat' ((conv=>whnf);first|apply Wx|apply W6|apply oi|apply fi|intro h|refine⟨i,y.tr,rfl,ab hy,?_⟩|exact Y5|refine e_ rfl ?_)
       all_goals try exact Q5
       conv=>whnf
       refine⟨⟨(NY.length,NY),Oo,rfl,g_,g4⟩,?_⟩;repeat' ((conv=>whnf);first|apply Wx|apply W6|apply oi|apply fi|intro h|exact Y7|refine e_ rfl ?_)
       all_goals try exact⟨by dsimp only;rw[QD]⟩
      ·have hd:dep y es.length=es.length:=by unfold dep;rw[b8 UB,b8 U2]
       have ho:dM y.J1=false:=by cases hh:dM y.J1 with|false=>rfl|true=>rw[opensK_iff]at hh;omega
       have Oo:=g1.other hy ho U2;rw[hd]at g4;by_cases h4:y.J1=4
       ·obtain⟨Av,hA⟩:∃Av,anyE l i (i-k) k=Av:=⟨_,rfl⟩;rw[hA]at g4;repeat' ((conv=>whnf);first|apply Wx|apply W6|apply oi|apply fi|intro h|refine⟨i,y.tr,rfl,ab hy,?_⟩|exact Y5|refine e_ rfl ?_)
        all_goals try exact Q5
        conv=>whnf
        refine⟨{q:Nat×Bool//q.1<=i/\(q.2||anyE l i (i-q.1) q.1)=Av},fun q=>⟨[(0,vP l),(1,tI .i64 (k:Int)),(2,tI .i64 (e:Int)),(7,.r (.c (.own (7,0,0)))),(8,tI .i64 ((es.length:Nat):Int)),(9,tI .i64 (i:Int)),(10,tB q.1.2),(11,tI .i64 (q.1.1:Int))],[((7,0,0),some (.arr true 1 (loc.map ao)))],[7]⟩,fun q=>i-q.1.1,⟨(k,false),g_,by simpa using hA⟩,?_,?_⟩
        ·exact Z2
        intro⟨⟨j,b⟩,hj,hb⟩;dsimp only at hj hb⊢;by_cases NS:j<i
        ·obtain⟨n,hn⟩:∃n,i-j=n+1:=⟨i-j-1,o_⟩;have PU:i-(j+1)=n:=o_;rw[hn,anyE,<-IY]at hb;have hS:=ko l (j:Int) o_
         generalize cB l (j:Int)=ee at *
         cases b with
         | true=>
          repeat' ((conv=>whnf);first|apply Wx|apply W6|apply oi|apply fi|intro h|refine cl hS ?_|exact Y5|refine e_ rfl ?_)
          conv=>whnf
          refine⟨⟨(j+1,true),g_,by simpa using hb⟩,?_,KD⟩
          exact Z5
         | false=>
          repeat' ((conv=>whnf);first|apply Wx|apply W6|apply oi|apply fi|intro h|refine cl hS ?_|exact Y5|refine e_ rfl ?_)
          conv=>whnf
          refine⟨⟨(j+1,(ee==(i:Int))),g_,by dsimp only;rw[PU];simpa using hb⟩,?_,KD⟩;exact Z5
        ·rw[show i-j=0 by omega,anyE,Bool.or_false]at hb;subst hb
         cases b with
         | false=>
          rw[c7 ⟨h4,rfl⟩]at g4;subst g4
          exact Z7
         | true=>
          rw[b8 s_]at g4;repeat' ((conv=>whnf);first|apply Wx|apply W6|apply oi|apply fi|intro h|exact Y5|refine e_ rfl ?_)
          conv=>whnf
          refine⟨⟨(es.length,es),Oo,rfl,g_,g4⟩,?_⟩;exact Z2
       ·rw[b8 (fun h=>h4 h.1)]at g4;repeat' ((conv=>whnf);first|apply Wx|apply W6|apply oi|apply fi|intro h|refine⟨i,y.tr,rfl,ab hy,?_⟩|exact Y5|refine e_ rfl ?_)
        all_goals try exact Q5
        conv=>whnf
        refine⟨⟨(es.length,es),Oo,rfl,g_,g4⟩,?_⟩;exact Z2
    clear g4 g1;intro⟨⟨d,NY⟩,Oo,Qz,VY,g4⟩;dsimp only at Oo Qz VY g4⊢;have QD:(d:Int)=(d:Int):=rfl;by_cases Xo:(d)<=4
    ·rw[Cq Xo]at g4;repeat' ((conv=>whnf);first|apply Wx|apply W6|apply oi|apply fi|intro h|refine⟨i,y.tr,rfl,ab hy,?_⟩|exact Y5|refine e_ rfl ?_)
     all_goals try exact Q22
     conv=>whnf
     refine⟨{j:Nat//j<=y.K9.length/\(y.K9.drop j).all (cG l loc)=K},fun q=>⟨[(0,vP l),(1,tI .i64 (k:Int)),(2,tI .i64 (e:Int)),(7,.r (.c (.own (7,0,0)))),(8,tI .i64 (d:Int)),(9,tI .i64 (i:Int)),(12,tI .i64 (q.1:Int))],[((7,0,0),some (.arr true 1 (loc.map ao)))],[7]⟩,fun q=>y.K9.length-q.1,⟨0,o_,hK⟩,?_,?_⟩
     ·exact Z2
     intro⟨j,hj,MO⟩;dsimp only at hj MO⊢;by_cases NP:j<y.K9.length
     ·obtain⟨t,ht⟩:=ae NP;rw[Kr ht]at MO;have hI:=fI loc t.J8 o_;have hF:=dJ l t.J8 o_;by_cases h1:t.J1=1
      ·have e1:cG l loc t=loc.contains t.J8:=(by unfold cG;rw[c7 h1]);rw[e1]at MO;have OU:=xg (l:=loc) (s:=t.J8)
       generalize dG loc t.J8=ix at *
       generalize lP l t.J8=ff at *
       cases hc:loc.contains t.J8 with
       | false=>
        rw[hc]at OU MO;rw[s9]at MO;subst MO;rw[b8 s_]at g4;subst g4
        exact V38
       | true=>rw[hc]at OU MO;rw[m9]at MO;exact V26
      ·by_cases h7:t.J1=7
       ·cases hf:findN l 0 t.J8 with
        | none=>
         have e1:cG l loc t=false:=(by unfold cG;rw[b8 h1,c7 h7,hf]);rw[e1,s9]at MO;subst MO;rw[b8 s_]at g4;subst g4;rw[show lP l t.J8= -1 from qP hf]at hF
         exact V38
        | some f=>
         obtain⟨MN,x,hx,QL,_⟩:=gK hf;have e1:cG l loc t=((x.L5.length:Int)==t.Mc):=(by unfold cG;rw[b8 h1,c7 h7,hf];dsimp only;rw[hx]);rw[e1]at MO;rw[show lP l t.J8=(f:Int) from bQ hf]at hF;have Qa:(x.L5.map ao).length=x.L5.length:=s_;by_cases hn:(x.L5.length:Int)=t.Mc
         ·rw[w8.2 hn,m9]at MO;repeat' ((conv=>whnf);first|apply Wx|apply W6|apply oi|apply fi|intro h|refine⟨i,y.tr,rfl,ab hy,?_⟩|refine⟨j,t.tr,rfl,ab ht,?_⟩|refine⟨f,x.tr,rfl,ab hx,?_⟩|refine cl hI ?_|refine cl hF ?_|exact Y5|refine e_ rfl ?_)
          all_goals try exact Q2
          all_goals try exact Q5
          conv=>whnf
          refine⟨⟨j+1,o_,MO⟩,?_,KD⟩;exact Z5
         ·rw[B4.2 hn,s9]at MO;subst MO;rw[b8 s_]at g4;subst g4;repeat' ((conv=>whnf);first|apply Wx|apply W6|apply oi|apply fi|intro h|refine⟨i,y.tr,rfl,ab hy,?_⟩|refine⟨j,t.tr,rfl,ab ht,?_⟩|refine⟨f,x.tr,rfl,ab hx,?_⟩|refine cl hI ?_|refine cl hF ?_|exact Y5|refine e_ rfl ?_)
          all_goals try exact Q2
          all_goals try exact Q5
       ·have e1:cG l loc t=true:=(by unfold cG;rw[b8 h1,b8 h7]);rw[e1,m9]at MO;exact V26
     ·rw[n9 o_,List.all_nil]at MO;subst MO;rw[c7 rfl]at g4;repeat' ((conv=>whnf);first|apply Wx|apply W6|apply oi|apply fi|intro h|refine⟨i,y.tr,rfl,ab hy,?_⟩|exact Y7|refine e_ rfl ?_)
      all_goals try(exfalso;have h':=f0 h;rw[QX]at h';omega)
      conv=>whnf
      refine⟨⟨(i+1,NY),g_,g_,Oo,g_,by dsimp only;rw[<-Qz];exact g4⟩,?_,KD⟩;repeat' ((conv=>whnf);first|apply Wx|apply W6|apply oi|apply fi|intro h|exact Y7|refine e_ rfl ?_)
      all_goals try exact⟨by dsimp only;rw[Qz]⟩
      all_goals try exact⟨K1⟩
    ·rw[b8 (fun h=>Xo h.1)]at g4;subst g4;repeat' ((conv=>whnf);first|apply Wx|apply W6|apply oi|apply fi|intro h|refine⟨i,y.tr,rfl,ab hy,?_⟩|exact Y5|refine e_ rfl ?_)
     all_goals try exact Q22
  ·rw[Gj o_]at g4;subst g4;exact Z7
 ·rw[D5 h8,s9];repeat' ((conv=>whnf);first|apply Wx|apply W6|apply oi|apply fi|intro h|refine cl hL ?_|exact Y5|refine e_ rfl ?_)
theorem Gq {l:List LP}:(ay l).all (nameFirst l)=true↔∀k x,l[k]?=some x->x.J1=0->nameFirst l k=true:=by
 rw[o8];constructor
 ·intro H k x hx h0;refine H k ?_
  have key:∀(n i:Nat),l.length-i<=n->i<=k->k∈funsF (l.drop i) i:=by
   have Nf:k<l.length:=by exact V109
   intro n
   induction n with
   | zero=>intro i h1 h2;omega
   | succ n ih=>
    intro i h1 h2;obtain⟨y,hy⟩:=ae (l:=l) (k:=i) o_;rw[zR hy,d9];by_cases Oz:i=k
    ·subst Oz;rw[hx]at hy;injection hy with hy;subst hy;rw[c7 h0];exact .inl s_
    ·exact .inr (ih (i+1) o_ o_)
  have:=key l.length 0 o_ o_;rwa [B8]at this
 ·intro H k hk;obtain⟨_,x,hx,h0⟩:=nV hk;exact H k x hx h0
def ok1 (l:List LP)(k:Nat)(x:LP):Bool:=cY x&&(if x.J1=0 then nameFirst l k else true)
def okN (l:List LP):Nat->Nat->Bool
 | 0,_=>true
 | n+1,k=>match l[k]? with
  | some x=>ok1 l k x&&okN l n (k+1)
  | none=>true
theorem Ag {l:List LP}{k:Nat}{x:LP}(hx:l[k]?=some x):okN l (l.length-k) k=(ok1 l k x&&okN l (l.length-(k+1)) (k+1)):=by
 have hk:k<l.length:=by exact V109
 rw[show l.length-k=(l.length-(k+1))+1 by omega,okN,hx]
theorem za {l:List LP}:∀(n k:Nat),l.length-k<=n->(okN l (l.length-k) k=true↔∀j x,k<=j->l[j]?=some x->ok1 l j x=true)
 | n,k,hn=>by
  by_cases hk:k<l.length
  ·obtain⟨x,hx⟩:=ae hk
   cases n with
   | zero=>omega
   | succ n=>
    rw[Ag hx,b9,za n (k+1) o_];constructor
    ·rintro⟨h1,h2⟩ j y hj hy;by_cases N9:j=k
     ·subst N9;rw[hx]at hy;injection hy with hy;subst hy;exact h1
     ·exact h2 j y o_ hy
    ·intro H;exact⟨H k x (d8 _) hx,fun j y hj hy=>H j y o_ hy⟩
  ·rw[show l.length-k=0 by omega];refine⟨fun _ j x hj hx=>?_,fun _=>rfl⟩;rw[e9 o_]at hx
   cases hx
theorem IC (l:List LP):okN l l.length 0=(l.all cY&&(ay l).all (nameFirst l)):=by
 have h0:=za (l:=l) l.length 0 o_;rw[y0]at h0;rw[A0,h0,b9,Gq,o8];constructor
 ·intro H;refine⟨fun x hx=>?_,fun k x hx h0=>?_⟩
  ·obtain⟨k,hk⟩:=C3 hx;have:=H k x o_ hk;rw[ok1,b9]at this;exact this.1
  ·have:=H k x o_ hx;rw[ok1,b9,c7 h0]at this;exact this.2
 ·rintro⟨H1,H2⟩ j x _ hx;rw[ok1,b9];refine⟨H1 x (c9 hx),?_⟩;split
  ·exact H2 j x hx aaj
  ·rfl
theorem sW {l:List LP}:ah l=(decide (l.length<=60)&&(decide ((ay l).length<=6)&&(headOk l&&(okN l l.length 0&&bM (lW l) l l.length 0)))):=by
 unfold ah;rw[IC,oJ]
 cases hh:headOk l with
 | false=>simp
 | true=>
  have h1:1<=(ay l).length:=by
   cases l with
   | nil=>cases hh
   | cons x r=>
    have:x.J1=0:=by unfold headOk at hh;simp only[b9,w8]at hh;exact hh.1
    rw[ay,funsF,c7 this];simp
  have e:(decide (1<=(ay l).length/\(ay l).length<=6))=decide ((ay l).length<=6):=by rw[decide_eq_decide];omega
  rw[e];generalize decide (l.length<=60)=b1;generalize decide ((ay l).length<=6)=b2;generalize l.all cY=b3;generalize(ay l).all (nameFirst l)=b4;generalize ue l=b5;generalize bM (tP l) l l.length 0=b6
  cases b1<;>cases b2<;>cases b3<;>cases b4<;>cases b5<;>cases b6<;>rfl
theorem V57{p:Prop}(h:p:=by
 repeat' ((conv=>whnf);first|apply Wx|apply W6|apply oi|apply fi|intro h|refine cl hF ?_|refine⟨0,x0.tr,rfl,ab QL,?_⟩|exact Y5|refine e_ rfl ?_)
 all_goals try(exfalso;simp_all[kJ];done)):p:=h
theorem V89{p:Prop}(h:p:=by
 unfold nameFirst;rw[hx,lP];dsimp only
 cases findN l 0 x.J8 with
 | none=>simp[cM]
 | some m=>rw[A0];simp[cM];omega):p:=h
theorem V34{p:Prop}(h:p:=by
 repeat' ((conv=>whnf);first|apply Wx|apply W6|apply oi|apply fi|intro h|refine cl hL ?_|refine cl hN ?_|refine⟨k,x.tr,rfl,ab hx,?_⟩|exact Y5|refine e_ rfl ?_)
 all_goals try exact Q5
 all_goals
  conv=>whnf
  refine⟨⟨k+1,o_,by simp_all⟩,?_,KD⟩
  exact Z5):p:=h
theorem V35{p:Prop}(h:p:=by
 repeat' ((conv=>whnf);first|apply Wx|apply W6|apply oi|apply fi|intro h|refine cl hL ?_|refine cl hN ?_|refine⟨k,x.tr,rfl,ab hx,?_⟩|exact Y5|refine e_ rfl ?_)
 all_goals try exact Q5
 all_goals
  conv=>whnf
  refine⟨⟨k+1,o_⟩,?_,KD⟩
  exact Z5):p:=h
theorem dR (l:List LP)(QN:aw 1048576 (.lst 4 (l.map LP.tr))):Sim.Spec prog 47 [tvP l] (rB (ah l)):=by
 refine bv hΓ aG func47 rfl d_ rfl ?_;have hl:=bE QN;have hs:∀x∈l,aF 1048576 x.tr:=fun x hx=>bg QN hx;have Mw:(l.map LP.tr).length=l.length:=s_;have hF:=cH l hl;have MN:((ay l).map fun n:Nat=>aa n).length=(ay l).length:=s_;rw[sW];by_cases c1:l.length<=60
 ·rw[q9 c1,m9];by_cases M7:0<l.length
  ·obtain⟨x0,QL⟩:=ae M7;have M5:(x0.L5.map ao).length=x0.L5.length:=s_;have PR:=FH QL;by_cases c2:(ay l).length<=6
   ·rw[q9 c2,m9]
    cases hh:headOk l with
    | false=>
     rw[hh]at PR;rw[s9]
     exact V57
    | true=>
     rw[hh]at PR;rw[m9]
     cases MC:okN l l.length 0 with
     | false=>
      rw[s9];repeat' ((conv=>whnf);first|apply Wx|apply W6|apply oi|apply fi|intro h|refine cl hF ?_|refine⟨0,x0.tr,rfl,ab QL,?_⟩|exact Y5|refine e_ rfl ?_)
      all_goals try(exfalso;simp_all[kJ];done)
      conv=>whnf
      refine⟨{k:Nat//k<=l.length/\okN l (l.length-k) k=false},fun q=>⟨[(0,vP l),(3,tI .i64 (q.1:Int))],[],[]⟩,fun q=>l.length-q.1,⟨0,o_,by rw[y0];exact MC⟩,?_,?_⟩
      ·exact Z2
      intro⟨k,hk,hr⟩;dsimp only at hk hr⊢;by_cases Mz:k<l.length
      ·obtain⟨x,hx⟩:=ae Mz;rw[Ag hx,ok1]at hr;have hL:=oo x (hs x (c9 hx));have hN:=dJ l x.J8 hl
       have WD:(lP l x.J8==(k:Int))=nameFirst l k:=by exact V89
       generalize lP l x.J8=ff at *
       generalize cY x=lo at *
       generalize nameFirst l k=nf at *
       by_cases h0:x.J1=0
       ·rw[c7 h0]at hr;exact V34
       ·rw[b8 h0,Bool.and_true]at hr;exact V34
      ·rw[show l.length-k=0 by omega]at hr
       cases hr
     | true=>
      rw[m9];obtain⟨R,hR⟩:∃R,bM (lW l) l l.length 0=R:=⟨_,rfl⟩;rw[hR];have P6:=(za (l:=l) l.length 0 o_);rw[y0]at P6;have P6:=P6.1 MC;repeat' ((conv=>whnf);first|apply Wx|apply W6|apply oi|apply fi|intro h|refine cl hF ?_|refine⟨0,x0.tr,rfl,ab QL,?_⟩|exact Y5|refine e_ rfl ?_)
      all_goals try(exfalso;simp_all[kJ];done)
      conv=>whnf
      refine⟨{k:Nat//k<=l.length},fun q=>⟨[(0,vP l),(3,tI .i64 (q.1:Int))],[],[]⟩,fun q=>l.length-q.1,⟨0,o_⟩,?_,?_⟩
      ·exact Z2
      intro⟨k,hk⟩;dsimp only at hk⊢;by_cases Mz:k<l.length
      ·obtain⟨x,hx⟩:=ae Mz;have hr:=P6 k x o_ hx;rw[ok1]at hr;have hL:=oo x (hs x (c9 hx));have hN:=dJ l x.J8 hl
       have WD:(lP l x.J8==(k:Int))=nameFirst l k:=by exact V89
       clear P6 MC
       generalize lP l x.J8=ff at *
       generalize cY x=lo at *
       generalize nameFirst l k=nf at *
       by_cases h0:x.J1=0
       ·rw[c7 h0]at hr;exact V35
       ·rw[b8 h0,Bool.and_true]at hr;exact V35
      ·repeat' ((conv=>whnf);first|apply Wx|apply W6|apply oi|apply fi|intro h|exact Y5|refine e_ rfl ?_)
       conv=>whnf
       refine⟨{k:Nat//k<=l.length/\bM (lW l) l (l.length-k) k=R},fun q=>⟨[(0,vP l),(4,tI .i64 (q.1:Int))],[],[]⟩,fun q=>l.length-q.1,⟨0,o_,by rw[y0];exact hR⟩,?_,?_⟩
       ·exact Z2
       intro⟨k,hk,hr⟩;dsimp only at hk hr⊢;by_cases Mz:k<l.length
       ·obtain⟨x,hx⟩:=ae Mz;rw[na hx (d8 _)]at hr;have hE:=cT l (k:Int) hl
        cases he:endAt l k with
        | none=>
         rw[cw,qP he]at hE;rw[he]at hr;subst hr;repeat' ((conv=>whnf);first|apply Wx|apply W6|apply oi|apply fi|intro h|refine cl hE ?_|refine⟨k,x.tr,rfl,ab hx,?_⟩|exact Y5|refine e_ rfl ?_)
         all_goals try exact Q5
        | some e=>
         obtain⟨_,_,_,_,NF,M6⟩:=aN he;rw[cw,bQ he]at hE;rw[he]at hr;dsimp only at hr;have hK:=wL l k e c1 hs he
         generalize lW l k e=fb at *
         by_cases hc:x.J1=0/\fb=true
         ·rw[c7 hc]at hr;obtain⟨d1,d2⟩:=hc;subst d2;repeat' ((conv=>whnf);first|apply Wx|apply W6|apply oi|apply fi|intro h|refine cl hE ?_|refine cl hK ?_|refine⟨k,x.tr,rfl,ab hx,?_⟩|exact Y5|refine e_ rfl ?_)
          all_goals try exact Q5
          conv=>whnf
          refine⟨⟨e+1,o_,hr⟩,?_,KD⟩;exact Z5
         ·rw[b8 hc]at hr;subst hr;repeat' ((conv=>whnf);first|apply Wx|apply W6|apply oi|apply fi|intro h|refine cl hE ?_|refine cl hK ?_|refine⟨k,x.tr,rfl,ab hx,?_⟩|exact Y5|refine e_ rfl ?_)
          all_goals try exact Q5
       ·rw[show l.length-k=0 by omega,bM,q9 o_]at hr;subst hr;exact Z7
   ·rw[D5 c2,s9];exact V57
  ·have VE:l=[]:=A3.1 o_;subst VE;rw[show headOk ([]:List LP)=false from rfl,s9,C9];repeat' ((conv=>whnf);first|apply Wx|apply W6|apply oi|apply fi|intro h|refine cl hF ?_|exact Y5|refine e_ rfl ?_)
 ·rw[D5 c1,s9];repeat' ((conv=>whnf);first|apply Wx|apply W6|apply oi|apply fi|intro h|refine cl hF ?_|exact Y5|refine e_ rfl ?_)
  all_goals try exact Q5
theorem nQ {l:List LZ}{p:Nat}{e:Ex}(h:kr l p e):p+e.toks.length<=l.length:=by obtain⟨r,h⟩:=h;have h1:=congrArg List.length h;rw[t9,c8]at h1;have:=e.toks_pos;omega
theorem Q1{p:Prop}(h:p:=by exact⟨⟨by simp<;>omega,by simp<;>omega⟩⟩):p:=h
theorem Q4{p:Prop}(h:p:=by exfalso;simp at h;first|done|fail):p:=h
theorem tC (l:List LZ)(p:Nat)(t:LZ)(es:List Ex)(hl:l.length<=1048576)(hn:jl l)(ho:(Ex.node t es).ok)(hs:kr l p (.node t es)):Sim.Spec prog 258 [tvL 3 (l.map LZ.tr),tvI p] (rL 1 ((pN (p+1) es).map nR)):=by
 refine bv hΓ aG func258 rfl d_ rfl ?_;have Mw:(l.map LZ.tr).length=l.length:=s_;have MZ:=nQ hs;obtain⟨ht,Ui⟩:=oR hs;have hX:=jp l p hl hn;rw[pv hs ho]at hX;have YJ:=hn t (c9 ht);have hA:=ll t YJ;obtain⟨e1,e2⟩:=xY ho.1;have M6:es.length=ar t:=ho.2.1;rw[e1,<-M6]at hA;obtain⟨R,hR⟩:∃R,pN (p+1) es=R:=⟨_,rfl⟩;rw[hR]
 have Pb:p<l.length:=by have:=(Ex.node t es).toks_pos;omega
 generalize p+(Ex.node t es).toks.length=pe at *
 repeat' ((conv=>whnf);first|apply Wx|apply W6|apply oi|apply fi|intro h|refine cl hX ?_|refine⟨p,t.tr,rfl,ab ht,?_⟩|refine cl hA ?_|exact Y5|refine e_ rfl ?_)
 conv=>whnf
 refine⟨{q:Nat×List Nat×List Ex//q.2.1++pN q.1 q.2.2=R/\kG l q.1 q.2.2/\iV q.2.2/\q.2.1.length+q.2.2.length<=4/\q.1<=1048577},fun q=>⟨[(0,.r (.c (.t (.lst 3 (l.map LZ.tr))))),(5,.r (.c (.own (5,0,0)))),(6,tI .i64 (q.1.1:Int)),(7,tI .i64 (q.1.2.2.length:Int))],[((5,0,0),some (.arr true 1 (q.1.2.1.map nR)))],[5]⟩,fun q=>q.1.2.2.length,⟨(p+1,[],es),hR,Ui,ho.2.2,by simp;omega,g_⟩,?_,?_⟩
 ·exact Z5
 intro⟨⟨q,acc,fs⟩,h1,h2,h3,h4,h5⟩;dsimp only at h1 h2 h3 h4 h5⊢
 cases fs with
 | nil=>
  rw[pN,m6]at h1;subst h1;repeat' ((conv=>whnf);first|apply Wx|apply W6|apply oi|apply fi|intro h|exact Y5|refine e_ rfl ?_)
  all_goals try exact Q4
 | cons a fs=>
  obtain⟨g1,g2⟩:=fF h2;have Xl:=jp l q hl hn;rw[pv g1 h3.1]at Xl;have UE:=nQ g1;have MN:(a::fs).length=fs.length+1:=rfl;repeat' ((conv=>whnf);first|apply Wx|apply W6|apply oi|apply fi|intro h|refine cl Xl ?_|exact Y5|refine e_ rfl ?_)
  all_goals try exact Q4
  all_goals try exact Q1
  conv=>whnf
  refine⟨⟨(q+a.toks.length,acc++[q],fs),by dsimp only;rw[<-h1,pN];simp,g2,h3.2,by simp only[c8,d5,i8]at *;omega,g_⟩,?_,by dsimp only;simp⟩;repeat' ((conv=>whnf);first|apply Wx|apply W6|apply oi|apply fi|intro h|exact Y7|refine e_ rfl ?_)
  all_goals try exact⟨by dsimp only;rw[MN,c6 _ o_];congr 1;omega⟩
  all_goals exact⟨by simp[aa]⟩
def w32 (n:Int):Int:=IntKind.i32.wrap n
theorem xU (n:Int):IntKind.i32.wrap n=if n%4294967296≥2147483648 then n%4294967296-4294967296 else n%4294967296:=by simp[IntKind.wrap,IntKind.bits,IntKind.signed]
theorem rp (n:Int):-2147483648<=w32 n/\w32 n<=2147483647:=by unfold w32;rw[xU];split<;>omega
theorem HZ (n:Int):((BitVec.ofInt IntKind.i64.bits n &&& BitVec.ofInt IntKind.i64.bits 4294967295).toNat:Int)=n%4294967296:=by show((BitVec.ofInt 64 n &&& BitVec.ofInt 64 4294967295).toNat:Int)=_;have e:(BitVec.ofInt 64 4294967295).toNat=2^32-1:=d_;rw[I3,e,D0,B9];have:((2^64:Nat):Int)=18446744073709551616:=d_;omega
theorem Bv (n:Int):Sim.Spec prog 246 [tvI n] (rI (w32 n)):=by
 refine ak hΓ aG func246 rfl d_ rfl ?_
 have Qk:IntKind.i64.wrap ((BitVec.ofInt IntKind.i64.bits n &&& BitVec.ofInt IntKind.i64.bits 4294967295).toNat:Int)=n%4294967296:=by rw[HZ,c6 _ o_]
 unfold w32;rw[xU];repeat' ((conv=>whnf);first|refine Or.inl ?_|apply oi|apply fi|intro h|exact Y1|refine e_ rfl ?_)
 all_goals(refine⟨congrArg (Tr.int _) ?_⟩;rw[Qk]at h⊢)
 ·have h':=f0 h;rw[c7 o_,c6 _ o_]
 ·have h':=f9 h;rw[b8 o_]
theorem Ga {x y:Int}(hx:-2147483648<=x/\x<=2147483647)(hy:-2147483648<=y/\y<=2147483647):-4611686018427387904<=x*y/\x*y<=4611686018427387904:=by
 have h:(x*y).natAbs<=2147483648*2147483648:=by rw[Int.natAbs_mul];exact A4 o_ o_
 omega
def dX (k a b:Int):Int:=
 if k=2 then w32 (w32 a+w32 b)else if k=3 then w32 (w32 a-w32 b)else if k=4 then w32 (w32 a*w32 b)
 else if(k=5/\w32 a<w32 b)\/(k=6/\w32 a=w32 b)then 1 else 0
theorem pX (k a b:Int):Sim.Spec prog 206 [tvI k,tvI a,tvI b] (rI (dX k a b)):=by
 refine ak hΓ aG func206 rfl d_ rfl ?_;have ha:=rp a;have hb:=rp b;have hm:=Ga ha hb;have e1:IntKind.i64.wrap (w32 a+w32 b)=w32 a+w32 b:=c6 _ o_;have e2:IntKind.i64.wrap (w32 a-w32 b)=w32 a-w32 b:=c6 _ o_;have e3:IntKind.i64.wrap (w32 a*w32 b)=w32 a*w32 b:=c6 _ o_;unfold dX;repeat' ((conv=>whnf);first|refine Or.inl ?_|apply oi|apply fi|intro h|refine ci (Bv _) (ai rfl trivial) ?_|exact Y1|refine e_ rfl ?_)
 all_goals(refine⟨congrArg (Tr.int _) ?_⟩;simp_all;try omega)
def CF (n:Int):Ex:= .node ⟨0,n,[]⟩ []
def Ik (t a b:LZ):Prop:=af t.J1 2 6=true/\a.J1=0/\b.J1=0/\af (dX t.J1 a.Mc b.Mc) 0 999=true
instance (t a b:LZ):Decidable (Ik t a b):=by unfold Ik;infer_instance
def xa (t:LZ):List Ex->Ex
 | [.node a [],.node b []]=>if Ik t a b then CF (dX t.J1 a.Mc b.Mc)else .node t [.node a [],.node b []]
 | fs=> .node t fs
mutual
def Ex.fold:Ex->Ex
 | .node t es=>xa t (bW es)
def bW:List Ex->List Ex
 | []=>[]
 | a::es=>a.fold::bW es
end
theorem aT (l:List LZ):flat (l.map LZ.tr):=mt _ (by intro x c hc sz rs e;subst e;simp[LZ.tr]at hc)
theorem oG:∀es:List Ex,(bW es).length=es.length
 | []=>rfl
 | a::es=>by rw[bW,d5,oG,d5]
theorem sZ:∀(es:List Ex) (j:Nat),(bW es).take j=bW (es.take j)
 | [],j=>by simp[bW]
 | a::es,0=>by rw[H5,H5,bW]
 | a::es,j+1=>by rw[bW,q8,q8,bW,sZ es j]
theorem vl:∀{es:List Ex} {j:Nat} {a:Ex},es[j]?=some a->bW (es.take (j+1))=bW (es.take j)++[a.fold]
 | [],_,_,h=>by simp at h
 | b::es,0,a,h=>by
  rw[e8]at h;injection h with h;subst h
  rfl
 | b::es,j+1,a,h=>by
  rw[j8]at h;rw[q8,bW,q8,bW,vl h,u3]
theorem vW (a:Ex):aq [a]=a.toks:=by rw[aq,aq,m6]
theorem EC {f:Ex}(h:f.toks.length=1):∃a,f= .node a []:=by
 cases f with
 | node a es=>
  rw[Ex.toks,d5]at h
  cases es with
  | nil=>exact⟨a,rfl⟩
  | cons b es=>rw[aq,c8]at h;have:=b.toks_pos;omega
theorem wA {t:LZ}{fs:List Ex}(h:(aq fs).length≠2\/af t.J1 2 6=false):xa t fs= .node t fs:=by
 unfold xa;split
 ·rename_i a b;rw[b8];intro hc;rcases h with h|h
  ·exact h (by simp[aq,Ex.toks])
  ·rw[hc.1]at h;cases h
 ·rfl
theorem Hw (t a b:LZ):xa t [.node a [],.node b []]=if Ik t a b then CF (dX t.J1 a.Mc b.Mc)else .node t [.node a [],.node b []]:=rfl
theorem Jc (t:LZ)(fs:List Ex):(xa t fs).toks.length<=1+(aq fs).length:=by
 unfold xa;split
 ·split
  ·simp[CF,Ex.toks,aq]
  ·simp[Ex.toks,aq]
 ·rw[Ex.toks,d5];omega
mutual
theorem Ex.fold_le:∀e:Ex,e.fold.toks.length<=e.toks.length
 | .node t es=>by
  rw[Ex.fold,Ex.toks,d5];have h1:=Jc t (bW es);have h2:=rV es;omega
theorem rV:∀es:List Ex,(aq (bW es)).length<=(aq es).length
 | []=>d8 _
 | a::es=>by
  rw[bW,aq,aq,c8,c8];have h1:=Ex.fold_le a;have h2:=rV es;omega
end
theorem gu:∀(es:List Ex) (j:Nat),(aq (es.take j)).length<=(aq es).length
 | [],j=>by rw[List.take_nil];omega
 | a::es,0=>by rw[H5,aq];simp
 | a::es,j+1=>by
  have:=gu es j;rw[q8,aq,aq,c8,c8];omega
theorem oY:∀{es:List Ex} {j:Nat} {a:Ex},es[j]?=some a->a.toks.length<=(aq es).length
 | [],_,_,h=>by simp at h
 | b::es,0,a,h=>by
  rw[e8]at h;injection h with h;subst h
  rw[aq,c8];omega
 | b::es,j+1,a,h=>by
  rw[j8]at h;have:=oY h;rw[aq,c8];omega
theorem rX:∀{es:List Ex} {j:Nat} {a:Ex},iV es->es[j]?=some a->a.ok
 | [],_,_,_,h=>by simp at h
 | b::es,0,a,ho,h=>by
  rw[e8]at h;injection h with h;subst h
  exact ho.1
 | b::es,j+1,a,ho,h=>by
  rw[j8]at h;exact rX ho.2 h
theorem Kw {t:LZ}(ho:fw t=true)(hk:af t.J1 2 6=true):ar t=2:=by have:=within_iff.1 hk;unfold ar mc;rw[b8 aag,b8 o_,b8 o_];rfl
theorem KY {α:Type}{l:List α}(h:l.length=2):∃a b,l=[a,b]:=by
 match l,h with
 | [a,b],_=>exact⟨a,b,rfl⟩
theorem V24{p:Prop}(h:p:=by
 generalize dX t.J1 a.Mc b.Mc=ap at *
 repeat' ((conv=>whnf);first|apply Wx|apply W6|apply oi|apply fi|intro h|refine⟨p,t.tr,rfl,ab ht,?_⟩|refine cl hB ?_|refine⟨1,rfl,XM,?_⟩|refine⟨2,rfl,XX,?_⟩|refine⟨a.tr,rfl,?_⟩|refine⟨b.tr,rfl,?_⟩|refine cl Yg ?_|refine cl Tx ?_|exact Y5|refine e_ rfl ?_)
 all_goals try exact⟨⟨rfl,aT _⟩⟩
 all_goals try(exfalso;simp_all;done)):p:=h
theorem mS:∀(n:Nat) (e:Ex),e.toks.length<=n->∀(l:List LZ) (p:Nat),l.length<=1048576->jl l->e.ok->kr l p e->Sim.Spec prog 240 [tvL 3 (l.map LZ.tr),tvI p] (rL 3 (e.fold.toks.map LZ.tr))
 | 0,e,hn,_,_,_,_,_,_=>by have:=e.toks_pos;omega
 | n+1,.node t es,hn,l,p,hl,PD,ho,hs=>by
  refine bv hΓ aG func240 rfl d_ rfl ?_;have Mw:(l.map LZ.tr).length=l.length:=s_;have MZ:=nQ hs;obtain⟨ht,Ui⟩:=oR hs;have hO:=tC l p t es hl PD ho hs;have Pb:((pN (p+1) es).map nR).length=es.length:=by rw[e7,Br]
  rw[Ex.toks,d5]at hn MZ;rw[Ex.fold];have hfe:=rV es;obtain⟨e1,e2⟩:=xY ho.1;have M6:es.length=ar t:=ho.2.1;repeat' ((conv=>whnf);first|apply Wx|apply W6|apply oi|apply fi|intro h|refine cl hO ?_|refine⟨p,t.tr,rfl,ab ht,?_⟩|exact Y7|refine e_ rfl ?_)
  conv=>whnf
  refine⟨{j:Nat//j<=es.length},fun q=>⟨[(0,.r (.c (.t (.lst 3 (l.map LZ.tr))))),(1,tI .i64 (p:Int)),(5,.r (.c (.own (5,0,0)))),(6,.r (.c (.own (6,0,0)))),(7,tI .i64 (q.1:Int))],[((5,0,0),some (.arr false 3 ((t::aq (bW (es.take q.1))).map LZ.tr))),((6,0,0),some (.arr true 1 ((pN (p+1) es).map nR)))],[5,6]⟩,fun q=>es.length-q.1,⟨0,o_⟩,?_,?_⟩
  ·repeat' ((conv=>whnf);first|apply Wx|apply W6|apply oi|apply fi|intro h|exact Y7|refine e_ rfl ?_)
   all_goals try exact⟨by simp[bW,aq];rfl⟩
  intro⟨j,hj⟩;dsimp only at hj⊢;by_cases Mz:j<es.length
  ·obtain⟨a,ha⟩:=ae Mz;obtain⟨q,hq,YK⟩:=EE Ui ha;have M5:=oY ha;have hR:=mS n a o_ l q hl PD (rX ho.2.2 ha) YK;have NP:j<((pN (p+1) es).map nR).length:=(by rw[Pb];exact Mz);have UF:=a.fold_le;have TY:=gu (bW es) j;rw[sZ]at TY;have TC:((t::aq (bW (es.take j))).map LZ.tr).length=1+(aq (bW (es.take j))).length:=(by simp;omega);have Qp:(a.fold.toks.map LZ.tr).length=a.fold.toks.length:=s_;repeat' ((conv=>whnf);first|apply Wx|apply W6|apply oi|apply fi|intro h|refine cl hR ?_|refine⟨j,rfl,NP,?_⟩|refine⟨(nR q),(ab hq),?_⟩|exact Y5|refine e_ rfl ?_)
   all_goals try exact⟨⟨by rw[TC,Qp];(try dsimp only);omega,by rw[TC,Qp];(try dsimp only);omega⟩⟩
   conv=>whnf
   refine⟨⟨j+1,o_⟩,?_,KD⟩;repeat' ((conv=>whnf);first|apply Wx|apply W6|apply oi|apply fi|intro h|exact Y6|refine e_ rfl ?_)
   all_goals exact⟨by rw[vl ha,ij,vW];simp⟩
  ·have SX:j=es.length:=o_;subst SX;rw[G1];have hB:=aP t.J1 2 6;have YU:=oG es;have Wv:((t::aq (bW es)).map LZ.tr).length=1+(aq (bW es)).length:=by simp;omega
   generalize bW es=F at *
   cases hk:af t.J1 2 6 with
   | false=>
    rw[hk]at hB;rw[wA (.inr hk),Ex.toks];repeat' ((conv=>whnf);first|apply Wx|apply W6|apply oi|apply fi|intro h|refine⟨p,t.tr,rfl,ab ht,?_⟩|refine cl hB ?_|exact Y5|refine e_ rfl ?_)
    all_goals exact⟨⟨rfl,aT _⟩⟩
   | true=>
    rw[hk]at hB;by_cases h2:(aq F).length=2
    ·obtain⟨f1,f2,rfl⟩:=KY (YU.trans (M6.trans (Kw ho.1 hk)));rw[aq,vW,c8]at h2;have p1:=f1.toks_pos;have p2:=f2.toks_pos;obtain⟨a,rfl⟩:=EC (f:=f1) o_;obtain⟨b,rfl⟩:=EC (f:=f2) o_;have e3:t::aq [Ex.node a [],Ex.node b []]=[t,a,b]:=(by simp[aq,Ex.toks]);have e4:(Ex.node t [Ex.node a [],Ex.node b []]).toks=[t,a,b]:=(by rw[Ex.toks];exact e3);rw[e3];have XM:1<([t,a,b].map LZ.tr).length:=s_;have XX:2<([t,a,b].map LZ.tr).length:=s_;have Yg:=pX t.J1 a.Mc b.Mc;have Tx:=aP (dX t.J1 a.Mc b.Mc) 0 999;rw[Hw];by_cases hc:Ik t a b
     ·rw[c7 hc];obtain⟨_,c1,c2,c3⟩:=hc;rw[c3]at Tx;have e5:(CF (dX t.J1 a.Mc b.Mc)).toks=[⟨0,dX t.J1 a.Mc b.Mc,[]⟩]:=(by simp[CF,Ex.toks,aq]);rw[e5]
      generalize dX t.J1 a.Mc b.Mc=ap at *
      repeat' ((conv=>whnf);first|apply Wx|apply W6|apply oi|apply fi|intro h|refine⟨p,t.tr,rfl,ab ht,?_⟩|refine cl hB ?_|refine⟨1,rfl,XM,?_⟩|refine⟨2,rfl,XX,?_⟩|refine⟨a.tr,rfl,?_⟩|refine⟨b.tr,rfl,?_⟩|refine cl Yg ?_|refine cl Tx ?_|exact Y5|refine e_ rfl ?_)
      all_goals try exact Q5
     ·rw[b8 hc,e4];have Oq:∀w,af (dX t.J1 a.Mc b.Mc) 0 999=w->a.J1=0->b.J1=0->w=true->False:=fun w h1 h2 h3 h4=>hc ⟨hk,h2,h3,h1.trans h4⟩
      cases hw:af (dX t.J1 a.Mc b.Mc) 0 999 with
      | true=>
       rw[hw]at Tx;have hc3:=Oq true hw
       exact V24
      | false=>rw[hw]at Tx;exact V24
    ·rw[wA (.inl h2),Ex.toks];repeat' ((conv=>whnf);first|apply Wx|apply W6|apply oi|apply fi|intro h|refine⟨p,t.tr,rfl,ab ht,?_⟩|refine cl hB ?_|exact Y5|refine e_ rfl ?_)
     all_goals try exact⟨⟨rfl,aT _⟩⟩
     all_goals try(exfalso;rw[Wv]at *;simp at *;omega)
end Go.Proofs.P
namespace Go.Proofs.P
open Go.Sim Tryz
structure Grow (n:Nat) (s s':Gs):Prop where
 ge:s.I7.length<=s'.I7.length
 le:s'.I7.length<=s.I7.length+n
 J3:s.J3<=s'.J3
 cap:s.J3<=1000->s'.J3<=1000
theorem Grow.refl (s:Gs):Grow 0 s s:=⟨d8 _,d8 _,v2 _,id⟩
theorem Grow.trans {n m:Nat}{a b c:Gs}(h:Grow n a b)(h':Grow m b c):Grow (n+m) a c:=⟨v5 h.ge h'.ge,by have:=h.le;have:=h'.le;omega,D4 h.J3 h'.J3,fun x=>h'.cap (h.cap x)⟩
theorem Grow.mono {n m:Nat}{a b:Gs}(h:Grow n a b)(hn:n<=m):Grow m a b:=⟨h.ge,by have:=h.le;omega,h.J3,h.cap⟩
theorem bk (C:Cx)(s:Gs)(d code arg line:Int)(chain:List Int):Grow 1 s (aC C s d code arg line chain):=⟨by simp[aC],by simp[aC],v2 _,id⟩
theorem bO (l:List LO)(j v:Int):(bU l j v).length=l.length:=by
 unfold bU;split
 ·split
  ·rw[q7]
  ·rfl
 ·rfl
theorem gT (v:Int):∀(js:List Int) (l:List LO),(patchL l v js).length=l.length
 | [],_=>rfl
 | j::js,l=>by rw[patchL,gT v js,bO]
def dh:Nat->Nat
 | 0=>1
 | n+1=>30+9*(20*dh n+3)
theorem Bo:∀n,1<=dh n
 | 0=>d8 _
 | n+1=>by rw[dh];omega
theorem IL:∀{n m:Nat},n<=m->dh n<=dh m:=by
 intro n m h
 induction h with
 | refl=>exact d8 _
 | step _ ih=>rw[dh];omega
theorem Cr {n:Nat}(h:n<=3):dh n<=8679837:=v5 (IL h) (by simp[dh])
def bT (C:Cx)(g:Nat):Prop:=∃ln,C.p[g]?=some ln/\ln.J1=0
section
variable {C:Cx} {x:Sc} {ins:List Nat} {rep:Sc->List Nat->Nat->Nat->Int->Gs->Gs} {line:Nat} {lev:Nat}
theorem pF (y:Sc)(chain:List Int)(line:Int):∀(n:Nat) (d:Int) (s:Gs),Grow n s (cE C y chain line n d s)
 | 0,d,s=>Grow.refl s
 | n+1,d,s=>by
  rw[cE];exact((bk C s d _ _ _ _).trans (pF y chain line n (d-1) _)).mono o_
theorem sC (y:Sc)(chain:List Int)(line d:Int):∀(n i:Nat) (s:Gs),Grow (2*n) s (dD C y chain line d n i s)
 | 0,i,s=>Grow.refl s
 | n+1,i,s=>by
  rw[dD];exact(((bk C s d _ _ _ _).trans (bk C _ (d+1) _ _ _ _)).trans (sC y chain line d n (i+1) _)).mono o_
theorem FU (MA:∀g d s,bT C g->cL C ins g s.I7.length=true->Grow (dh lev) s (rep x ins line g d s))(t:LZ)(d:Int)(s:Gs):Grow (dh lev) s (lZ C rep x ins line t d s):=by
 have hp:=Bo lev;unfold lZ;split
 ·exact(bk ..).mono hp
 ·split
  ·exact(bk ..).mono hp
  ·split
   ·split
    ·rename_i g hg;split
     ·rename_i hr;obtain⟨_,ln,h1,h2,_⟩:=gK hg;exact MA g d s ⟨ln,h1,h2⟩ hr
     ·exact(bk ..).mono hp
    ·exact(Grow.refl s).mono o_
   ·exact(bk ..).mono hp
mutual
theorem ya (MA:∀g d s,bT C g->cL C ins g s.I7.length=true->Grow (dh lev) s (rep x ins line g d s)):∀(e:Ex) (d:Int) (s:Gs),Grow (e.toks.length*dh lev) s (ew C rep x ins line e d s)
 | .node t es,d,s=>by
  rw[ew,Ex.toks,d5];exact((oP MA es d s).trans (FU MA t _ _)).mono (by rw[p8];omega)
theorem oP (MA:∀g d s,bT C g->cL C ins g s.I7.length=true->Grow (dh lev) s (rep x ins line g d s)):∀(es:List Ex) (d:Int) (s:Gs),Grow ((aq es).length*dh lev) s (cW C rep x ins line es d s)
 | [],d,s=>by rw[cW,aq];exact(Grow.refl s).mono o_
 | a::es,d,s=>by
  rw[cW,aq,c8,p8];exact(ya MA a d s).trans (oP MA es (d+1) _)
end
theorem uz (C:Cx)(rep:Sc->List Nat->Nat->Nat->Int->Gs->Gs)(x:Sc)(ins:List Nat)(line:Nat):∀{es:List Ex} {j:Nat} {a:Ex} (d:Int) (s:Gs),es[j]?=some a->cW C rep x ins line (es.take (j+1)) d s=ew C rep x ins line a (d+j) (cW C rep x ins line (es.take j) d s)
 | [],_,_,_,_,h=>by simp at h
 | b::es,0,a,d,s,h=>by
  rw[e8]at h;injection h with h;subst h
  simp[cW]
 | b::es,j+1,a,d,s,h=>by
  rw[j8]at h;rw[q8,cW,uz C rep x ins line (d+1) _ h,q8,cW];congr 1;omega
theorem lX:∀{es:List Ex} {j:Nat} {a:Ex},es[j]?=some a->(aq (es.take (j+1))).length=(aq (es.take j)).length+a.toks.length
 | [],_,_,h=>by simp at h
 | b::es,0,a,h=>by
  rw[e8]at h;injection h with h;subst h
  simp[aq]
 | b::es,j+1,a,h=>by
  rw[j8]at h;rw[q8,aq,c8,lX h,q8,aq,c8];omega
theorem kc (hC:CxOk C)(hx:ScOk C x ins)(line:Nat){g:Nat}(hg:bT C g):ScOk C (cj C x line g) (ins++[g]):=by
 obtain⟨e,_,_,_,_,h8⟩:=hx.endE hC;have MZ:=hx.argLe hC;refine⟨hg,rfl,?_,?_,?_,?_,by simp[cj]⟩
 ·simp only[cj,ck,c8,d5,i8];have:=hx.first;split
  ·rename_i ho;rw[hx.args ho];omega
  ·omega
 ·simp only[cj,c8,d5,i8];have:=hx.J0;omega
 ·simp[cj]
 ·simp[cj]
theorem wu (hC:CxOk C)(hx:ScOk C x ins):0<=ck C x/\ck C x<=8*ins.length+8:=by
 obtain⟨e,_,_,_,_,h8⟩:=hx.endE hC;have MZ:=hx.argLe hC;have:=hx.first;unfold ck;split
 ·rename_i ho;rw[hx.args ho];omega
 ·omega
theorem dv (hC:CxOk C){g:Nat}(hg:bT C g):(localsOf C.p (g:Int)).length<=8/\argsN C.p g<=(localsOf C.p (g:Int)).length:=by obtain⟨ln,h1,h2⟩:=hg;obtain⟨e,h3,h4,h5,_⟩:=hC.fn _ _ h1 h2;rw[argsN,h1];exact⟨h4,h5⟩
theorem xE (hC:CxOk C)(hx:ScOk C x ins)(hi:ins.length<=10)(line:Nat){g:Nat}(hg:bT C g)(d:Int)(s:Gs):Grow 16 s (fU C x line g d s):=by obtain⟨h1,h2⟩:=dv hC hg;have ht:=wu hC hx;have h0:Grow 0 s ⟨s.I7,max s.J3 (ck C x+(localsOf C.p (g:Int)).length),s.start⟩:=⟨d8 _,d8 _,g_,fun h=>g_⟩;unfold fU;exact((h0.trans (pF _ _ _ _ _ _)).trans (sC _ _ _ _ _ _ _)).mono o_
theorem tc (x:Sc)(line:Nat)(d:Int)(s:Gs):Grow 1 s (cZ C x line d s):=by
 unfold cZ;split
 ·exact bk ..
 ·exact(Grow.refl s).mono o_
theorem mY (x:Sc)(k:Nat)(last:Bool)(d:Int)(L:Ls):Grow 1 L.g (be C x k last d L).g:=by
 unfold be;split
 ·split
  ·exact bk ..
  ·exact bk ..
 ·split
  ·exact(Grow.refl _).mono o_
  ·exact bk ..
theorem Grow.set {n:Nat}{a b:Gs}{l:List LO}(h:Grow n a b)(hl:l.length=b.I7.length):Grow n a ⟨l,b.J3,b.start⟩:=⟨by have:=h.ge;simp only[hl];omega,by have:=h.le;simp only[hl];omega,h.J3,h.cap⟩
theorem oD (MA:∀g d s,bT C g->cL C ins g s.I7.length=true->Grow (dh lev) s (rep x ins line g d s))(hC:CxOk C){k:Nat}{ln:LP}(hk:C.p[k]?=some ln)(he:br ln.K9=true)(d:Int)(s:Gs):Grow (20*dh lev) s (ew C rep x ins line (exL ln.K9) d s):=by have h1:=(rk he).2;have h2:=(hC.line _ _ hk).2.2.2.1;rw[h1]at h2;exact(ya MA _ d s).mono (l9 _ h2)
theorem oK (MA:∀line g d s,bT C g->cL C ins g s.I7.length=true->Grow (dh lev) s (rep x ins line g d s))(hC:CxOk C){k:Nat}{ln:LP}(hk:C.p[k]?=some ln)(h0:ln.J1≠0)(base:Int)(L:Ls):Grow (20*dh lev+2) L.g (bH C rep x ins base k ln L).g:=by
 unfold bH;split
 ·exact((bk ..).set (bO _ _ _)).mono o_
 ·split
  ·split
   ·refine Grow.mono (n:=1+1) ?_ o_;exact(bk ..).trans (mY x k true (base+1) {L with g:=aC C L.g base 0 0 k x.J0})
   ·split
    ·exact(bk ..).mono o_
    ·exact(Grow.refl _).mono o_
  ·rename_i h4 h7;have hl:=hC.line _ _ hk
   have N3:Grow (20*dh lev) L.g (ew C rep x ins k (exL ln.K9) base ⟨L.g.I7,L.g.J3,true⟩):=by have:=oD (fun g d s=>MA k g d s) hC hk (hl.2.2.2.2 o_) base ⟨L.g.I7,L.g.J3,true⟩;exact⟨this.ge,this.le,this.J3,this.cap⟩
   split
   ·exact(N3.trans (bk ..)).mono o_
   ·split
    ·exact(N3.trans (bk ..)).mono o_
    ·split
     ·refine Grow.mono (n:=20*dh lev+1) ?_ o_;exact N3.trans (mY x k false (base+1) {L with g:=ew C rep x ins k (exL ln.K9) base ⟨L.g.I7,L.g.J3,true⟩,J4:=L.J4.set k L.g.I7.length})
     ·exact(N3.trans (bk ..)).mono o_
theorem uX (k:Nat)(ln:LP)(L:Ls):Grow 0 L.g (bB C x k ln L).g:=by
 unfold bB;split
 ·exact(Grow.refl _).set (bO _ _ _)
 ·exact Grow.refl _
theorem xL (MA:∀line g d s,bT C g->cL C ins g s.I7.length=true->Grow (dh lev) s (rep x ins line g d s))(hC:CxOk C)(base:Int):∀(n k:Nat) (L:Ls),(∀i y,k<=i->i<k+n->C.p[i]?=some y->y.J1≠0)->Grow (n*(20*dh lev+3)) L.g (dI C rep x ins base n k L).g
 | 0,k,L,_=>(Grow.refl _).mono o_
 | n+1,k,L,h=>by
  rw[dI];split
  ·rename_i ln hk;exact(((oK MA hC hk (h k ln (d8 _) o_ hk) base L).trans (uX k ln _)).trans (xL MA hC base n (k+1) _ fun i y h1 h2 hy=>h i y o_ o_ hy)).mono (by rw[p8];omega)
  ·exact(Grow.refl _).mono o_
theorem V84{p:Prop}(h:p:=by
 by_cases Oc:i=e
 ·subst Oc;obtain⟨z,hz,h7⟩:=bK h3;rw[hy]at hz;injection hz with hz;subst hz;omega
 ·exact(h4 i y o_ o_ hy).1):p:=h
theorem mv (MA:∀line g d s,bT C g->cL C ins g s.I7.length=true->Grow (dh lev) s (rep x ins line g d s))(hC:CxOk C)(hx:ScOk C x ins)(base:Int)(s:Gs):Grow ((kE C.p x.f-x.f)*(20*dh lev+3)) s (bq C rep x ins base s).1:=by unfold bq;obtain⟨ln,h1,h2⟩:=hx.fn;obtain⟨e,h3,_,_,h4⟩:=hC.fn _ _ h1 h2;obtain⟨e',g3,_,_,g5,_⟩:=hx.endE hC;rw[h3]at g3;injection g3 with g3;subst g3;rw[g5];refine xL MA hC base (e-x.f) (x.f+1) (cv C s) fun i y k1 k2 hy=>?_;exact V84
end
theorem fN {C:Cx}{ins:List Nat}{g n:Nat}(h:cL C ins g n=true):(ins.length:Int)<=C.b.Md/\ct C.p (g:Int)-g<=9/\n<200/\g∉ins:=by unfold cL at h;simp only[b9,j5,u9,List.contains_eq_mem,p9]at h;exact⟨h.1,h.2.1,h.2.2.1,h.2.2.2⟩
theorem ia {C:Cx}(hC:CxOk C):∀(lev:Nat) {x:Sc} {ins:List Nat} (line g:Nat) (d:Int) (s:Gs),ScOk C x ins->bT C g->cL C ins g s.I7.length=true->Grow (dh lev) s (cK C lev x ins line g d s)
 | 0,x,ins,line,g,d,s,hx,hg,hr=>(Grow.refl s).mono o_
 | lev+1,x,ins,line,g,d,s,hx,hg,hr=>by
  obtain⟨r1,r2,_,_⟩:=fN hr;have hin:=hC.inl;have hy:=kc hC hx line hg;have h1:=xE hC hx o_ line hg d s;have h2:=tc (C:=C) x line (d-argsN C.p g) (fU C x line g d s);have h3:=mv (lev:=lev) (rep:=cK C lev) (fun line g d s hg hr=>ia hC lev line g d s hy hg hr) hC hy (d-argsN C.p g) (cZ C x line (d-argsN C.p g) (fU C x line g d s));obtain⟨e,e1,e2,e3,e4,_⟩:=hy.endE hC;have e5:ct C.p (g:Int)=(e:Int):=by rw[cw];exact bQ e1
  have e6:kE C.p (cj C x line g).f-(cj C x line g).f<=9:=by rw[e4];show e-g<=9;omega
  have h4:=((h1.trans h2).trans h3).mono (m:=dh (lev+1)) (by
   rw[dh];have:=l9 (20*dh lev+3) e6
   omega)
  show Grow _ s (lV C (bq C (cK C lev)) x ins line g d s);unfold lV;exact h4.set (gT _ _ _)
def lvOk (L:Ls):Prop:=L.lv.length<=L.g.I7.length/\∀j∈L.lv,0<=j/\j<L.g.I7.length
section
variable {C:Cx} {x:Sc} {ins:List Nat} {rep:Sc->List Nat->Nat->Nat->Int->Gs->Gs} {lev:Nat}
theorem lvOk.grow {n:Nat}{L L':Ls}(h:lvOk L)(hl:L'.lv=L.lv)(hg:Grow n L.g L'.g):lvOk L':=⟨by rw[hl];exact v5 h.1 hg.ge,fun j hj=>by
 rw[hl]at hj;have:=h.2 j hj;have:=hg.ge
 omega⟩
theorem xT {L:Ls}(h:lvOk L)(k:Nat)(last:Bool)(d:Int):lvOk (be C x k last d L):=by
 have hg:=mY (C:=C) x k last d L;unfold be at hg⊢;split
 ·rename_i ho;rw[c7 ho]at hg;split
  ·rename_i hf;rw[c7 hf]at hg;exact h.grow rfl hg
  ·rename_i hf;rw[b8 hf]at hg;exact h.grow rfl hg
 ·split
  ·exact h
  ·refine⟨by have:=h.1;simp only[aC,c8,d5,i8];omega,?_⟩;intro j hj;simp only[d9,d6,l4,or_false]at hj;simp only[aC,c8,d5,i8];rcases hj with hj|rfl
   ·have:=h.2 j hj;omega
   ·omega
theorem Bw (MA:∀line g d s,bT C g->cL C ins g s.I7.length=true->Grow (dh lev) s (rep x ins line g d s))(hC:CxOk C){k:Nat}{ln:LP}(hk:C.p[k]?=some ln)(h0:ln.J1≠0)(base:Int){L:Ls}(h:lvOk L):lvOk (bH C rep x ins base k ln L):=by
 have hg:=oK (x:=x) (ins:=ins) (rep:=rep) (lev:=lev) MA hC hk h0 base L;unfold bH at hg⊢;split
 ·rename_i h4;rw[c7 h4]at hg;exact h.grow rfl hg
 ·rename_i h4;rw[b8 h4]at hg;split
  ·rename_i h7;rw[c7 h7]at hg;split
   ·exact xT (h.grow (L':={L with g:=aC C L.g base 0 0 k x.J0}) rfl (bk ..)) _ _ _
   ·rename_i ho;rw[b8 ho]at hg;split
    ·rename_i h5;rw[c7 h5]at hg;exact h.grow rfl hg
    ·exact h
  ·rename_i h7;have hl:=hC.line _ _ hk;have N3:=oD (x:=x) (ins:=ins) (rep:=rep) (line:=k) (lev:=lev) (fun g d s=>MA k g d s) hC hk (hl.2.2.2.2 o_) base ⟨L.g.I7,L.g.J3,true⟩;have QC:lvOk {L with g:=ew C rep x ins k (exL ln.K9) base ⟨L.g.I7,L.g.J3,true⟩,J4:=L.J4.set k L.g.I7.length}:=h.grow rfl ⟨N3.ge,N3.le,N3.J3,N3.cap⟩;split
   ·exact QC.grow rfl (bk ..)
   ·split
    ·exact QC.grow rfl (bk ..)
    ·split
     ·exact xT QC _ _ _
     ·exact QC.grow rfl (bk ..)
theorem AH (k:Nat)(ln:LP){L:Ls}(h:lvOk L):lvOk (bB C x k ln L):=by
 have hg:=uX (C:=C) (x:=x) k ln L;unfold bB at hg⊢;split
 ·rename_i h1;rw[c7 h1]at hg;exact h.grow rfl hg
 ·exact h
theorem Ev (MA:∀line g d s,bT C g->cL C ins g s.I7.length=true->Grow (dh lev) s (rep x ins line g d s))(hC:CxOk C)(base:Int):∀(n k:Nat) (L:Ls),(∀i y,k<=i->i<k+n->C.p[i]?=some y->y.J1≠0)->lvOk L->lvOk (dI C rep x ins base n k L)
 | 0,k,L,_,h=>h
 | n+1,k,L,hf,h=>by
  rw[dI];split
  ·rename_i ln hk;exact Ev MA hC base n (k+1) _ (fun i y h1 h2 hy=>hf i y o_ o_ hy) (AH k ln (Bw MA hC hk (hf k ln (d8 _) o_ hk) base h))
  ·exact h
theorem jS (hC:CxOk C)(hx:ScOk C x ins){e:Nat}(he:endAt C.p x.f=some e){i:Nat}{y:LP}(h1:x.f+1<=i)(h2:i<=e)(hy:C.p[i]?=some y):y.J1≠0:=by
 obtain⟨ln,g1,g2⟩:=hx.fn;obtain⟨e',h3,_,_,h4⟩:=hC.fn _ _ g1 g2;rw[he]at h3;injection h3 with h3;subst h3;by_cases Oc:i=e
 ·subst Oc;obtain⟨z,hz,h7⟩:=bK he;rw[hy]at hz;injection hz with hz;subst hz;omega
 ·exact(h4 i y o_ o_ hy).1
theorem EY (MA:∀line g d s,bT C g->cL C ins g s.I7.length=true->Grow (dh lev) s (rep x ins line g d s))(hC:CxOk C)(hx:ScOk C x ins)(base:Int)(s:Gs):(bq C rep x ins base s).2.length<=(bq C rep x ins base s).1.I7.length/\∀j∈(bq C rep x ins base s).2,0<=j/\j<((bq C rep x ins base s).1.I7.length:Int):=by unfold bq;obtain⟨e,g3,g4,_,g5,_⟩:=hx.endE hC;rw[g5];exact Ev MA hC base (e-x.f) (x.f+1) (cv C s) (fun i y k1 k2 hy=>jS hC hx g3 k1 o_ hy) ⟨by simp[cv],by intro j hj;simp[cv]at hj⟩
end
theorem sy (v j:Int):∀(js:List Int) (l:List LO),patchL l v (js++[j])=bU (patchL l v js) j v
 | [],l=>by rw[t6,patchL,patchL,patchL]
 | a::js,l=>by rw[u3,patchL,sy v j js,patchL]
end Go.Proofs.P
namespace Go.Proofs.P
open Go.Sim Tryz
def dc (l:List LO)(v to:Int):List (Int×Int)->List LO
 | []=>l
 | e::r=>dc (if e.1=to then bU l e.2 v else l) v to r
theorem vD (v to:Int):∀(E:List (Int×Int)) (l:List LO),(dc l v to E).length=l.length
 | [],l=>rfl
 | e::r,l=>by
  rw[dc,vD v to r];split
  ·rw[bO]
  ·rfl
theorem ky (v to:Int):∀(A B:List (Int×Int)) (l:List LO),dc l v to (A++B)=dc (dc l v to A) v to B
 | [],B,l=>rfl
 | a::A,B,l=>by rw[u3,dc,ky v to A B,dc]
theorem BV (v to:Int)(e:Int×Int)(E:List (Int×Int))(l:List LO):dc l v to (E++[e])=if e.1=to then bU (dc l v to E) e.2 v else dc l v to E:=by rw[ky];rfl
def jumps (p:List LP)(i:Nat):Prop:=kindAt p i=3\/kindAt p i=4\/kindAt p i=5
instance (p:List LP) (i:Nat):Decidable (jumps p i):=by unfold jumps;infer_instance
def fm (p:List LP)(i:Nat):Int:=if kindAt p i=4 then ct p (ownOf p i:Int)+1 else if kindAt p i=3/\0<=cB p (i:Int)then-cB p (i:Int)else ct p (i:Int)+1
def entry (p:List LP)(pos:List Int)(i:Nat):List (Int×Int):=if jumps p i then [(fm p i,atL pos i)]else []
def bm (p:List LP)(pos:List Int)(f:Nat):Nat->List (Int×Int)
 | 0=>[]
 | n+1=>bm p pos f n++entry p pos (f+n)
theorem pu (p:List LP)(pos:List Int)(f:Nat):∀n,(bm p pos f n).length<=n
 | 0=>d8 _
 | n+1=>by
  have:=pu p pos f n;rw[bm,c8,entry];split<;>simp<;>omega
theorem gr {l:List Int}{k i:Nat}{v:Int}(h:i≠k):atL (l.set k v) i=atL l i:=by unfold atL;rw[C6 (fun e=>h e.symm)]
theorem fA {l:List Int}{k:Nat}{v:Int}(h:k<l.length):atL (l.set k v) k=v:=by unfold atL;rw[x6 h];rfl
theorem uI (p:List LP)(pos:List Int)(f k:Nat)(v:Int):∀n,f+n<=k->bm p (pos.set k v) f n=bm p pos f n
 | 0,_=>rfl
 | n+1,h=>by
  rw[bm,bm,uI p pos f k v n o_,entry,entry,gr o_]
theorem ly {p:List LP}{pos:List Int}{f k:Nat}(h:f+1<=k)(hj:¬jumps p k):bm p pos (f+1) (k+1-(f+1))=bm p pos (f+1) (k-(f+1)):=by rw[show k+1-(f+1)=(k-(f+1))+1 by omega,bm,show f+1+(k-(f+1))=k by omega,entry,b8 hj,m6]
theorem uN {p:List LP}{pos:List Int}{f k:Nat}(h:f+1<=k)(hj:jumps p k)(hk:k<pos.length)(v:Int):bm p pos (f+1) (k-(f+1))++[(fm p k,v)]=bm p (pos.set k v) (f+1) (k+1-(f+1)):=by rw[show k+1-(f+1)=(k-(f+1))+1 by omega,bm,uI _ _ _ _ _ _ o_,show f+1+(k-(f+1))=k by omega,entry,c7 hj,fA hk]
theorem lB {p:List LP}{pos:List Int}{f:Nat}:∀{n:Nat} {e:Int×Int},e∈bm p pos f n->∃i,f<=i/\i<f+n/\jumps p i/\e=(fm p i,atL pos i)
 | 0,e,h=>by simp[bm]at h
 | n+1,e,h=>by
  rw[bm,d9]at h;rcases h with h|h
  ·obtain⟨i,h1,h2,h3⟩:=lB h;exact⟨i,h1,o_,h3⟩
  ·rw[entry]at h;split at h
   ·rename_i hj;simp only[d6,l4,or_false]at h;exact⟨f+n,o_,o_,hj,h⟩
   ·cases h
theorem jO {v to:Int}:∀{E:List (Int×Int)} {l:List LO},(∀e∈E,e.1≠to)->dc l v to E=l
 | [],_,_=>rfl
 | e::r,l,h=>by rw[dc,b8 (h e s_),jO fun x hx=>h x aap]
theorem rr {p:List LP}{pos:List Int}{f i0:Nat}{v to:Int}(hj:jumps p i0)(ht:fm p i0=to):∀{n:Nat} {l:List LO},f<=i0->i0<f+n->(∀i,f<=i->i<f+n->jumps p i->fm p i=to->i=i0)->dc l v to (bm p pos f n)=bU l (atL pos i0) v
 | 0,l,h1,h2,_=>o_
 | n+1,l,h1,h2,hu=>by
  rw[bm,ky];by_cases h:i0=f+n
  ·subst h
   rw[jO (E:=bm p pos f n) (fun e he=>by
    obtain⟨i,k1,k2,k3,rfl⟩:=lB he;intro hh;have:=hu i k1 o_ k3 hh
    omega)]
   rw[entry,c7 hj];show(if(fm p (f+n),atL pos (f+n)).1=to then _ else _)=_;rw[c7 ht]
  ·rw[rr hj ht h1 o_ fun i k1 k2 k3 k4=>hu i k1 o_ k3 k4];refine jO fun e he=>?_;rw[entry]at he;split at he
   ·rename_i PT;simp only[d6,l4,or_false]at he;subst he;intro hh;exact h (hu (f+n) o_ o_ PT hh).symm
   ·cases he
theorem bc {p:List LP}{k:Nat}{ln:LP}(h:p[k]?=some ln):kindAt p k=ln.J1:=by rw[kindAt,h]
theorem oZ {p:List LP}{i:Nat}{m:Int}(h:ct p (i:Int)=m)(h0:0<=m):endAt p i=some m.toNat:=by
 rw[cw]at h
 cases he:endAt p i with|none=>rw[he]at h;simp only[cM]at h;omega|some e=>rw[he]at h;simp only[cM]at h;congr 1;omega
theorem jt (p:List LP)(i:Nat):-1<=ct p (i:Int)/\ct p (i:Int)<=p.length:=by
 rw[cw]
 cases he:endAt p i with|none=>simp only[cM];omega|some e=>obtain⟨_,_,_,_,_,h⟩:=aN he;simp only[cM];omega
theorem dt {p:List LP}{i:Nat}:cB p (i:Int)=cM (elseAt p i):=by rw[cB,c7 o_,d7]
theorem Cv {p:List LP}{i:Nat}(h:kindAt p i≠3):elseAt p i=none:=by
 cases he:elseAt p i with
 | none=>rfl
 | some j=>obtain⟨y,_,hy,h3,_⟩:=bu he;exact absurd (by rw[bc hy];exact h3) h
section
variable {C:Cx} {x:Sc} {ins:List Nat}
theorem qe (hC:CxOk C)(hx:ScOk C x ins){e:Nat}(he:endAt C.p x.f=some e){k i:Nat}(h1:x.f+1<=i)(h2:i<k)(h3:k<=e)(hj:jumps C.p i)(ht:fm C.p i=(k:Int)):kindAt C.p (k-1)=7/\ownOf C.p (k-1)≠x.f/\iN C.p (k-1)=i:=by
 have Ny:i<C.p.length:=by obtain⟨_,_,_,_,_,h⟩:=aN he;omega
 obtain⟨y,hy⟩:=ae Ny;have Sw:=bc hy;unfold fm at ht;by_cases h4:kindAt C.p i=4
 ·rw[c7 h4]at ht;obtain⟨o1,o2,o3,o4⟩:=hx.own4 hC he o_ o_ hy (by rw[<-Sw];exact h4);have NL:=oZ (show ct C.p (ownOf C.p i:Int)=((k-1:Nat):Int) by omega) o_;rw[d7]at NL;obtain⟨z,hz,h7⟩:=bK NL;rw[jY NL,bc hz];refine⟨h7,o_,?_⟩;rw[iN,jY NL,o1]
 ·rw[b8 h4]at ht;split at ht
  ·omega
  ·rename_i hn;have NL:=oZ (show ct C.p (i:Int)=((k-1:Nat):Int) by omega) o_;rw[d7]at NL;obtain⟨z,hz,h7⟩:=bK NL;rw[jY NL,bc hz];refine⟨h7,o_,?_⟩;rw[iN,jY NL]
   have:elseAt C.p i=none:=by
    by_cases PB:kindAt C.p i=3
    ·cases M6:elseAt C.p i with|none=>rfl|some j=>exact absurd ⟨PB,by rw[dt,M6];simp[cM]⟩ hn
    ·exact Cv PB
   rw[this]
theorem zy (hC:CxOk C)(hx:ScOk C x ins){e:Nat}(he:endAt C.p x.f=some e){j:Nat}{ln:LP}(h1:x.f<j)(h2:j<e)(hl:C.p[j]?=some ln)(h7:ln.J1=7):x.f+1<=iN C.p j/\iN C.p j<j/\jumps C.p (iN C.p j)/\fm C.p (iN C.p j)=((j+1:Nat):Int)/\ownOf C.p j≠x.f:=by
 obtain⟨o1,o2⟩:=hx.own7 hC he h1 o_ hl h7;rcases o2 with⟨o2,_⟩|⟨_,o3,o4,y,hy,ho⟩
 ·omega
 have Sw:=bc hy;have PJ:ct C.p (ownOf C.p j:Int)=(j:Int):=by rw[cw];exact bQ o1
 unfold iN
 cases M6:elseAt C.p (ownOf C.p j)with
 | none=>
  dsimp only;refine⟨o_,o4,by unfold jumps;omega,?_,o_⟩;unfold fm;rw[b8 o_,b8 (by rw[dt,M6];simp[cM]),PJ]
  omega
 | some m=>obtain⟨z,m1,hz,z3,RW,k1,k2,w,hw,w4⟩:=bu M6;rw[o1]at RW;injection RW with RW;have hkw:=bc hw;refine⟨g_,g_,by unfold jumps;dsimp only;omega,?_,o_⟩;unfold fm;dsimp only;rw[c7 o_,uy M6,PJ];omega
structure LInv (C:Cx) (lev:Nat) (x:Sc) (ins:List Nat) (d:Int) (e:Nat) (R:Ls) (k:Nat) (L:Ls):Prop where
 lo:x.f+1<=k
 hi:k<=e+1
 J4:L.J4.length=C.p.length
 pos:L.pos.length=C.p.length
 at_:∀i,x.f<i->i<k->jumps C.p i->0<=atL L.pos i/\atL L.pos i<L.g.I7.length
 lv:lvOk L
 room:L.g.I7.length+(e+1-k)*(20*dh lev+3)<=68719476736
 fin:dI C (cK C lev) x ins d (e+1-k) k L=R
theorem DD (rep:Sc->List Nat->Nat->Nat->Int->Gs->Gs)(base:Int)(k:Nat)(ln:LP)(L:Ls):(bH C rep x ins base k ln L).J4.length=L.J4.length/\(bH C rep x ins base k ln L).pos.length=L.pos.length:=by
 unfold bH be;repeat' split
 all_goals simp
theorem vb (k:Nat)(ln:LP)(L:Ls):(bB C x k ln L).J4=L.J4/\(bB C x k ln L).pos=L.pos/\(bB C x k ln L).lv=L.lv/\(bB C x k ln L).g.I7.length=L.g.I7.length/\(bB C x k ln L).g.J3=L.g.J3/\(bB C x k ln L).g.start=L.g.start:=by
 unfold bB;split
 ·exact⟨rfl,rfl,rfl,bO _ _ _,rfl,rfl⟩
 ·exact⟨rfl,rfl,rfl,rfl,rfl,rfl⟩
theorem GD (rep:Sc->List Nat->Nat->Nat->Int->Gs->Gs)(base:Int)(k:Nat)(ln:LP)(L:Ls)(hp:k<L.pos.length)(i:Nat):
  (i≠k->atL (bH C rep x ins base k ln L).pos i=atL L.pos i)/\((ln.J1=3\/ln.J1=4\/ln.J1=5)->0<=atL (bH C rep x ins base k ln L).pos k/\atL (bH C rep x ins base k ln L).pos k<(bH C rep x ins base k ln L).g.I7.length):=by
 unfold bH;by_cases h4:ln.J1=4
 ·rw[c7 h4];refine⟨fun hi=>gr hi,fun _=>?_⟩;simp only[fA hp,bO,aC,c8,d5,i8];omega
 ·rw[b8 h4];by_cases h7:ln.J1=7
  ·rw[c7 h7];refine⟨fun _=>?_,fun h=>o_⟩;unfold be;repeat' split
   all_goals rfl
  ·rw[b8 h7];by_cases h1:ln.J1=1
   ·rw[c7 h1];exact⟨fun _=>rfl,fun h=>o_⟩
   ·rw[b8 h1];by_cases h2:ln.J1=2
    ·rw[c7 h2];exact⟨fun _=>rfl,fun h=>o_⟩
    ·rw[b8 h2];by_cases h6:ln.J1=6
     ·rw[c7 h6];refine⟨fun _=>?_,fun h=>o_⟩;unfold be;repeat' split
      all_goals rfl
     ·rw[b8 h6];refine⟨fun hi=>gr hi,fun _=>?_⟩;simp only[fA hp,aC,c8,d5,i8];omega
theorem LInv.next (hC:CxOk C)(hx:ScOk C x ins){lev e k:Nat}{d:Int}{R L:Ls}{ln:LP}(he:endAt C.p x.f=some e)(h:LInv C lev x ins d e R k L)(hk:k<=e)(hl:C.p[k]?=some ln):LInv C lev x ins d e R (k+1) (bB C x k ln (bH C (cK C lev) x ins d k ln L)):=by
 have h0:=jS hC hx he h.lo hk hl;have MA:∀line g d s,bT C g->cL C ins g s.I7.length=true->Grow (dh lev) s (cK C lev x ins line g d s):=fun line g d s hg hr=>ia hC lev line g d s hx hg hr;have hA:=oK (lev:=lev) (rep:=cK C lev) MA hC hl h0 d L;obtain⟨b1,b2,b3,b4,b5,b6⟩:=vb (C:=C) (x:=x) k ln (bH C (cK C lev) x ins d k ln L);obtain⟨a1,a2⟩:=DD (C:=C) (x:=x) (ins:=ins) (cK C lev) d k ln L;have MT:=hA.ge;have MZ:=hA.le;have hr:=h.room;refine⟨by have:=h.lo;omega,o_,by rw[b1,a1];exact h.J4,by rw[b2,a2];exact h.pos,fun i h1 h2 hj=>?_,AH k ln (Bw (lev:=lev) MA hC hl h0 d h.lv),?_,?_⟩
 ·rw[b2,b4];obtain⟨p1,p2⟩:=GD (C:=C) (x:=x) (ins:=ins) (cK C lev) d k ln L (by rw[h.pos];exact aH hl) i;by_cases Oz:i=k
  ·subst Oz;refine p2 ?_;unfold jumps at hj;rw[bc hl]at hj;exact hj
  ·rw[p1 Oz];have:=h.at_ i h1 o_ hj;omega
 ·rw[b4];obtain⟨n,hn⟩:∃n,e+1-k=n+1:=⟨e-k,o_⟩;rw[hn,p8]at hr;rw[show e+1-(k+1)=n by omega];omega
 ·have hf:=h.fin;obtain⟨n,hn⟩:∃n,e+1-k=n+1:=⟨e-k,o_⟩;rw[hn,dI,hl]at hf;rw[show e+1-(k+1)=n by omega];exact hf
theorem CU (hC:CxOk C)(hx:ScOk C x ins){e k:Nat}{ln:LP}(he:endAt C.p x.f=some e)(h1:x.f+1<=k)(hk:k<=e)(hl:C.p[k]?=some ln)(A:Ls):
  (k+1<=e->dc A.g.I7 A.g.I7.length ((k+1:Nat):Int) (bm C.p A.pos (x.f+1) (k+1-(x.f+1)))=(bB C x k ln A).g.I7)/\(k=e->A.g.I7=(bB C x k ln A).g.I7):=by
 constructor
 ·intro NF;unfold bB;by_cases h7:ln.J1=7
  ·obtain⟨q1,q2,q3,q4,q5⟩:=zy hC hx he o_ o_ hl h7;rw[c7 ⟨h7,q5⟩];refine rr q3 q4 q1 o_ fun i k1 k2 k3 k4=>?_;obtain⟨_,_,t3⟩:=qe hC hx he (k:=k+1) k1 o_ NF k3 k4;rw[Nat.add_sub_cancel]at t3;exact t3.symm
  ·rw[b8 o_];refine jO fun z hz=>?_;obtain⟨i,k1,k2,k3,rfl⟩:=lB hz;intro hh;obtain⟨t1,_⟩:=qe hC hx he (k:=k+1) k1 o_ NF k3 hh;rw[Nat.add_sub_cancel,bc hl]at t1;exact h7 t1
 ·rintro rfl;unfold bB;rw[b8];rintro⟨_,h⟩;exact h (jY he)
theorem CQ (hC:CxOk C)(hx:ScOk C x ins){e k:Nat}{ln:LP}(he:endAt C.p x.f=some e)(h1:x.f+1<=k)(hk:k<=e)(hl:C.p[k]?=some ln)(h4:ln.J1=4)(pos:List Int)(l:List LO)(v:Int):
  dc l v (-(k:Int)) (bm C.p pos (x.f+1) (k+1-(x.f+1)))=bU l (atL pos (ownOf C.p k)) v:=by
 obtain⟨o1,o2,o3,o4⟩:=hx.own4 hC he h1 hk hl h4;obtain⟨y,m,hy,y3,hm,_,_,_⟩:=bu o1;have Sw:=bc hy;have M6:cB C.p (ownOf C.p k:Int)=(k:Int):=by rw[dt];exact bQ o1
 refine rr (by unfold jumps;omega) (by unfold fm;rw[b8 o_,c7 ⟨o_,o_⟩,M6]) o_ o_ fun i k1 k2 k3 k4=>?_;unfold fm at k4;by_cases Xn:kindAt C.p i=4
 ·rw[c7 Xn]at k4;have:=jt C.p (ownOf C.p i);omega
 ·rw[b8 Xn]at k4;split at k4
  ·rename_i h3;have Pr:cB C.p (i:Int)=(k:Int):=o_;rw[dt]at Pr
   cases Oc:elseAt C.p i with
   | none=>rw[Oc]at Pr;simp only[cM]at Pr;omega
   | some j=>rw[Oc]at Pr;simp only[cM]at Pr;have:j=k:=o_;subst this;exact pr Oc o1
  ·have:=jt C.p i;omega
end
theorem pp (l:List LZ)(hl:l.length<=1048576):Sim.Spec prog 257 [tvL 3 (l.map LZ.tr)] (rL 3 (l.map LZ.tr)):=by
 refine bv hΓ aG func257 rfl d_ rfl ?_;repeat' ((conv=>whnf);first|apply Wx|apply W6|apply oi|apply fi|intro h|exact Y7|refine e_ rfl ?_)
 all_goals try exact Q1
 all_goals try exact⟨⟨rfl,aT _⟩⟩
theorem wt (x:LP)(hs:aF 1048576 x.tr):Sim.Spec prog 239 [.agg x.tr] (.r (.agg (x.tr.map tD))):=by
 refine bv hΓ aG func239 rfl d_ rfl ?_;obtain⟨h1,h2,h3,h4,h5⟩:=fM hs;have hT:=pp x.K9 h4;repeat' ((conv=>whnf);first|apply Wx|apply W6|apply oi|apply fi|intro h|refine cl hT ?_|exact Y7|refine e_ rfl ?_)
 all_goals try exact Q1
 all_goals try exact⟨⟨rfl,kV _⟩⟩
theorem zL {α β:Type}(f:α->β)(l:List α)(k:Nat)(x:α)(hx:l[k]?=some x):(l.take (k+1)).map f=(l.take k).map f++[f x]:=by rw[B2,hx,u4];rfl
theorem Q14{p:Prop}(h:p:=by exact⟨aT _⟩):p:=h
theorem qr (l:List LP)(hs:aw 1048576 (.lst 4 (l.map LP.tr))):bA prog 195 [vP l] [] (.r (.c (.own (1,0,0)))) [((1,0,0),.dar 4 (aK (l.map LP.tr)) none)]:=by
 refine aA hΓ aG func195 rfl d_ rfl rfl ?_;have hl:=bE hs;have Mw:(l.map LP.tr).length=l.length:=s_;repeat' ((conv=>whnf);first|apply Wx|apply W6|apply oi|apply fi|intro h|exact Y7|refine e_ rfl ?_)
 conv=>whnf
 refine⟨{k:Nat//k<=l.length},fun q=>⟨[(0,vP l),(3,.r (.c (.own (3,0,0)))),(4,tI .i64 (q.1:Int))],[((3,0,0),some (.dar 4 (aK ((l.take q.1).map LP.tr)) none))],[3,0]⟩,fun q=>l.length-q.1,⟨0,o_⟩,?_,?_⟩
 ·exact Z2
 intro⟨k,hk⟩;dsimp only at hk⊢;by_cases Mz:k<l.length
 ·obtain⟨x,hx⟩:=ae Mz;have Qz:(aK ((l.take k).map LP.tr)).length=k:=by rw[iK,e7,l6];omega
  have hC:=wt x (bg hs (c9 hx));repeat' ((conv=>whnf);first|apply Wx|apply W6|apply oi|apply fi|intro h|refine⟨k,x.tr,rfl,ab hx,?_⟩|refine cl hC ?_|exact Y5|refine e_ rfl ?_)
  all_goals try exact Q14
  all_goals try exact⟨kV _⟩
  all_goals try exact⟨⟨by rw[Qz];(try dsimp only);simp<;>omega,by rw[Qz];(try dsimp only);simp<;>omega⟩⟩
  repeat' ((conv=>whnf);first|apply Wx|apply W6|apply oi|apply fi|intro h|exact Y7|refine e_ rfl ?_)
  conv=>whnf
  refine⟨⟨k+1,o_⟩,?_,KD⟩;repeat' ((conv=>whnf);first|apply Wx|apply W6|apply oi|apply fi|intro h|exact Y6|refine e_ rfl ?_)
  all_goals exact⟨by rw[zL LP.tr l k x hx];simp[aK,LP.tr]⟩
 ·repeat' ((conv=>whnf);first|apply Wx|apply W6|apply oi|apply fi|intro h|exact Y5|refine e_ rfl ?_)
  all_goals exact⟨by rw[gt o_]⟩
noncomputable def lK (l:List LZ):List LZ:=if h:br l=true then(Classical.choose (jc h)).fold.toks else []
theorem uG {l:List LZ}(h:br l=true):∃e:Ex,e.ok/\l=e.toks/\lK l=e.fold.toks:=by have hc:=l8 (jc h);exact⟨_,hc.1,hc.2,by rw[lK,dif_pos h]⟩
theorem vF {l:List LZ}(h:br l=false):lK l=[]:=by rw[lK,dif_neg aaE]
theorem xC (l:List LZ):(lK l).length<=l.length:=by
 cases h:br l with
 | false=>rw[vF h];simp
 | true=>obtain⟨e,_,h1,h2⟩:=uG h;rw[h2,h1];exact e.fold_le
theorem tF (l:List LZ)(hl:l.length<=1048576)(hn:jl l):Sim.Spec prog 196 [tvL 3 (l.map LZ.tr)] (rL 3 ((lK l).map LZ.tr)):=by
 refine bv hΓ aG func196 rfl d_ rfl ?_;have hE:=oq l hl hn
 cases h:br l with
 | false=>
  rw[h]at hE;rw[vF h]
  repeat' ((conv=>whnf);first|apply Wx|apply W6|apply oi|apply fi|intro h|refine cl hE ?_|exact Y5|refine e_ rfl ?_)
 | true=>
  rw[h]at hE;obtain⟨e,h1,h2,h3⟩:=uG h;have hF:=mS e.toks.length e (d8 _) l 0 hl hn h1 ⟨[],by rw[B8,m6];exact h2⟩;rw[h3]
  generalize e.fold.toks=r at *
  repeat' ((conv=>whnf);first|apply Wx|apply W6|apply oi|apply fi|intro h|refine cl hE ?_|refine cl hF ?_|exact Y5|refine e_ rfl ?_)
noncomputable def aO (x:LP):LP:=if 0<x.K9.length then⟨x.J1,x.J8,x.L5,lK x.K9⟩else x
noncomputable def fG (l:List LP) (k:Nat):List LP:=(l.take k).map aO++l.drop k
theorem Cf (l:List LP)(k:Nat):(fG l k).length=l.length:=by simp[fG];omega
theorem mK {l:List LP}{k:Nat}{x:LP}(hx:l[k]?=some x):(fG l k)[k]?=some x:=by
 have hk:k<l.length:=by exact V109
 rw[fG,m5 aab];simp only[e7,l6];rw[y6 o_,w9,v7];exact hx
theorem qs {l:List LP}{k:Nat}{x:LP}(hx:l[k]?=some x):fG l (k+1)=(fG l k).set k (aO x):=by
 have hk:k<l.length:=by exact V109
 rw[fG,fG,zL aO l k x hx,cF hx,D6 _ _ aab];simp only[e7,l6];rw[y6 o_,w9,D2,j9];rfl
noncomputable def jm (l:List LP):List LP:=if ah l=true then l.map aO else []
theorem oF (l:List LP)(hs:aw 1048576 (.lst 4 (l.map LP.tr))):Sim.Spec prog 132 [tvP l] (rL 4 ((jm l).map LP.tr)):=by
 refine bv hΓ aG func132 rfl d_ rfl ?_;have hl:=bE hs;have hP:=dR l hs;have hC:=qr l hs
 cases S5:ah l with
 | false=>
  rw[S5]at hP;have:jm l=[]:=by rw[jm,b8 (by simp[S5])]
  rw[this]
  repeat' ((conv=>whnf);first|apply Wx|apply W6|apply oi|apply fi|intro h|refine cl hP ?_|exact Y5|refine e_ rfl ?_)
 | true=>
  rw[S5]at hP;have:jm l=l.map aO:=by rw[jm,c7 S5]
  rw[this];repeat' ((conv=>whnf);first|apply Wx|apply W6|refine cg hC ?_|apply oi|apply fi|intro h|refine cl hP ?_|exact Y5|refine e_ rfl ?_)
  conv=>whnf
  refine⟨{k:Nat//k<=l.length},fun q=>⟨[(3,.r (.c (.own (3,0,0)))),(4,tI .i64 (q.1:Int))],[((3,0,0),some (.dar 4 (aK ((fG l q.1).map LP.tr)) none))],[3]⟩,fun q=>l.length-q.1,⟨0,o_⟩,?_,?_⟩
  ·exact Z2
  intro⟨k,hk⟩;dsimp only at hk⊢;have Qz:(aK ((fG l k).map LP.tr)).length=l.length:=by rw[iK,e7,Cf]
  by_cases Mz:k<l.length
  ·obtain⟨x,hx⟩:=ae Mz;obtain⟨h1,h2,h3,h4,h5⟩:=fM (bg hs (c9 hx));have hF:=tF x.K9 h4 (fun y hy=>by have:=h5 y hy;omega);have Nf:k<(aK ((fG l k).map LP.tr)).length:=(by rw[Qz];exact Mz);have QX:(x.K9.map LZ.tr).length=x.K9.length:=s_;by_cases M7:0<x.K9.length
   ·have MN:aO x=⟨x.J1,x.J8,x.L5,lK x.K9⟩:=(by rw[aO,c7 M7]);repeat' ((conv=>whnf);first|apply Wx|apply W6|apply oi|apply fi|intro h|refine⟨k,rfl,Nf,?_⟩|refine⟨k,rfl,aay,?_⟩|refine⟨_,ji (ab (mK hx)),?_⟩|refine⟨_,(x6 aay),?_⟩|refine cl hF ?_|exact Y7|refine e_ rfl ?_)
    all_goals try exact Q14
    all_goals try(exfalso;have h':=f9 h;rw[Qz]at h';omega)
    all_goals try(exfalso;have h':=f9 h;rw[QX]at h';omega)
    conv=>whnf
    refine⟨⟨k+1,o_⟩,?_,KD⟩;repeat' ((conv=>whnf);first|apply Wx|apply W6|apply oi|apply fi|intro h|exact Y7|refine e_ rfl ?_)
    all_goals try exact Q14
    all_goals try exact⟨K1⟩
    all_goals(refine⟨?_⟩;(try dsimp only);rw[qs hx,F6,<-qd,MN];simp[LP.tr])
   ·have MN:aO x=x:=(by rw[aO,b8 M7]);repeat' ((conv=>whnf);first|apply Wx|apply W6|apply oi|apply fi|intro h|refine⟨k,rfl,Nf,?_⟩|refine⟨k,rfl,aay,?_⟩|refine⟨_,ji (ab (mK hx)),?_⟩|refine⟨_,(x6 aay),?_⟩|refine cl hF ?_|exact Y7|refine e_ rfl ?_)
    all_goals try exact Q14
    all_goals try(exfalso;have h':=f9 h;rw[Qz]at h';omega)
    all_goals try(exfalso;have h':=f0 h;rw[QX]at h';omega)
    conv=>whnf
    refine⟨⟨k+1,o_⟩,?_,KD⟩;repeat' ((conv=>whnf);first|apply Wx|apply W6|apply oi|apply fi|intro h|refine⟨k,rfl,Nf,?_⟩|refine⟨k,rfl,aay,?_⟩|refine⟨_,ji (ab (mK hx)),?_⟩|refine⟨_,(x6 aay),?_⟩|exact Y7|refine e_ rfl ?_)
    all_goals try exact Q14
    all_goals try exact⟨K1⟩
    all_goals(refine⟨?_⟩;(try dsimp only);rw[qs hx,F6,<-qd,MN];simp[LP.tr])
  ·repeat' ((conv=>whnf);first|apply Wx|apply W6|apply oi|apply fi|intro h|exact Y5|refine e_ rfl ?_)
   all_goals exact⟨by rw[fG,gt o_,n9 o_,m6]⟩
structure PgOk (p:List LP):Prop where
 len:p.length<=60
 small:aw 1048576 (.lst 4 (p.map LP.tr))
 line:∀(k:Nat) (ln:LP),p[k]?=some ln->0<=ln.J1/\ln.J1<=7/\ln.L5.length<=4/\ln.K9.length<=20/\((ln.J1=1\/ln.J1=2\/ln.J1=3\/ln.J1=5\/ln.J1=6)->br ln.K9=true)
 fn:∀(g:Nat) (ln:LP),p[g]?=some ln->ln.J1=0->∃e,endAt p g=some e/\(localsOf p (g:Int)).length<=8/\ln.L5.length<=(localsOf p (g:Int)).length/\∀(k:Nat) (y:LP),g<k->k<e->p[k]?=some y->y.J1≠0/\(∀t∈y.K9,t.J1=7->∃f,findN p 0 t.J8=some f/\(argsN p f:Int)=t.Mc)/\(y.J1=4->∃i,g<=i/\i<k/\elseAt p i=some k)
theorem PgOk.cx {p:List LP}(h:PgOk p){b:LG}{framed:Bool}{words args:Int}(ha:0<=args/\args<=4)(hw:0<=words/\words<=1000)(hi:0<=b.Md/\b.Md<=3):CxOk ⟨p,b,framed,words,args⟩:=
 ⟨h.len,h.small,h.line,h.fn,ha,hw,hi⟩
theorem pa {F:Nat->Nat->Bool}{l:List LP}(hF:∀k e,endAt l k=some e->F k e=true->∀i x,k<i->i<e->l[i]?=some x->x.J1≠0):∀(n k:Nat),bM F l n k=true->∀g x,k<=g->l[g]?=some x->x.J1=0->∃e,endAt l g=some e/\F g e=true
 | 0,k,h,g,x,hk,hg,_=>by
  rw[bM,j5]at h;have:=aH hg
  omega
 | n+1,k,h,g,x,hk,hg,h0=>by
  rw[bM,c7 (by have:=aH hg;omega)]at h;split at h
  ·rename_i y e hy he;split at h
   ·rename_i hc;by_cases hgk:g=k
    ·subst hgk;exact⟨e,he,hc.2⟩
    ·by_cases MT:g<=e
     ·by_cases WJ:g=e
      ·subst WJ;obtain⟨z,hz,h7⟩:=bK he;rw[hg]at hz;injection hz with hz;subst hz;omega
      ·exact absurd h0 (hF k e he hc.2 g x o_ o_ hg)
     ·exact pa hF n (e+1) h g x o_ hg h0
   ·cases h
  ·cases h
theorem po {l:List LP}{locals:List (List UInt8)}{e:Nat}:∀(n i d:Nat),e-i<=n->e<=l.length->mX l locals e n i d=true->∀j x,i<=j->j<e->l[j]?=some x->eB l locals x.K9=true
 | 0,i,d,hn,_,_,j,x,h1,h2,_=>o_
 | n+1,i,d,hn,he,hb,j,x,h1,h2,hx=>by
  rw[mX,c7 o_]at hb;obtain⟨y,hy⟩:=ae (l:=l) (k:=i) o_;rw[hy]at hb;dsimp only at hb;split at hb
  ·cases hb
  ·split at hb
   ·rename_i hk;by_cases hj:j=i
    ·subst hj;rw[hy]at hx;injection hx with hx;subst hx;exact hk.2
    ·exact po n (i+1) _ o_ he hb j x o_ h2 hx
   ·cases hb
theorem DA (acc:List (List UInt8))(s:List UInt8):acc.length<=(fX acc s).length:=by unfold fX;split<;>simp
theorem Ed {l:List LP}{e:Nat}:∀(n i:Nat) (acc:List (List UInt8)),acc.length<=(locN l e n i acc).length
 | 0,_,_=>by simp[locN]
 | n+1,i,acc=>by
  rw[locN];split
  ·split
   ·refine v5 ?_ (Ed n _ _);split
    ·exact DA _ _
    ·exact d8 _
   ·exact d8 _
  ·exact d8 _
theorem hasExpr_iff {k:Int}:iW k=true↔(k=1\/k=2\/k=3\/k=5\/k=6):=by unfold iW;simp
theorem zF {x:LP}(h:cY x=true):0<=x.J1/\x.J1<=7/\x.L5.length<=4/\x.K9.length<=20/\((x.J1=1\/x.J1=2\/x.J1=3\/x.J1=5\/x.J1=6)->br x.K9=true):=by
 have h4:x.L5.length<=4:=by
  rcases m7 4 x.L5.length with h'|h'
  ·rw[tv h']at h;cases h
  ·exact h'
 unfold cY at h;simp only[b9,within_iff]at h;obtain⟨⟨h1,h2⟩,_,_,h3⟩:=h;refine⟨h1,h2,h4,?_,fun hk=>by rw[c7 (hasExpr_iff.2 hk)]at h3;exact h3⟩;split at h3
 ·unfold br at h3;simp only[b9,j5]at h3;exact h3.1
 ·have:=B7 h3;omega
theorem zn {p:List LP}(hs:aw 1048576 (.lst 4 (p.map LP.tr)))(h:ah p=true):PgOk p:=by
 unfold ah at h;simp only[b9,j5]at h;obtain⟨h1,_,h2,_,_,h3,h4⟩:=h;have hS:=oJ p;rw[h3,h4]at hS;have Sr:∀(k:Nat) (ln:LP),p[k]?=some ln->0<=ln.J1/\ln.J1<=7/\ln.L5.length<=4/\ln.K9.length<=20/\((ln.J1=1\/ln.J1=2\/ln.J1=3\/ln.J1=5\/ln.J1=6)->br ln.K9=true):=fun k ln hk=>zF (o8.1 h2 ln (c9 hk));have Mz:∀k e,endAt p k=some e->e<=p.length:=fun k e he=>by obtain⟨_,_,_,_,_,h⟩:=aN he;omega
 have hF:∀k e,endAt p k=some e->lW p k e=true->∀i x,k<i->i<e->p[i]?=some x->x.J1≠0:=fun k e he hf=>by
  rw[mw,b9]at hf;exact wc hf.1 (Mz k e he)
 refine⟨h1,hs,Sr,fun g ln hg h0=>?_⟩;obtain⟨e,he,hf⟩:=pa hF p.length 0 hS g ln (w6 _) hg h0;have Ot:=hf;rw[mw,b9]at Ot;obtain⟨RP,Sx⟩:=Ot;have TB:=RP;rw[tP,b9,j5]at TB;obtain⟨ZB,Uz⟩:=TB;refine⟨e,he,ZB,?_,fun k y hk1 MO hy=>⟨hF g e he hf k y hk1 MO hy,fun t ht h7=>?_,fun Q0=>?_⟩⟩
 ·unfold localsOf;rw[c7 o_,d7,hg,he];dsimp only;rw[c7 h0];exact Ed _ _ _
 ·have OL:=po (e-(g+1)) (g+1) 0 (d8 _) (Mz g e he) Uz k y o_ MO hy;unfold eB at OL;have:=o8.1 OL t ht;unfold cG at this;rw[b8 o_,c7 h7]at this;split at this
  ·rename_i f Vm;refine⟨f,Vm,?_⟩;unfold argsN;split at this
   ·rename_i x hx
    (try rw[hx])
    exact B7 this
   ·cases this
  ·cases this
 ·have:=(iE (d8 _)).1 Sx k y o_ MO hy Q0;rw[pT]at this;obtain⟨i,i1,i2,i3⟩:=this;exact⟨i,i1,o_,i3⟩
def alike (p q:List LP):Prop:=p.map (fun x=>(x.J1,x.J8,x.L5))=q.map (fun x=>(x.J1,x.J8,x.L5))
theorem alike.len {p q:List LP}(h:alike p q):p.length=q.length:=by simpa using congrArg List.length h
theorem alike.get {p q:List LP}(h:alike p q){k:Nat}{x:LP}(hx:p[k]?=some x):∃y,q[k]?=some y/\x.J1=y.J1/\x.J8=y.J8/\x.L5=y.L5:=by
 have:=congrArg (·[k]?) h;simp only[p6,hx,x7]at this
 cases hy:q[k]? with
 | none=>rw[hy]at this;cases this
 | some y=>rw[hy]at this;simp only[x7,Option.some.injEq,Prod.mk.injEq]at this;exact⟨y,rfl,this.1,this.2.1,this.2.2⟩
theorem alike.none {p q:List LP}(h:alike p q){k:Nat}(hx:p[k]?=none):q[k]?=none:=by rw[List.getElem?_eq_none_iff]at hx⊢;have:=h.len;omega
theorem alike.symm {p q:List LP}(h:alike p q):alike q p:=Eq.symm h
theorem alike.drop {p q:List LP}(h:alike p q)(n:Nat):alike (p.drop n) (q.drop n):=by
 unfold alike at *
 rw[A9,A9,h]
theorem alike.endN:∀{p q:List LP},alike p q->∀(i o:Nat),endN p i o=endN q i o
 | [],[],_,_,_=>rfl
 | x::p,y::q,h,i,o=>by
  simp only[alike,p7,List.cons.injEq,Prod.mk.injEq]at h;have ih:=alike.endN (p:=p) (q:=q) h.2
  rw[Go.Proofs.P.endN,Go.Proofs.P.endN,h.1.1,ih,ih,ih]
 | [],_::_,h,_,_=>by simp[alike]at h
 | _::_,[],h,_,_=>by simp[alike]at h
theorem alike.endAt {p q:List LP}(h:alike p q)(k:Nat):endAt p k=endAt q k:=by
 unfold Go.Proofs.P.endAt
 cases hx:p[k]? with
 | none=>rw[h.none hx]
 | some x=>obtain⟨y,hy,e1,_⟩:=h.get hx;rw[hy];dsimp only;rw[e1,(h.drop (k+1)).endN]
theorem alike.elseN {p q:List LP}(h:alike p q){e:Nat}:∀(n i:Nat),elseN p e n i=elseN q e n i
 | 0,_=>rfl
 | n+1,i=>by
  rw[Go.Proofs.P.elseN,Go.Proofs.P.elseN]
  cases hx:p[i]? with
  | none=>rw[h.none hx]
  | some x=>
   obtain⟨y,hy,e1,_⟩:=h.get hx;rw[hy];dsimp only;rw[e1,h.endAt i]
   cases Go.Proofs.P.endAt q i with|none=>dsimp only;rw[alike.elseN h n]|some m=>dsimp only;rw[alike.elseN h n,alike.elseN h n]
theorem alike.elseAt {p q:List LP}(h:alike p q)(k:Nat):elseAt p k=elseAt q k:=by
 unfold Go.Proofs.P.elseAt;rw[h.endAt k]
 cases hx:p[k]? with
 | none=>rw[h.none hx]
 | some x=>
  obtain⟨y,hy,e1,_⟩:=h.get hx;rw[hy]
  cases Go.Proofs.P.endAt q k with|none=>rfl|some e=>dsimp only;rw[e1,h.elseN]
theorem alike.findN:∀{p q:List LP},alike p q->∀(i:Nat) (s:List UInt8),findN p i s=findN q i s
 | [],[],_,_,_=>rfl
 | x::p,y::q,h,i,s=>by
  simp only[alike,p7,List.cons.injEq,Prod.mk.injEq]at h;have ih:=alike.findN (p:=p) (q:=q) h.2
  rw[Go.Proofs.P.findN,Go.Proofs.P.findN,h.1.1,h.1.2.1,ih]
 | [],_::_,h,_,_=>by simp[alike]at h
 | _::_,[],h,_,_=>by simp[alike]at h
theorem alike.locN {p q:List LP}(h:alike p q){e:Nat}:∀(n i:Nat) (acc:List (List UInt8)),locN p e n i acc=locN q e n i acc
 | 0,_,_=>rfl
 | n+1,i,acc=>by
  rw[Go.Proofs.P.locN,Go.Proofs.P.locN]
  cases hx:p[i]? with
  | none=>rw[h.none hx]
  | some x=>obtain⟨y,hy,e1,e2,_⟩:=h.get hx;rw[hy];dsimp only;rw[e1,e2,alike.locN h n]
theorem alike.localsOf {p q:List LP}(h:alike p q)(k:Int):localsOf p k=localsOf q k:=by
 unfold Go.Proofs.P.localsOf;rw[h.endAt]
 cases hx:p[k.toNat]? with
 | none=>rw[h.none hx]
 | some x=>
  obtain⟨y,hy,e1,_,e3⟩:=h.get hx;rw[hy]
  cases Go.Proofs.P.endAt q k.toNat with|none=>rfl|some e=>dsimp only;rw[e1,e3,h.locN]
theorem alike.argsN {p q:List LP}(h:alike p q)(g:Nat):argsN p g=argsN q g:=by
 unfold Go.Proofs.P.argsN
 cases hx:p[g]? with
 | none=>rw[h.none hx]
 | some x=>obtain⟨y,hy,_,_,e3⟩:=h.get hx;rw[hy];dsimp only;rw[e3]
theorem eU (p:List LP):alike (p.map aO) p:=by unfold alike;rw[G6];refine List.map_congr_left fun x _=>?_;simp only[Function.comp,aO];split<;>rfl
theorem Kg (v:Int):ar ⟨0,v,[]⟩=0:=by unfold ar mc;split<;>simp
theorem JB {v:Int}(h:af v 0 999=true):(CF v).ok:=⟨by simp[fw,h],by rw[Kg];rfl,trivial⟩
theorem Jo {t:LZ}{fs:List Ex}(h1:fw t=true)(h2:fs.length=ar t)(h3:iV fs):(xa t fs).ok:=by
 unfold xa;split
 ·split
  ·rename_i hc;exact JB hc.2.2.2
  ·exact⟨h1,h2,h3⟩
 ·exact⟨h1,h2,h3⟩
mutual
theorem Ex.fold_ok:∀e:Ex,e.ok->e.fold.ok
 | .node t es,h=>by rw[Ex.fold];exact Jo h.1 (by rw[oG];exact h.2.1) (xO es h.2.2)
theorem xO:∀es:List Ex,iV es->iV (bW es)
 | [],_=>by rw[bW];trivial
 | a::es,h=>by rw[bW];exact⟨a.fold_ok h.1,xO es h.2⟩
end
theorem HY {t:LZ}{fs:List Ex}{z:LZ}(h:z∈(xa t fs).toks):z=t\/z∈aq fs\/∃n,z=⟨0,n,[]⟩:=by
 unfold xa at h;split at h
 ·split at h
  ·simp only[CF,Ex.toks,aq,d6,l4,or_false]at h;exact .inr (.inr ⟨_,h⟩)
  ·rw[Ex.toks,d6]at h;exact h.imp id .inl
 ·rw[Ex.toks,d6]at h;exact h.imp id .inl
mutual
theorem Ex.fold_mem:∀(e:Ex) {z:LZ},z∈e.fold.toks->z∈e.toks\/∃n,z=⟨0,n,[]⟩
 | .node t es,z,h=>by
  rw[Ex.fold]at h;rw[Ex.toks,d6];rcases HY h with h|h|h
  ·exact .inl (.inl h)
  ·rcases wk es h with h|h
   ·exact .inl (.inr h)
   ·exact .inr h
  ·exact .inr h
theorem wk:∀(es:List Ex) {z:LZ},z∈aq (bW es)->z∈aq es\/∃n,z=⟨0,n,[]⟩
 | [],z,h=>by rw[bW]at h;exact .inl h
 | a::es,z,h=>by
  rw[bW,aq,d9]at h;rw[aq,d9];rcases h with h|h
  ·exact(a.fold_mem h).imp .inl id
  ·exact(wk es h).imp .inr id
end
theorem Fl {e:Ex}(ho:e.ok)(hl:e.toks.length<=20):br e.toks=true:=by have h:=pv (l:=e.toks) (p:=0) ⟨[],by rw[B8,m6]⟩ ho;have hp:=e.toks_pos;unfold br;rw[q9 hl,q9 hp,show gn e.toks 0=_ from h];simp
theorem jT {l:List LZ}(h:br l=true):br (lK l)=true/\∀z∈lK l,z∈l\/∃n,z=⟨0,n,[]⟩:=by
 obtain⟨e,h1,h2,h3⟩:=uG h;have hl:=xC l
 have N3:l.length<=20:=by unfold br at h;simp only[b9,j5]at h;exact h.1
 rw[h3]at hl⊢;refine⟨Fl (e.fold_ok h1) o_,fun z hz=>?_⟩;rw[h2];exact e.fold_mem hz
theorem mH {L:Int}:∀{rows:List (List Tr)},(∀r∈rows,aF L r)->eH L rows
 | [],_=>by rw[eH];trivial
 | r::rs,h=>by rw[eH];exact⟨h r s_,mH fun x hx=>h x aap⟩
theorem wH {x:LP}(hs:aF 1048576 x.tr)(he:(x.J1=1\/x.J1=2\/x.J1=3\/x.J1=5\/x.J1=6)->br x.K9=true)(N3:x.K9.length<=20):
  (aO x).J1=x.J1/\(aO x).L5=x.L5/\(aO x).K9.length<=20/\((x.J1=1\/x.J1=2\/x.J1=3\/x.J1=5\/x.J1=6)->br (aO x).K9=true)/\(∀z∈(aO x).K9,z∈x.K9\/∃n,z=⟨0,n,[]⟩)/\aF 1048576 (aO x).tr:=by
 unfold aO;split
 ·rename_i M7;have hl:=xC x.K9
  have hz:∀z∈lK x.K9,z∈x.K9\/∃n,z=⟨0,n,[]⟩:=by
   cases hx:br x.K9 with
   | true=>exact(jT hx).2
   | false=>rw[vF hx];intro z hz;cases hz
  refine⟨rfl,rfl,g_,fun hk=>(jT (he hk)).1,hz,?_⟩;simp only[LP.tr,aF]at hs⊢;obtain⟨q0,q1,q2,q3,q4⟩:=hs;refine⟨q0,q1,q2,?_,q4⟩;have N8:=nB q3;rw[aw];refine⟨by rw[e7];omega,mH fun r hr=>?_⟩;obtain⟨z,U8,rfl⟩:=n7.1 hr;rcases hz z U8 with h|⟨n,rfl⟩
  ·exact bg q3 h
  ·simp[LZ.tr,aF,aw]
 ·exact⟨rfl,rfl,N3,he,fun z hz=> .inl hz,hs⟩
theorem PgOk.fold {p:List LP}(h:PgOk p):PgOk (p.map aO):=by
 have ha:=eU p
 have cf:∀{k:Nat} {y:LP},(p.map aO)[k]?=some y->∃x,p[k]?=some x/\y=aO x:=fun{k y} hy=>by
  rw[p6]at hy
  cases hx:p[k]? with
  | none=>rw[hx]at hy;cases hy
  | some x=>rw[hx]at hy;injection hy with hy;exact⟨x,rfl,hy.symm⟩
 have hf:∀{k:Nat} {x:LP},p[k]?=some x->_:=fun{k x} hx=>wH (bg h.small (c9 hx)) (h.line k x hx).2.2.2.2 (h.line k x hx).2.2.2.1;refine⟨by rw[e7];exact h.len,?_,fun k y hy=>?_,fun g y hy h0=>?_⟩
 ·rw[aw];refine⟨by have:=h.len;simp;omega,mH fun r hr=>?_⟩;obtain⟨y,hy,rfl⟩:=n7.1 hr;obtain⟨x,hx,rfl⟩:=n7.1 hy;obtain⟨k,hk,Su⟩:=List.mem_iff_getElem.1 hx;exact(hf (k:=k) (x:=x) (by rw[i7 hk,Su])).2.2.2.2.2
 ·obtain⟨x,hx,rfl⟩:=cf hy;obtain⟨f1,f2,f3,f4,_⟩:=hf hx;obtain⟨l1,l2,l3,_⟩:=h.line k x hx;rw[f1,f2];exact⟨l1,l2,l3,f3,f4⟩
 ·obtain⟨x,hx,rfl⟩:=cf hy;obtain⟨f1,f2,_⟩:=hf hx;rw[f1]at h0;obtain⟨e,he,q1,q2,q3⟩:=h.fn g x hx h0;refine⟨e,by rw[ha.endAt];exact he,by rw[ha.localsOf];exact q1,by rw[ha.localsOf,f2];exact q2,fun k y hk1 MO hy=>?_⟩;obtain⟨z,hz,rfl⟩:=cf hy;obtain⟨g1,_,_,_,g5,_⟩:=hf hz;obtain⟨r1,r2,r3⟩:=q3 k z hk1 MO hz;refine⟨by rw[g1];exact r1,fun t ht h7=>?_,fun h4=>?_⟩
  ·rcases g5 t ht with h'|⟨n,rfl⟩
   ·obtain⟨f,RP,Sx⟩:=r2 t h' h7;exact⟨f,by rw[ha.findN];exact RP,by rw[ha.argsN];exact Sx⟩
   ·exact absurd h7 (show ¬(0:Int)=7 by decide)
  ·rw[g1]at h4;obtain⟨i,i1,i2,i3⟩:=r3 h4;exact⟨i,i1,i2,by rw[ha.elseAt];exact i3⟩
end Go.Proofs.P
namespace Go.Proofs.P
open Go.Sim Tryz
abbrev kQ (x:Sc)(lv:List Int):List DC:=[.d (.int .i64 (x.f:Int)),.t (.lst 1 (x.J0.map aa)),.t (.lst 1 (x.J9.map ao)),.d (.int .i64 x.first),.d (.bool x.L2),.d (.lst (if x.L2=true then 0 else 1) (lv.map aa))]
abbrev scV (x:Sc):AV:= .r (.agg [.t (.int .i64 (x.f:Int)),.t (.lst 1 (x.J0.map aa)),.t (.lst 1 (x.J9.map ao)),.t (.int .i64 x.first),.t (.bool x.L2),.opq])
abbrev xZ (l:List Int):AV:= .r (.c (.t (.lst 1 (l.map aa))))
abbrev itR (l:List LO):List (List DC):=aK (l.map LO.tr)
abbrev pk (C:Cx)(s:Gs)(d:Int)(i1 i2:Sim.Id):AO:= .box [.t (.lst 4 (C.p.map LP.tr)),.t (.int .i64 C.b.Mo),.t (.int .i64 C.b.Md),.t (.bool C.b.Mv),.t (.bool C.b.Mt),.t (.bool C.J6),.t (.int .i64 C.I8),.t (.int .i64 s.J3),.t (.int .i64 C.args),.t (.int .i64 d),.own i1,.own i2,.t (.bool s.start)]
abbrev ic (i1 i2:Sim.Id)(C:Cx)(s:Gs)(d:Int)(S:List (List DC)):List (Sim.Id×AO):=[((0,0,0),pk C s d i1 i2),(i1,.dar 7 (itR s.I7) none),(i2,.dar 6 S none)]
abbrev gU:AV:= .r (.c (.ptr (0,0,0) 0))
theorem ke (l:List LO):(itR l).length=l.length:=by rw[itR,iK,e7]
theorem HV (l:List LO)(x:LO):itR (l++[x])=itR l++[x.tr.map .d]:=by simp[itR,aK]
def dL (s:Gs):Prop:=s.I7.length<=68719476736
theorem bN (C:Cx)(s:Gs)(d:Int)(S:List (List DC))(code arg line:Int)(chain:List Int)(h1:dL s)(h2:chain.length<=100):bA prog 197 [gU,tI .i64 code,tI .i64 arg,tI .i64 line,xZ chain] (ic (0,0,1) (0,0,2) C s d S) (.tup []) (ic (1,0,1) (0,0,2) C (aC C s d code arg line chain) d S):=by
 refine aA hΓ aG func197 rfl d_ rfl rfl ?_;unfold dL at h1;have Mw:=ke s.I7;have MV:(chain.map aa).length=chain.length:=s_;have MN:=bZ chain;repeat' ((conv=>whnf);first|apply Wx|apply W6|apply oi|apply fi|intro h|exact Y7|refine e_ rfl ?_)
 all_goals try exact⟨⟨by rw[Mw];(try dsimp only);omega,by rw[Mw];(try dsimp only);omega⟩⟩
 all_goals try exact Q1
 all_goals try exact⟨by simpa using MN⟩
 all_goals(refine⟨?_⟩;(try rw[Mw]at *);rw[aC,HV];congr 1;simp_all[bL,LO.tr])
theorem pU (C:Cx)(hC:CxOk C)(s:Gs)(d:Int)(S:List (List DC))(x:Sc)(i:Int)(store:Bool)(hd:-2000<=d/\d<=2000)(hx:0<=x.first/\x.first<=1000)(hi:-2<=i/\i<=100):bA prog 262 [gU,scV x,tI .i64 i,tB store] (ic (0,0,1) (0,0,2) C s d S) (.tup [.c (.t (.int .i64 (cA C store))),.c (.t (.int .i64 (fu C x d i)))]) (ic (0,0,1) (0,0,2) C s d S):=by
 refine aA hΓ aG func262 rfl d_ rfl rfl ?_;obtain⟨a1,a2⟩:=hC.args;repeat' ((conv=>whnf);first|apply Wx|apply W6|apply oi|apply fi|intro h|exact Y7|refine e_ rfl ?_)
 all_goals try exact Q5
 all_goals(refine⟨congrArg (Tr.int _) ?_⟩;(try unfold cA);(try unfold fu Be mP);(try simp(disch:=omega)only[c6]);simp_all<;>omega)
theorem V39{p:Prop}(h:p:=by
 repeat' ((conv=>whnf);first|apply Wx|apply W6|apply oi|apply fi|intro h|exact Y7|refine e_ rfl ?_)
 refine cg (g1) ?_;repeat' ((conv=>whnf);first|apply Wx|apply W6|apply oi|apply fi|intro h|exact Y7|refine e_ rfl ?_)
 refine cg (g2) ?_
 exact Z6):p:=h
theorem AL (C:Cx)(hC:CxOk C)(s:Gs)(d:Int)(S:List (List DC))(x:Sc)(i line:Int)(h1:dL s)(h2:x.J0.length<=100)(hd:-1000<=d/\d<=1999)(hx:0<=x.first/\x.first<=1000)(hi:-2<=i/\i<=100):bA prog 259 [gU,scV x,tI .i64 i,tI .i64 line] (ic (0,0,1) (0,0,2) C s d S) (.tup []) (ic (1,0,1) (0,0,2) C (Ej C x s d i line) (d+1) S):=by refine aA hΓ aG func259 rfl d_ rfl rfl ?_;have g1:=pU C hC s d S x i false o_ hx hi;have g2:=bN C s d S (cA C false) (fu C x d i) line x.J0 h1 h2;exact V39
theorem lc (C:Cx)(hC:CxOk C)(s:Gs)(d:Int)(S:List (List DC))(x:Sc)(i line:Int)(chain:List Int)(h1:dL s)(h2:chain.length<=100)(hd:-1000<=d/\d<=2000)(hx:0<=x.first/\x.first<=1000)(hi:-2<=i/\i<=100):bA prog 245 [gU,scV x,tI .i64 i,tI .i64 line,xZ chain] (ic (0,0,1) (0,0,2) C s d S) (.tup []) (ic (1,0,1) (0,0,2) C (fP C x s d i line chain) (d-1) S):=by refine aA hΓ aG func245 rfl d_ rfl rfl ?_;have g1:=pU C hC s d S x i true o_ hx hi;have g2:=bN C s d S (cA C true) (fu C x d i) line chain h1 h2;exact V39
theorem kx (C:Cx)(s:Gs)(d:Int)(S:List (List DC))(v line:Int)(chain:List Int)(h1:dL s)(h2:chain.length<=100)(hd:-1000<=d/\d<=1999):bA prog 242 [gU,tI .i64 v,tI .i64 line,xZ chain] (ic (0,0,1) (0,0,2) C s d S) (.tup []) (ic (1,0,1) (0,0,2) C (aC C s d 0 v line chain) (d+1) S):=by
 refine aA hΓ aG func242 rfl d_ rfl rfl ?_;have g2:=bN C s d S 0 v line chain h1 h2;repeat' ((conv=>whnf);first|apply Wx|apply W6|apply oi|apply fi|intro h|exact Y7|refine e_ rfl ?_)
 refine cg (g2) ?_;exact Z6
abbrev scH (l:List (Sc×List Int)):List (List DC):=l.map fun y=>kQ y.1 y.2
theorem Q17{p:Prop}(h:p:=by exact⟨KW⟩):p:=h
theorem ql (C:Cx)(hC:CxOk C)(s:Gs)(d:Int)(S:List (Sc×List Int))(x:Sc)(lv:List Int)(k:Nat)(last:Bool)(h1:dL s)(h2:x.J0.length<=100)(hd:-1000<=d/\d<=2000)(hS:S.length<=100)(Xr:lv.length<=68719476736)(hd p:List Int):
  bA prog 243 [gU,tI .i64 (k:Int),tB last] (ic (0,0,1) (0,0,2) C s d (scH (S++[(x,lv)]))) (.tup []) (ic (1,0,1) (1,0,2) C (be C x k last d ⟨s,hd,p,lv⟩).g (d-1) (scH (S++[(x,(be C x k last d ⟨s,hd,p,lv⟩).lv)]))):=by
 refine aA hΓ aG func243 rfl d_ rfl rfl ?_;obtain⟨f,chain,locals,first,outer⟩:=x;have Mw:=ke s.I7;have N8:(scH (S++[(⟨f,chain,locals,first,outer⟩,lv)])).length=S.length+1:=s_;have MJ:(scH (S++[(⟨f,chain,locals,first,outer⟩,lv)]))[S.length]?=some (kQ ⟨f,chain,locals,first,outer⟩ lv):=s_;have hw:IntKind.i64.wrap (((scH (S++[(⟨f,chain,locals,first,outer⟩,lv)])).length:Int)-1)=(S.length:Int):=by rw[N8,c6 _ o_];omega
 have MN:=bZ lv;have Qp:=bZ (lv++[(s.I7.length:Int)]);have Mz:S.length<(scH (S++[(⟨f,chain,locals,first,outer⟩,lv)])).length:=o_;have Oh:(lv.map aa).length=lv.length:=s_;unfold dL at h1
 cases outer with
 | false=>
  cases last with
  | true=>
   have e:be C ⟨f,chain,locals,first,false⟩ k true d ⟨s,hd,p,lv⟩=⟨s,hd,p,lv⟩:=(by simp[be]);rw[e];repeat' ((conv=>whnf);first|apply Wx|apply W6|apply oi|apply fi|intro h|refine⟨S.length,hw,Mz,?_⟩|refine⟨_,MJ,?_⟩|exact Y8|refine e_ rfl ?_)
   all_goals(exfalso;simp_all;done)
  | false=>
   have e:be C ⟨f,chain,locals,first,false⟩ k false d ⟨s,hd,p,lv⟩=⟨aC C s d 10 0 k chain,hd,p,lv++[(s.I7.length:Int)]⟩:=(by simp[be]);rw[e];have g:=bN C s d ((scH (S++[(⟨f,chain,locals,first,false⟩,lv)])).set S.length [.d (.int .i64 (f:Int)),.t (.lst 1 (chain.map aa)),.t (.lst 1 (locals.map ao)),.d (.int .i64 first),.d (.bool false),.d (.lst 1 (lv.map aa++[[.int .i64 ((itR s.I7).length:Int)]]))]) 10 0 k chain h1 h2;repeat' ((conv=>whnf);first|apply Wx|apply W6|refine cg g ?_|apply oi|apply fi|intro h|refine⟨S.length,hw,Mz,?_⟩|refine⟨_,MJ,?_⟩|refine⟨_,(x6 Mz),?_⟩|exact Y7|refine e_ rfl ?_)
   all_goals try exact⟨MN⟩
   all_goals try exact⟨⟨by rw[Oh];(try dsimp only);simp<;>omega,by rw[Oh];(try dsimp only);simp<;>omega⟩⟩
   all_goals try exact⟨by rw[Mw];first|(simp[aa];done)|simpa [aa]using Qp⟩
   all_goals try exact Q17
   all_goals try exact Q5
   all_goals(refine⟨?_⟩;rw[Mw];simp[List.set_append,aa])
 | true=>
  have g1:=bN C s d (scH (S++[(⟨f,chain,locals,first,true⟩,lv)])) 14 C.args k chain h1 h2;have g2:=bN C s d (scH (S++[(⟨f,chain,locals,first,true⟩,lv)])) 16 (C.args+16*C.I8) k chain h1 h2;obtain⟨a1,a2⟩:=hC.args;obtain⟨a3,a4⟩:=hC.I8;have e2:IntKind.i64.wrap (C.args+IntKind.i64.wrap (16*C.I8))=C.args+16*C.I8:=by simp(disch:=omega)only[c6]
  rw[<-e2]at g2
  cases hf:C.J6 with
  | true=>
   have e:be C ⟨f,chain,locals,first,true⟩ k last d ⟨s,hd,p,lv⟩=⟨aC C s d 14 C.args k chain,hd,p,lv⟩:=(by simp[be,hf]);rw[e];repeat' ((conv=>whnf);first|apply Wx|apply W6|refine cg g1 ?_|apply oi|apply fi|intro h|refine⟨S.length,hw,Mz,?_⟩|refine⟨_,MJ,?_⟩|exact Y8|refine e_ rfl ?_)
   all_goals(exfalso;simp_all;done)
  | false=>
   have e:be C ⟨f,chain,locals,first,true⟩ k last d ⟨s,hd,p,lv⟩=⟨aC C s d 16 (IntKind.i64.wrap (C.args+IntKind.i64.wrap (16*C.I8))) k chain,hd,p,lv⟩:=(by simp[be,hf,e2]);rw[e];repeat' ((conv=>whnf);first|apply Wx|apply W6|refine cg g2 ?_|apply oi|apply fi|intro h|refine⟨S.length,hw,Mz,?_⟩|refine⟨_,MJ,?_⟩|exact Y8|refine e_ rfl ?_)
   all_goals(exfalso;simp_all;done)
abbrev md (e:Int×Int):List Tr:=[.int .i64 e.1,.int .i64 e.2]
theorem FY {l:List LO}{j:Nat}{x:LO}(h:l[j]?=some x)(v:Int):bU l (j:Int) v=l.set j ⟨⟨x.J2.I9,v⟩,x.Mi,x.L4,x.Mm,x.Me,x.Mn⟩:=by rw[bU,c7 o_,d7,h]
theorem vK {l:List LO}{j:Nat}{x:LO}(h:l[j]?=some x)(v:Int):itR (bU l (j:Int) v)=(itR l).set j [.d (.int .i64 x.J2.I9),.d (.int .i64 v),.d (.int .i64 x.Mi),.d (.bool x.L4),.d (.lst 1 (x.Mm.map aa)),.d (.int .i64 x.Me),.d (.bool x.Mn)]:=by rw[FY h];simp[aK,F6,LO.tr]
theorem DK {l:List LO}{j:Nat}{x:LO}(h:l[j]?=some x):(itR l)[j]?=some (x.tr.map .d):=ji (ab h)
theorem pE (C:Cx)(s:Gs)(d:Int)(S:List (List DC))(E:List (Int×Int))(to:Int)(h1:dL s)(hE:E.length<=100)(hin:∀e∈E,0<=e.2/\e.2<s.I7.length):
  bA prog 241 [gU,.r (.c (.own (0,1,0))),tI .i64 to] (ic (0,0,1) (0,0,2) C s d S++[((0,1,0),.arr false 2 (E.map md))]) (.tup []) (ic (0,0,1) (0,0,2) C ⟨dc s.I7 s.I7.length to E,s.J3,s.start⟩ d S++[((0,1,0),.arr false 2 (E.map md))]):=by
 refine aA hΓ aG func241 rfl d_ rfl rfl ?_;have UT:(E.map md).length=E.length:=s_;unfold dL at h1;repeat' ((conv=>whnf);first|apply Wx|apply W6|apply oi|apply fi|intro h|exact Y7|refine e_ rfl ?_)
 conv=>whnf
 refine⟨{k:Nat//k<=E.length},fun q=>⟨[(0,gU),(1,.r (.c (.own (0,1,0)))),(2,tI .i64 to),(6,tI .i64 (q.1:Int))],[((0,0,0),some (pk C s d (0,0,1) (0,0,2))),((0,0,1),some (.dar 7 (itR (dc s.I7 s.I7.length to (E.take q.1))) none)),((0,0,2),some (.dar 6 S none)),((0,1,0),some (.arr false 2 (E.map md)))],[0]⟩,fun q=>E.length-q.1,⟨0,o_⟩,?_,?_⟩
 ·exact Z2
 intro⟨k,hk⟩;dsimp only at hk⊢;have Pb:=vD s.I7.length to (E.take k) s.I7;have Ny:(itR (dc s.I7 s.I7.length to (E.take k))).length=s.I7.length:=by rw[ke,Pb]
 by_cases Mz:k<E.length
 ·obtain⟨e,he⟩:=ae Mz;obtain⟨i1,i2⟩:=hin e (c9 he);obtain⟨j,hj⟩:=j6 i1;have NP:j<(itR (dc s.I7 s.I7.length to (E.take k))).length:=by rw[Ny];omega
  obtain⟨x,hx⟩:=ae (l:=dc s.I7 s.I7.length to (E.take k)) (k:=j) (by rw[Pb];omega);have Nf:k<(E.map md).length:=by rw[UT];exact Mz
  have Nh:E.take (k+1)=E.take k++[e]:=by rw[B2,he];rfl
  have SQ:=BV s.I7.length to e (E.take k) s.I7;repeat' ((conv=>whnf);first|apply Wx|apply W6|apply oi|apply fi|intro h|refine⟨k,rfl,Nf,?_⟩|refine⟨md e,(ab he),?_⟩|refine⟨j,hj,NP,?_⟩|refine⟨_,(DK hx),?_⟩|exact Y5|refine e_ rfl ?_)
  all_goals(conv=>whnf)
  all_goals(refine⟨⟨k+1,o_⟩,?_,KD⟩)
  repeat' ((conv=>whnf);first|apply Wx|apply W6|apply oi|apply fi|intro h|exact Y8|refine e_ rfl ?_)
  all_goals(refine⟨?_⟩;(try rw[Ny]);rw[Nh,SQ])
  ·rw[c7 aad,hj,vK hx];rfl
  ·rw[b8 aad]
 ·repeat' ((conv=>whnf);first|apply Wx|apply W6|apply oi|apply fi|intro h|exact Y5|refine e_ rfl ?_)
  all_goals(refine⟨?_⟩;rw[gt o_])
abbrev bS (S:List (Sc×List Int)):List Nat:=S.map fun y=>y.1.f
theorem tM (C:Cx)(hC:CxOk C)(s:Gs)(d:Int)(S:List (Sc×List Int))(g:Nat)(h1:dL s)(hS:1<=S.length/\S.length<=100)(hg:g<C.p.length):
  bA prog 260 [gU,tI .i64 (g:Int)] (ic (0,0,1) (0,0,2) C s d (scH S)) (tB (cL C (bS S) g s.I7.length)) (ic (0,0,1) (0,0,2) C s d (scH S)):=by
 refine aA hΓ aG func260 rfl d_ rfl rfl ?_;unfold dL at h1;have Mw:=ke s.I7;have N8:(scH S).length=S.length:=s_;have Pb:(C.p.map LP.tr).length=C.p.length:=s_;have hE:=cT C.p (g:Int) (by have:=hC.len;omega);have Ny:(bS S).length=S.length:=s_;have QJ:=hC.len;have hin:=hC.inl
 have NL:-1<=ct C.p (g:Int)/\ct C.p (g:Int)<=60:=by
  rw[cw]
  cases he:endAt C.p g with|none=>simp[cM]|some e=>have:=aN he;obtain⟨_,_,_,_,_,h⟩:=this;simp only[cM];omega
 unfold cL;rw[Ny]
 generalize ct C.p (g:Int)=eg at *
 have Nl:IntKind.i64.wrap (((scH S).length:Int)-1)=(S.length:Int)-1:=by rw[N8,c6 _ o_]
 have NT:IntKind.i64.wrap (eg-(g:Int))=eg-g:=by rw[c6 _ o_]
 repeat' ((conv=>whnf);first|apply Wx|apply W6|apply oi|apply fi|intro h|refine cl hE ?_|exact Y7|refine e_ rfl ?_)
 all_goals try(refine⟨congrArg Tr.bool ?_⟩;(try rw[Nl]at h);(try rw[NT]at h);(try rw[Mw]at h);simp only[j5]at h;symm;simp only[A8,p9];omega)
 conv=>whnf
 refine⟨{k:Nat//k<=S.length/\((bS S).take k).contains g=false},fun q=>⟨[(0,gU),(1,tI .i64 (g:Int)),(5,tI .i64 (q.1:Int))],(ic (0,0,1) (0,0,2) C s d (scH S)).map (fun p=>(p.1,some p.2)),[0]⟩,fun q=>S.length-q.1,⟨0,o_,s_⟩,?_,?_⟩
 ·exact Z2
 rename_i ha hb;rw[Nl]at ha;rw[NT]at hb;rw[Mw]at h;simp only[p9]at ha hb h
 have Ng:∀c:Bool,(decide ((S.length:Int)<=C.b.Md)&&(decide (eg-(g:Int)<=9)&&(decide (s.I7.length<200)&&!c)))= !c:=fun c=>by
  rw[q9 o_,q9 o_,q9 o_];rfl
 rw[Ng];clear Ng;intro⟨k,hk,MR⟩;dsimp only at hk MR⊢;by_cases Mz:k<S.length
 ·obtain⟨y,hy⟩:=ae Mz;have TF:(scH S)[k]?=some (kQ y.1 y.2):=by simp[hy]
  have Nf:k<(scH S).length:=o_;have Nh:(bS S).take (k+1)=(bS S).take k++[y.1.f]:=by rw[B2,p6,hy];rfl
  have Pz:y.1.f∈bS S:=n7.2 ⟨y,c9 hy,rfl⟩;repeat' ((conv=>whnf);first|apply Wx|apply W6|apply oi|apply fi|intro h|refine⟨k,rfl,Nf,?_⟩|refine⟨_,TF,?_⟩|exact Y5|refine e_ rfl ?_)
  ·refine⟨congrArg Tr.bool ?_⟩;have e:y.1.f=g:=(by have:=B7 h;omega);rw[<-e,D9.2 Pz];rfl
  ·conv=>whnf
   refine⟨⟨k+1,o_,?_⟩,?_,KD⟩
   ·have e:g≠y.1.f:=fun e=>by rw[<-e]at h;simp at h
    rw[Nh,List.contains_eq_any_beq,List.any_append,<-List.contains_eq_any_beq,MR];simp[e]
   exact Z6
 ·repeat' ((conv=>whnf);first|apply Wx|apply W6|apply oi|apply fi|intro h|exact Y5|refine e_ rfl ?_)
  rw[gt o_]at MR;exact⟨by rw[MR];rfl⟩
def yE (C:Cx)(l:List LZ):Prop:=∀t∈l,t.J1=7->∃f,findN C.p 0 t.J8=some f/\(argsN C.p f:Int)=t.Mc
structure Rm (C:Cx) (lev n:Nat) (S:Nat) (s:Gs) (d:Int):Prop where
 room:s.I7.length+n*dh lev<=68719476736
 depth:((lev+S:Nat):Int)=C.b.Md
 low:0<=d
 high:d+(n:Int)+100*(lev:Int)<=1900
def Lv (C:Cx)(lev:Nat):Prop:=∀(e:Ex) (x:Sc) (S:List (Sc×List Int)) (lv:List Int) (k p:Nat) (ln:LP) (s:Gs) (d:Int),e.ok->ScOk C x (bS (S++[(x,lv)]))->C.p[k]?=some ln->kr ln.K9 p e->yE C ln.K9->Rm C lev e.toks.length S.length s d->
 bA prog 244 [gU,tI .i64 (k:Int),tI .i64 (p:Int)] (ic (0,0,1) (0,0,2) C s d (scH (S++[(x,lv)]))) (tI .i64 ((p+e.toks.length:Nat):Int)) (ic (1,0,1) (1,0,2) C (ew C (cK C lev) x (bS (S++[(x,lv)])) k e d s) (d+1) (scH (S++[(x,lv)])))
def Gx (C:Cx)(lev:Nat):Prop:=∀(x:Sc) (S:List (Sc×List Int)) (lv:List Int) (k g:Nat) (s:Gs) (d:Int),ScOk C x (bS (S++[(x,lv)]))->k<C.p.length->bT C g->cL C (bS (S++[(x,lv)])) g s.I7.length=true->Rm C lev 1 S.length s (d-argsN C.p g)->
 bA prog 261 [gU,tI .i64 (g:Int),tI .i64 (k:Int),scV x] (ic (0,0,1) (0,0,2) C s d (scH (S++[(x,lv)]))) (.tup []) (ic (1,0,1) (1,0,2) C (cK C lev x (bS (S++[(x,lv)])) k g d s) (d-argsN C.p g+1) (scH (S++[(x,lv)])))
theorem pA {α:Type}[BEq α](l:List α)(s:α):-1<=dG l s/\dG l s<=l.length:=by
 unfold dG
 cases h:iH l 0 s with|none=>simp only[cM];omega|some k=>have:=nA h;simp only[cM];omega
theorem wj {C:Cx}(hC:CxOk C){k:Nat}{ln:LP}(hk:C.p[k]?=some ln):jl ln.K9/\ln.J8.length<=1048576:=by obtain⟨h1,_,_,_,h5⟩:=fM (bg hC.small (c9 hk));exact⟨fun t ht=>by have:=h5 t ht;omega,h1⟩
theorem BT (p:List LP)(g:Nat):kL p g<=g:=by unfold kL;have h1:=F8 (fun x:LP=>x.J1==0) (p.take g);have h2:=List.length_take_le g p;omega
theorem CG {p:List LP}{i:Nat}{x:LP}(hx:p[i]?=some x):kL p (i+1)=kL p i+if x.J1=0 then 1 else 0:=by
 unfold kL;rw[B2,hx,List.filter_append,c8];by_cases h:x.J1=0
 ·simp[h]
 ·simp[h]
theorem V98{p:Prop}(h:p:=by
 repeat' ((conv=>whnf);first|apply Wx|apply W6|refine cg g1 ?_|apply oi|apply fi|intro h|exact Y9|refine e_ rfl ?_)):p:=h
theorem Cj {C:Cx}(hC:CxOk C){lev:Nat}(hR:Gx C lev):∀(n:Nat) (e:Ex),e.toks.length<=n->∀(x:Sc) (S:List (Sc×List Int)) (lv:List Int) (k p:Nat) (ln:LP) (s:Gs) (d:Int),e.ok->ScOk C x (bS (S++[(x,lv)]))->C.p[k]?=some ln->kr ln.K9 p e->yE C ln.K9->Rm C lev e.toks.length S.length s d->
  bA prog 244 [gU,tI .i64 (k:Int),tI .i64 (p:Int)] (ic (0,0,1) (0,0,2) C s d (scH (S++[(x,lv)]))) (tI .i64 ((p+e.toks.length:Nat):Int)) (ic (1,0,1) (1,0,2) C (ew C (cK C lev) x (bS (S++[(x,lv)])) k e d s) (d+1) (scH (S++[(x,lv)])))
 | 0,e,hn,_,_,_,_,_,_,_,_,_,_,_,_,_,_=>by have:=e.toks_pos;omega
 | n+1,.node t es,hn,x,S,lv,k,p,ln,s,d,ho,hx,hk,hs,hca,hr=>by
  refine aA hΓ aG func244 rfl d_ rfl rfl ?_;obtain⟨PD,N5⟩:=wj hC hk;have MZ:=nQ hs;obtain⟨ht,Ui⟩:=oR hs;obtain⟨e1,e2⟩:=xY ho.1;have M6:es.length=ar t:=ho.2.1;have hA:=ll t (PD t (c9 ht));rw[e1,<-M6]at hA;have QJ:=hC.len;have N3:=(hC.line _ _ hk).2.2.2.1;have N8:(scH (S++[(x,lv)])).length=S.length+1:=s_;have MJ:(scH (S++[(x,lv)]))[S.length]?=some (kQ x lv):=s_;have Mz:S.length<(scH (S++[(x,lv)])).length:=o_;have NO:=hr.room;have M8:=hr.depth;have hr3:=hr.low;have Yv:=hr.high;have hin:=hC.inl;have hw:IntKind.i64.wrap (((scH (S++[(x,lv)])).length:Int)-1)=(S.length:Int):=by rw[N8,c6 _ o_];omega
  have htp:=Bo lev;rw[Ex.toks,d5]at hn MZ NO Yv;rw[ew];repeat' ((conv=>whnf);first|apply Wx|apply W6|apply oi|apply fi|intro h|refine⟨S.length,hw,Mz,?_⟩|refine⟨_,MJ,?_⟩|refine⟨k,ln.tr,rfl,ab hk,?_⟩|refine⟨p,t.tr,rfl,ab ht,?_⟩|refine cl hA ?_|exact Y7|refine e_ rfl ?_)
  conv=>whnf
  refine⟨{j:Nat//j<=es.length},fun q=>⟨[(0,gU),(1,tI .i64 (k:Int)),(2,tI .i64 ((p+1+(aq (es.take q.1)).length:Nat):Int)),(9,tI .i64 ((es.length-q.1:Nat):Int)),(7,.r (.c (.ptr (7,0,0) 0))),(8,.r (.c (.ptr (8,0,0) 0)))],
   [(
    (0,0,0),some (pk C (cW C (cK C lev) x (bS (S++[(x,lv)])) k (es.take q.1) d s) (d+q.1) (7,0,1) (7,0,2))),((7,0,1),some (.dar 7 (itR (cW C (cK C lev) x (bS (S++[(x,lv)])) k (es.take q.1) d s).I7) none)),((7,0,2),some (.dar 6 (scH (S++[(x,lv)])) none)),
    ((7,0,0),some (.box [.t (.int .i64 (x.f:Int)),.t (.lst 1 (x.J0.map aa)),.t (.lst 1 (x.J9.map ao)),.t (.int .i64 x.first),.t (.bool x.L2),.opq])),((8,0,0),some (.box (t.tr.map .t)))],[8,7,0]⟩,fun q=>es.length-q.1,⟨0,o_⟩,?_,?_⟩
  ·repeat' ((conv=>whnf);first|apply Wx|apply W6|apply oi|apply fi|intro h|exact Y7|refine e_ rfl ?_)
   ·exact⟨congrArg (Tr.int _) (by rw[c6 _ o_];simp[aq])⟩
   ·exact⟨congrArg (Tr.int _) s_⟩
  intro⟨j,hj⟩;dsimp only at hj⊢;have Vg:=oP (C:=C) (x:=x) (ins:=bS (S++[(x,lv)])) (line:=k) (lev:=lev) (fun g d s hg hr=>ia hC lev k g d s hx hg hr) (es.take j) d s;have U6:=Vg.le;have ZD:=gu es j;obtain⟨s1,SS⟩:∃s1,cW C (cK C lev) x (bS (S++[(x,lv)])) k (es.take j) d s=s1:=⟨_,rfl⟩;rw[SS]at Vg U6⊢;by_cases Yp:j<es.length
  ·obtain⟨a,ha⟩:=ae Yp;have hta:=lX ha;have YY:=gu es (j+1);have M5:=oY ha
   have hjt:j<=(aq (es.take j)).length:=by
    have:∀(l:List Ex),l.length<=(aq l).length:=by
     intro l
     induction l with
     | nil=>simp
     | cons b l ih=>have:=b.toks_pos;rw[aq,c8,d5];omega
    have h2:=this (es.take j);rw[l6]at h2;omega
   have hm:=l9 (dh lev) (show(aq (es.take j)).length+a.toks.length<=(aq es).length+1 by omega);rw[p8]at hm;have hI:=Cj hC hR n a o_ x S lv k (p+1+(aq (es.take j)).length) ln s1 (d+j) (rX ho.2.2 ha) hx hk (su Ui ha) hca ⟨o_,M8,o_,o_⟩;have Nh:=uz C (cK C lev) x (bS (S++[(x,lv)])) k d s ha;rw[SS]at Nh;repeat' ((conv=>whnf);first|apply Wx|apply W6|apply oi|apply fi|intro h|exact Y5|refine e_ rfl ?_)
   refine cg (hI) ?_;repeat' ((conv=>whnf);first|apply Wx|apply W6|apply oi|apply fi|intro h|exact Y7|refine e_ rfl ?_)
   conv=>whnf
   refine⟨⟨j+1,o_⟩,?_,KD⟩;repeat' ((conv=>whnf);first|apply Wx|apply W6|apply oi|apply fi|intro h|exact Y7|refine e_ rfl ?_)
   all_goals try exact⟨by dsimp only;rw[Nh]⟩
   all_goals try exact Q17
  ·have SX:j=es.length:=o_;subst SX;rw[G1]at SS U6 ZD⊢;have hT:(Ex.node t es).toks.length=(aq es).length+1:=(by rw[Ex.toks,d5]);rw[SS]
   have Nj:s1.I7.length+dh lev<=68719476736:=by have:((aq es).length+1)*dh lev=(aq es).length*dh lev+dh lev:=(by rw[p8];omega);omega
   have NH:x.J0.length<=100:=by have:=hx.J0;rw[show(bS (S++[(x,lv)])).length=S.length+1 by simp]at this;omega
   have Pw:dL s1:=(by unfold dL;omega);obtain⟨k1,k2,k3⟩:=IU ho.1;have Wi:=PD t (c9 ht)
   have T7:0<=x.first/\x.first<=1000:=by have:=hx.first;rw[show(bS (S++[(x,lv)])).length=S.length+1 by simp]at this;omega
   obtain⟨ee,_,_,_,_,Oh⟩:=hx.endE hC;rcases Fe ho.1 with N1|hk1|QK|Ur
   ·have g1:=kx C s1 (d+es.length) (scH (S++[(x,lv)])) t.Mc k x.J0 Pw NH o_;have hz:=k1 (.inl N1);unfold lZ;rw[c7 N1];exact V98
   ·have g1:=AL C hC s1 (d+es.length) (scH (S++[(x,lv)])) x (dG x.J9 t.J8) k Pw NH o_ T7 (by have:=pA x.J9 t.J8;omega);have gI:=fI x.J9 t.J8 o_;have hz:=k1 (.inr hk1);unfold lZ;rw[b8 o_,c7 hk1]
    generalize dG x.J9 t.J8=ix at *
    repeat' ((conv=>whnf);first|apply Wx|apply W6|refine cg g1 ?_|apply oi|apply fi|intro h|refine cl gI ?_|exact Y9|refine e_ rfl ?_)
   ·obtain⟨f,hf,UF⟩:=hca t (c9 ht) QK;obtain⟨MN,y,hy,Ow,_⟩:=gK hf;have VD:bT C f:=⟨y,hy,Ow⟩;have QQ:=k2 QK;have gF:=dJ C.p t.J8 o_;rw[show lP C.p t.J8=(f:Int) from bQ hf]at gF;have g1:=tM C hC s1 (d+es.length) (S++[(x,lv)]) f Pw aab MN;unfold lZ;rw[b8 o_,b8 o_,c7 QK,hf];dsimp only
    cases SP:cL C (bS (S++[(x,lv)])) f s1.I7.length with
    | true=>
     have g2:=hR x S lv k f s1 (d+es.length) hx (aH hk) VD SP ⟨o_,M8,o_,o_⟩;rw[SP]at g1;rw[c7 rfl]
     repeat' ((conv=>whnf);first|apply Wx|apply W6|refine cg g1 ?_|refine cg g2 ?_|apply oi|apply fi|intro h|refine cl gF ?_|exact Y9|refine e_ rfl ?_)
    | false=>
     rw[SP]at g1;rw[b8 s_];have g2:=bN C s1 (d+es.length) (scH (S++[(x,lv)])) 12 (kL C.p f) k x.J0 Pw NH;repeat' ((conv=>whnf);first|apply Wx|apply W6|refine cg g1 ?_|apply oi|apply fi|intro h|refine cl gF ?_|exact Y10|refine e_ rfl ?_)
     conv=>whnf
     refine⟨{i:Nat//i<=f},fun q=>⟨[(0,gU),(1,tI .i64 (k:Int)),(2,tI .i64 ((p+1+(aq es).length:Nat):Int)),(10,tI .i64 (f:Int)),(11,tI .i64 (kL C.p q.1:Int)),(12,tI .i64 (q.1:Int)),(7,.r (.c (.ptr (7,0,0) 0))),(8,.r (.c (.ptr (8,0,0) 0)))],
      [(
       (0,0,0),some (pk C s1 (d+es.length) (7,0,1) (7,0,2))),((7,0,1),some (.dar 7 (itR s1.I7) none)),((7,0,2),some (.dar 6 (scH (S++[(x,lv)])) none)),
       ((7,0,0),some (.box [.t (.int .i64 (x.f:Int)),.t (.lst 1 (x.J0.map aa)),.t (.lst 1 (x.J9.map ao)),.t (.int .i64 x.first),.t (.bool x.L2),.opq])),((8,0,0),some (.box (t.tr.map .t)))],[8,7,0]⟩,fun q=>f-q.1,⟨0,o_⟩,?_,?_⟩
     ·exact Z2
     intro⟨i,hi⟩;dsimp only at hi⊢;have N2:=BT C.p i;by_cases hif:i<f
     ·obtain⟨z,hz⟩:=ae (l:=C.p) (k:=i) o_;have RZ:=CG hz;repeat' ((conv=>whnf);first|apply Wx|apply W6|apply oi|apply fi|intro h|refine⟨i,z.tr,rfl,ab hz,?_⟩|exact Y5|refine e_ rfl ?_)
      all_goals(conv=>whnf)
      all_goals(refine⟨⟨i+1,o_⟩,?_,KD⟩)
      repeat' ((conv=>whnf);first|apply Wx|apply W6|apply oi|apply fi|intro h|exact Y8|refine e_ rfl ?_)
      ·rw[c7 aad]at RZ;all_goals try exact Q17
      ·rw[b8 aad]at RZ;all_goals try exact Q17
     ·have Oc:i=f:=o_;subst Oc;repeat' ((conv=>whnf);first|apply Wx|apply W6|refine cg g2 ?_|apply oi|apply fi|intro h|exact Y11|refine e_ rfl ?_)
   ·have g1:=bN C s1 (d+es.length) (scH (S++[(x,lv)])) (5+t.J1-2) 0 k x.J0 Pw NH;have X5:IntKind.i64.wrap (IntKind.i64.wrap (5+t.J1)-2)=5+t.J1-2:=(by simp(disch:=omega)only[c6]);rw[<-X5]at g1;have hz:=k3 Ur.1 Ur.2;unfold lZ;rw[b8 o_,b8 o_,b8 o_,<-X5];exact V98
def zx (C:Cx)(lev:Nat):Prop:=∀(x:Sc) (S:List (Sc×List Int)) (s:Gs) (d:Int),ScOk C x (bS (S++[(x,[])]))->s.I7.length+(kE C.p x.f-x.f)*(20*dh lev+3)<=68719476736->((lev+S.length:Nat):Int)=C.b.Md->0<=d->d+30+100*(lev:Int)<=1900->
 bA prog 198 [gU] (ic (0,0,1) (0,0,2) C s d (scH (S++[(x,[])]))) (.tup []) (ic (1,0,1) (1,0,2) C (bq C (cK C lev) x (bS (S++[(x,[])])) d s).1 d (scH (S++[(x,(bq C (cK C lev) x (bS (S++[(x,[])])) d s).2)])))
theorem jx (S:List (Sc×List Int))(y:Sc×List Int):bS (S++[y])=bS S++[y.1.f]:=s_
theorem IX {C:Cx}(hC:CxOk C){lev:Nat}(hL:zx C lev):Gx C (lev+1):=by
 intro x S lv k g s d hx hk hg SP hr;refine aA hΓ aG func261 rfl d_ rfl rfl ?_;obtain⟨r1,r2,r3,r4⟩:=fN SP;obtain⟨y,hy,Ow⟩:=hg;have QJ:=hC.len;have hin:=hC.inl;have NA:=dv hC ⟨y,hy,Ow⟩;have hA:argsN C.p g=y.L5.length:=by rw[argsN,hy]
 have Yk:=iM C.p (g:Int) o_ (fun z hz=>bg hC.small hz);have Nx:=wu hC hx;have Ny:(bS (S++[(x,lv)])).length=S.length+1:=s_;rw[Ny]at Nx r1;have Qa:x.J9.length<=8:=by obtain⟨_,_,_,_,_,h⟩:=hx.endE hC;exact h
 have T7:=hx.first;rw[Ny]at T7;have ha:=hC.args;have NH:=hx.J0;rw[Ny]at NH;obtain⟨q1,q2,q3,q4⟩:=hr;have MN:=bZ (x.J0++[(k:Int)]);have SZ:(y.L5.map ao).length=y.L5.length:=s_;have W0:(x.J9.map ao).length=x.J9.length:=s_;have MV:(x.J0.map aa).length=x.J0.length:=s_;have e1:IntKind.i64.wrap ((x.J9.length:Int)-C.args)=(x.J9.length:Int)-C.args:=by rw[c6 _ o_]
 have e2:IntKind.i64.wrap (x.first+(x.J9.length:Int))=x.first+x.J9.length:=by rw[c6 _ o_]
 repeat' ((conv=>whnf);first|(with_reducible apply W1;fail_if_success (with_reducible show Wo _ _ _ _ (Code.seq (Code.region 3 _ _) _) _ _))|(with_reducible first|apply W2|apply W3|apply W4|apply W5|apply W6|apply W7|apply W8|apply W9)|apply aB|apply oi|apply fi|intro h|refine⟨g,y.tr,rfl,ab hy,?_⟩|exact Y7|refine e_ rfl ?_)
 refine nw Unit (fun _=>⟨[(0,gU),(1,tI .i64 (g:Int)),(2,tI .i64 (k:Int)),(7,.r (.c (.ptr (7,0,0) 0))),(8,tI .i64 (argsN C.p g:Int)),(9,tI .i64 (ck C x))],
  [(
   (0,0,0),some (pk C s d (0,0,1) (0,0,2))),((0,0,1),some (.dar 7 (itR s.I7) none)),((0,0,2),some (.dar 6 (scH (S++[(x,lv)])) none)),
   ((7,0,0),some (.box [.t (.int .i64 (x.f:Int)),.t (.lst 1 (x.J0.map aa)),.t (.lst 1 (x.J9.map ao)),.t (.int .i64 x.first),.t (.bool x.L2),.opq]))],[7,0]⟩) ?_ ?_
 ·repeat' ((conv=>whnf);first|apply Wx|apply W6|apply oi|apply fi|intro h|exact Y7|refine e_ rfl ?_)
  all_goals(conv=>whnf)
  all_goals(refine⟨(),?_⟩)
  repeat' ((conv=>whnf);first|apply Wx|apply W6|apply oi|apply fi|intro h|exact Y7|refine e_ rfl ?_)
  all_goals(refine⟨congrArg (Tr.int _) ?_⟩)
  all_goals try(rw[SZ,hA];done)
  all_goals(unfold ck;rw[W0])
  all_goals first|(rw[c7 aaj];exact e1)|(rw[b8 (by simp_all)];exact e2)
 intro _;repeat' ((conv=>whnf);first|(with_reducible apply W1;fail_if_success (with_reducible show Wo _ _ _ _ (Code.region 7 _ _) _ _))|(with_reducible first|apply W2|apply W3|apply W4|apply W5|apply W6|apply W7|apply W8|apply W9)|apply aB|apply oi|apply fi|intro h|refine cl Yk ?_|exact Y7|refine e_ rfl ?_)
 all_goals try exact Q1
 conv=>whnf
 refine fO ⟨[(0,gU),(1,tI .i64 (g:Int)),(2,tI .i64 (k:Int)),(7,.r (.c (.ptr (7,0,0) 0))),(8,tI .i64 (argsN C.p g:Int)),(9,tI .i64 (ck C x)),(10,.r (.c (.ptr (10,0,0) 0)))],
  [(
   (0,0,0),some (pk C s d (0,0,1) (0,0,2))),((0,0,1),some (.dar 7 (itR s.I7) none)),((0,0,2),some (.dar 6 (scH (S++[(x,lv)])) none)),
   ((7,0,0),some (.box [.t (.int .i64 (x.f:Int)),.t (.lst 1 (x.J0.map aa)),.t (.lst 1 (x.J9.map ao)),.t (.int .i64 x.first),.t (.bool x.L2),.opq])),
   ((10,0,0),some (.box [.t (.int .i64 (g:Int)),.t (.lst 1 ((x.J0++[(k:Int)]).map aa)),.t (.lst 1 ((localsOf C.p (g:Int)).map ao)),.t (.int .i64 (ck C x)),.t (.bool false),.nils 1]))],_⟩ ?_ ?_ rfl ?_
 ·exact⟨.inl rfl,.inl rfl,.inl rfl,.inl rfl,.inl rfl,.inl rfl,.inl rfl,trivial⟩
 ·refine⟨.inr (.inl rfl),.inr (.inl rfl),.inr (.inl rfl),.inr (.inl rfl),.inr (.inr (.inl ⟨_,_,rfl,rfl,.inl rfl,.inr (.inr ⟨_,rfl,?_,?_⟩),.inr (.inr ⟨_,rfl,rfl,?_⟩),.inl rfl,.inl rfl,.inr (.inl ⟨_,_,rfl,rfl⟩),trivial⟩)),trivial⟩
  ·show Tr.lst 1 _=Tr.lst 1 ([]++List.map aa x.J0++[[Tr.int .i64 (k:Int)]]);simp[aa]
  all_goals(intro q hq;simp only[AC.ids,d6,l4,or_false]at hq;subst hq;rfl)
 have Oh:((localsOf C.p (g:Int)).map ao).length=(localsOf C.p (g:Int)).length:=s_;have em:IntKind.i64.wrap (ck C x+(((localsOf C.p (g:Int)).map ao).length:Int))=ck C x+((localsOf C.p (g:Int)).length:Int):=by rw[Oh,c6 _ o_]
 obtain⟨s0,PZ⟩:∃s0:Gs,(⟨s.I7,max s.J3 (ck C x+(localsOf C.p (g:Int)).length),s.start⟩:Gs)=s0:=⟨_,rfl⟩;have z1:s.I7=s0.I7:=by rw[<-PZ]
 have z2:max s.J3 (ck C x+(localsOf C.p (g:Int)).length)=s0.J3:=by rw[<-PZ]
 have z3:s.start=s0.start:=by rw[<-PZ]
 obtain⟨Y,hY⟩:∃Y,cj C x k g=Y:=⟨_,rfl⟩;obtain⟨T1,Xg⟩:∃T1,cE C (cj C x k g) x.J0 k (argsN C.p g) d s0=T1:=⟨_,rfl⟩;repeat' ((conv=>whnf);first|apply Wx|apply W6|apply oi|apply fi|intro h|exact Y7|refine e_ rfl ?_)
 conv=>whnf
 refine⟨{q:Nat×Gs//q.1<=argsN C.p g/\cE C (cj C x k g) x.J0 k q.1 (d-((argsN C.p g-q.1:Nat):Int)) q.2=T1/\q.2.I7.length<=300-q.1},fun q=>⟨[(0,gU),(1,tI .i64 (g:Int)),(2,tI .i64 (k:Int)),(7,.r (.c (.ptr (7,0,0) 0))),(8,tI .i64 (argsN C.p g:Int)),(10,.r (.c (.ptr (10,0,0) 0))),(11,tI .i64 ((q.1.1:Int)-1))],
  [(
   (0,0,0),some (pk C q.1.2 (d-((argsN C.p g-q.1.1:Nat):Int)) (7,0,1) (7,0,2))),((7,0,1),some (.dar 7 (itR q.1.2.I7) none)),((7,0,2),some (.dar 6 (scH (S++[(x,lv)])) none)),
   ((7,0,0),some (.box [.t (.int .i64 (x.f:Int)),.t (.lst 1 (x.J0.map aa)),.t (.lst 1 (x.J9.map ao)),.t (.int .i64 x.first),.t (.bool x.L2),.opq])),
   ((10,0,0),some (.box [.t (.int .i64 (g:Int)),.t (.lst 1 ((x.J0++[(k:Int)]).map aa)),.t (.lst 1 ((localsOf C.p (g:Int)).map ao)),.t (.int .i64 (ck C x)),.t (.bool false),.nils 1]))],[10,7,0]⟩,fun q=>q.1.1,⟨(argsN C.p g,s0),g_,by rw[<-Xg];simp,by dsimp only;rw[<-z1];omega⟩,?_,?_⟩
 ·repeat' ((conv=>whnf);first|apply Wx|apply W6|apply oi|apply fi|intro h|exact Y7|refine e_ rfl ?_)
  all_goals try exact⟨by rw[z1]⟩
  all_goals try exact⟨by rw[z3]⟩
  all_goals try exact⟨congrArg itR z1⟩
  all_goals try exact⟨congrArg (Tr.int _) (by rw[em];exact z2)⟩
  all_goals try exact Q17
 intro⟨⟨m,t⟩,hm,ht,Wi⟩;dsimp only at hm ht Wi⊢
 cases m with
 | succ m=>
  have g1:=lc C hC t (d-((argsN C.p g-(m+1):Nat):Int)) (scH (S++[(x,lv)])) (cj C x k g) m k x.J0 aar o_ o_ (by show 0<=ck C x/\ck C x<=1000;omega) o_;rw[cE]at ht;rw[show((m+1:Nat):Int)-1=(m:Int) by omega];repeat' ((conv=>whnf);first|apply Wx|apply W6|refine cg g1 ?_|apply oi|apply fi|intro h|exact Y5|refine e_ rfl ?_)
  conv=>whnf
  refine⟨⟨(m,fP C (cj C x k g) t (d-((argsN C.p g-(m+1):Nat):Int)) m k x.J0),g_,by rw[<-ht];dsimp only;congr 1;omega,by dsimp only;simp only[fP,aC,c8,d5,i8];omega⟩,?_,KD⟩
  exact Z6
 | zero=>
  have e0:t=T1:=by rw[<-ht];rfl
  subst e0;have ed:d-((argsN C.p g-0:Nat):Int)=d-argsN C.p g:=by rw[y0]
  rw[ed];obtain⟨T2,Xf⟩:∃T2,dD C (cj C x k g) x.J0 k (d-argsN C.p g) ((localsOf C.p (g:Int)).length-argsN C.p g) (argsN C.p g) t=T2:=⟨_,rfl⟩;repeat' ((conv=>whnf);first|apply Wx|apply W6|apply oi|apply fi|intro h|exact Y5|refine e_ rfl ?_)
  conv=>whnf
  refine⟨{q:Nat×Gs//q.1<=(localsOf C.p (g:Int)).length/\dD C (cj C x k g) x.J0 k (d-argsN C.p g) ((localsOf C.p (g:Int)).length-q.1) q.1 q.2=T2/\q.2.I7.length<=400-2*((localsOf C.p (g:Int)).length-q.1)},fun q=>⟨[(0,gU),(1,tI .i64 (g:Int)),(2,tI .i64 (k:Int)),(7,.r (.c (.ptr (7,0,0) 0))),(10,.r (.c (.ptr (10,0,0) 0))),(12,tI .i64 (q.1.1:Int))],
   [(
    (0,0,0),some (pk C q.1.2 (d-argsN C.p g) (7,0,1) (7,0,2))),((7,0,1),some (.dar 7 (itR q.1.2.I7) none)),((7,0,2),some (.dar 6 (scH (S++[(x,lv)])) none)),
    ((7,0,0),some (.box [.t (.int .i64 (x.f:Int)),.t (.lst 1 (x.J0.map aa)),.t (.lst 1 (x.J9.map ao)),.t (.int .i64 x.first),.t (.bool x.L2),.opq])),
    ((10,0,0),some (.box [.t (.int .i64 (g:Int)),.t (.lst 1 ((x.J0++[(k:Int)]).map aa)),.t (.lst 1 ((localsOf C.p (g:Int)).map ao)),.t (.int .i64 (ck C x)),.t (.bool false),.nils 1]))],[10,7,0]⟩,fun q=>(localsOf C.p (g:Int)).length-q.1.1,⟨(argsN C.p g,t),g_,Xf,g_⟩,?_,?_⟩
  ·exact Z2
  intro⟨⟨i,u⟩,hi,hu,Ug⟩;dsimp only at hi hu Ug⊢;by_cases ZS:i<(localsOf C.p (g:Int)).length
  ·obtain⟨c,hc⟩:∃c,(localsOf C.p (g:Int)).length-i=c+1:=⟨(localsOf C.p (g:Int)).length-i-1,o_⟩;rw[hc,dD]at hu;have g1:=kx C u (d-argsN C.p g) (scH (S++[(x,lv)])) 0 k x.J0 aar o_ o_;have g2:=lc C hC (aC C u (d-argsN C.p g) 0 0 k x.J0) (d-argsN C.p g+1) (scH (S++[(x,lv)])) (cj C x k g) i k x.J0 aat o_ o_ (by show 0<=ck C x/\ck C x<=1000;omega) o_;repeat' ((conv=>whnf);first|apply Wx|apply W6|refine cg g1 ?_|refine cg g2 ?_|apply oi|apply fi|intro h|exact Y5|refine e_ rfl ?_)
   conv=>whnf
   refine⟨⟨(i+1,fP C (cj C x k g) (aC C u (d-argsN C.p g) 0 0 k x.J0) (d-argsN C.p g+1) i k x.J0),g_,by rw[<-hu];dsimp only;rw[show(localsOf C.p (g:Int)).length-(i+1)=c by omega],by dsimp only;simp only[fP,aC,c8,d5,i8];omega⟩,?_,KD⟩;exact Z6
  ·have Oc:i=(localsOf C.p (g:Int)).length:=o_;subst Oc;rw[w9,dD]at hu;subst hu;have NR:fU C x k g d s=u:=(by rw[fU,PZ,Xg,Xf]);repeat' ((conv=>whnf);first|(with_reducible apply W1;fail_if_success (with_reducible show Wo _ _ _ _ (Code.seq (Code.region 17 _ _) _) _ _))|(with_reducible first|apply W2|apply W3|apply W4|apply W5|apply W6|apply W7|apply W8|apply W9)|apply aB|apply oi|apply fi|intro h|exact Y5|refine e_ rfl ?_)
   obtain⟨v,hv⟩:∃v,cZ C x k (d-argsN C.p g) u=v:=⟨_,rfl⟩;have QI:v.I7.length<=500:=by rw[<-hv,cZ];split<;>first|(simp[aC];omega)|omega
   refine nw Unit (fun _=>⟨[(0,gU),(1,tI .i64 (g:Int)),(2,tI .i64 (k:Int)),(7,.r (.c (.ptr (7,0,0) 0))),(10,.r (.c (.ptr (10,0,0) 0)))],
    [(
     (0,0,0),some (pk C v (d-argsN C.p g) (7,0,1) (7,0,2))),((7,0,1),some (.dar 7 (itR v.I7) none)),((7,0,2),some (.dar 6 (scH (S++[(x,lv)])) none)),
     ((10,0,0),some (.box [.t (.int .i64 (g:Int)),.t (.lst 1 ((x.J0++[(k:Int)]).map aa)),.t (.lst 1 ((localsOf C.p (g:Int)).map ao)),.t (.int .i64 (ck C x)),.t (.bool false),.own (10,0,1)])),((10,0,1),some (.arr true 1 []))],[10,7,0]⟩) ?_ ?_
   ·have g3:=bN C u (d-argsN C.p g) (scH (S++[(x,lv)])) 15 0 k x.J0 aar o_;unfold cZ at hv
    cases Na:u.start with
    | true=>
     rw[c7 Na]at hv;subst hv;repeat' ((conv=>whnf);first|apply Wx|apply W6|refine cg g3 ?_|apply oi|apply fi|intro h|exact Y7|refine e_ rfl ?_)
     ·conv=>whnf
      refine⟨(),?_⟩;exact Z2
     ·exfalso;simp_all
    | false=>
     rw[b8 (by simp[Na])]at hv;subst hv;repeat' ((conv=>whnf);first|apply Wx|apply W6|refine cg g3 ?_|apply oi|apply fi|intro h|exact Y7|refine e_ rfl ?_)
     ·exfalso;simp_all
     ·conv=>whnf
      refine⟨(),?_⟩;exact Z2
   intro _;have S3:ScOk C (cj C x k g) (bS ((S++[(x,lv)])++[(cj C x k g,[])])):=(by rw[jx];exact kc hC hx k ⟨y,hy,Ow⟩);obtain⟨ye,ye1,ye2,ye3,ye4,_⟩:=S3.endE hC
   have XV:kE C.p (cj C x k g).f-(cj C x k g).f<=9:=by rw[ye4];have:ct C.p (g:Int)=(ye:Int):=(by rw[cw];exact bQ ye1);show ye-g<=9;omega
   have h3:=Cr (n:=lev) o_
   have Xs:=hL (cj C x k g) (S++[(x,lv)]) v (d-argsN C.p g) S3 (by
    have:=A4 XV (show 20*dh lev+3<=20*8679837+3 by omega)
    omega) (by simp only[c8,d5,i8];omega) q3 o_
   have N8:(scH (S++[(x,lv)])).length=S.length+1:=s_;obtain⟨r,hr⟩:∃r,bq C (cK C lev) (cj C x k g) (bS ((S++[(x,lv)])++[(cj C x k g,[])])) (d-argsN C.p g) v=r:=⟨_,rfl⟩;rw[hr]at Xs;have Ua:(scH ((S++[(x,lv)])++[(cj C x k g,r.2)])).length=S.length+2:=s_;have NT:IntKind.i64.wrap (((scH ((S++[(x,lv)])++[(cj C x k g,r.2)])).length:Int)-1)=((S.length+1:Nat):Int):=(by rw[Ua,c6 _ o_];omega);have O8:S.length+1<(scH ((S++[(x,lv)])++[(cj C x k g,r.2)])).length:=o_;have RG:(scH ((S++[(x,lv)])++[(cj C x k g,r.2)]))[S.length+1]?=some (kQ (cj C x k g) r.2):=s_;have Wy:=bZ r.2;repeat' ((conv=>whnf);first|(with_reducible apply W1;fail_if_success (with_reducible show Wo _ _ _ _ (Code.region 23 _ _) _ _))|(with_reducible first|apply W2|apply W3|apply W4|apply W5|apply W6|apply W7|apply W8|apply W9)|apply aB|refine cg Xs ?_|apply oi|apply fi|intro h|refine⟨S.length+1,NT,O8,?_⟩|refine⟨_,RG,?_⟩|exact Y7|refine e_ rfl ?_)
   all_goals try exact⟨⟨by rw[N8];simp<;>omega,by rw[N8];simp<;>omega⟩⟩
   all_goals try exact⟨Wy⟩
   all_goals try exact⟨by simp[cj,aa]⟩
   conv=>whnf
   refine fO ⟨[(0,gU),(13,tI .i64 (d-argsN C.p g)),(14,.r (.c (.t (.lst 1 (r.2.map aa)))))],
    [((0,0,0),some (pk C r.1 (d-argsN C.p g) (127,0,1) (127,0,2))),((127,0,1),some (.dar 7 (itR r.1.I7) none)),((127,0,2),some (.dar 6 ((scH ((S++[(x,lv)])++[(cj C x k g,r.2)])).set (S.length+1) ((kQ (cj C x k g) r.2).set 5 (.t (.lst 1 (r.2.map aa))))) none))],_⟩ ?_ ?_ rfl ?_
   ·refine⟨.inl rfl,.inl rfl,.inr (.inl ⟨_,_,rfl,rfl,.inr (.inr ⟨_,rfl,rfl,?_⟩)⟩),trivial⟩;intro q hq;simp only[AC.ids,d6,l4,or_false]at hq;subst hq;rfl
   ·exact⟨.inr (.inl rfl),.inr (.inl rfl),.inr (.inr (.inr ⟨_,_,_,_,_,_,_,rfl,RG,d_,rfl,rfl,rfl⟩)),trivial⟩
   have Vw:((scH ((S++[(x,lv)])++[(cj C x k g,r.2)])).set (S.length+1) ((kQ (cj C x k g) r.2).set 5 (.t (.lst 1 (r.2.map aa))))).length=S.length+2:=(by rw[q7];exact Ua);have hw4:IntKind.i64.wrap ((((scH ((S++[(x,lv)])++[(cj C x k g,r.2)])).set (S.length+1) ((kQ (cj C x k g) r.2).set 5 (.t (.lst 1 (r.2.map aa))))).length:Int)-1)=((S.length+1:Nat):Int):=(by rw[Vw,c6 _ o_];omega);have T3:S.length+1<=((scH ((S++[(x,lv)])++[(cj C x k g,r.2)])).set (S.length+1) ((kQ (cj C x k g) r.2).set 5 (.t (.lst 1 (r.2.map aa))))).length:=o_
   have MM:((scH ((S++[(x,lv)])++[(cj C x k g,r.2)])).set (S.length+1) ((kQ (cj C x k g) r.2).set 5 (.t (.lst 1 (r.2.map aa))))).take (S.length+1)=scH (S++[(x,lv)]):=by rw[G4 (d8 _),<-y8,List.take_left' s_]
   have Nn:(r.2.map aa).length=r.2.length:=s_;have PY:=EY (lev:=lev) (rep:=cK C lev) (fun line g d s hg hr=>ia hC lev line g d s S3 hg hr) hC S3 (d-argsN C.p g) v;have TJ:=mv (lev:=lev) (rep:=cK C lev) (fun line g d s hg hr=>ia hC lev line g d s S3 hg hr) hC S3 (d-argsN C.p g) v;rw[hr]at PY TJ;have ZM:=TJ.le;obtain⟨WZ,PY⟩:=PY;have Sb:=A4 XV (show 20*dh lev+3<=20*8679837+3 by omega);repeat' ((conv=>whnf);first|apply Wx|apply W6|apply oi|apply fi|intro h|refine⟨S.length+1,hw4,T3,?_⟩|exact Y7|refine e_ rfl ?_)
   conv=>whnf
   refine⟨{i:Nat//i<=r.2.length},fun q=>⟨[(0,gU),(13,tI .i64 (d-argsN C.p g)),(14,.r (.c (.t (.lst 1 (r.2.map aa))))),(15,tI .i64 (q.1:Int))],
    [((0,0,0),some (pk C r.1 (d-argsN C.p g) (127,0,1) (127,0,2))),((127,0,1),some (.dar 7 (itR (patchL r.1.I7 r.1.I7.length (r.2.take q.1))) none)),((127,0,2),some (.dar 6 (scH (S++[(x,lv)])) none))],[127,0]⟩,fun q=>r.2.length-q.1,⟨0,o_⟩,?_,?_⟩
   ·repeat' ((conv=>whnf);first|apply Wx|apply W6|apply oi|apply fi|intro h|exact Y7|refine e_ rfl ?_)
    all_goals first|exact⟨T3⟩|exact⟨MM⟩
   intro⟨i,Z0⟩;dsimp only at Z0⊢;have Pb:=gT (r.1.I7.length:Int) (r.2.take i) r.1.I7;have Uk:(itR (patchL r.1.I7 r.1.I7.length (r.2.take i))).length=r.1.I7.length:=(by rw[ke,Pb]);by_cases Tb:i<r.2.length
   ·obtain⟨j,hj⟩:=ae Tb;obtain⟨j1,j2⟩:=PY j (c9 hj);obtain⟨jn,rfl⟩:=j6 j1;have NP:jn<(itR (patchL r.1.I7 r.1.I7.length (r.2.take i))).length:=(by rw[Uk];omega);obtain⟨it,Nt⟩:=ae (l:=patchL r.1.I7 r.1.I7.length (r.2.take i)) (k:=jn) (by rw[Pb];omega);have Nh:r.2.take (i+1)=r.2.take i++[(jn:Int)]:=(by rw[B2,hj];rfl);have SQ:=sy r.1.I7.length (jn:Int) (r.2.take i) r.1.I7;repeat' ((conv=>whnf);first|apply Wx|apply W6|apply oi|apply fi|intro h|refine⟨i,(aa jn),rfl,ab hj,?_⟩|refine⟨jn,rfl,NP,?_⟩|refine⟨_,(DK Nt),?_⟩|exact Y5|refine e_ rfl ?_)
    conv=>whnf
    refine⟨⟨i+1,o_⟩,?_,KD⟩;repeat' ((conv=>whnf);first|apply Wx|apply W6|apply oi|apply fi|intro h|exact Y8|refine e_ rfl ?_)
    all_goals(refine⟨?_⟩;rw[Uk];dsimp only;rw[Nh,SQ,vK Nt];rfl)
   ·have Oc:i=r.2.length:=o_;subst Oc;have PC:bq C (cK C lev) (cj C x k g) (bS (S++[(x,lv)])++[g]) (d-argsN C.p g) v=r:=(congrArg (fun l=>bq C (cK C lev) (cj C x k g) l (d-argsN C.p g) v) (by simp[cj])).trans hr
    have Ng:cK C (lev+1) x (bS (S++[(x,lv)])) k g d s=⟨patchL r.1.I7 r.1.I7.length r.2,r.1.J3,r.1.start⟩:=by show lV C (bq C (cK C lev)) x (bS (S++[(x,lv)])) k g d s=_;unfold lV;rw[NR,hv,PC]
    rw[Ng];rw[G1];repeat' ((conv=>whnf);first|apply Wx|apply W6|apply oi|apply fi|intro h|exact Y5|refine e_ rfl ?_)
    all_goals try exact⟨congrArg (fun z:Gs=>Tr.bool z.start) Ng.symm⟩
    all_goals try exact⟨congrArg (fun z:Gs=>itR z.I7) Ng.symm⟩
    all_goals try exact⟨congrArg (fun z:Gs=>Tr.int .i64 z.J3) Ng.symm⟩
    all_goals try exact Q17
end Go.Proofs.P
