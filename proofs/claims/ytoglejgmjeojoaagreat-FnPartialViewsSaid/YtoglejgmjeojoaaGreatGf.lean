import Derived.Test.YtoglejgmjeojoaaGreatGe
set_option maxRecDepth 100000
set_option maxHeartbeats 4000000
namespace Go.Proofs.P
open Go.Sim Tryz
theorem DF {p q:Prop}[Decidable p][Decidable q]{α:Type}{a b:α}{r:α}(hp:p):((if p/\q then a else b)=r)=((if q then a else b)=r):=by
 by_cases hq:q
 ·rw[c7 ⟨hp,hq⟩,c7 hq]
 ·rw[b8 (fun h=>hq h.2),b8 hq]
theorem Jt {l:List Mq}{j i:Nat}:(cG l (j:Int)==(i:Int))=(elseAt l j==some i):=by
 rw[cG,c7 o_,d6]
 cases elseAt l j with|none=>simp[cS]|some m=>rw[A0];simp[cS];omega
theorem V45{p:Prop}(h:p:=by
 repeat' ((conv=>whnf);first|apply Wx|apply W6|apply oi|apply fi|intro h|refine⟨i,y.tr,rfl,ab hy,?_⟩|refine⟨j,t.tr,rfl,ab ht,?_⟩|refine cl hI ?_|refine cl hF ?_|exact Y5|refine e_ rfl ?_)
 all_goals try(exfalso;(try simp_all[af]);(try omega);done)):p:=h
theorem V30{p:Prop}(h:p:=by
 repeat' ((conv=>whnf);first|apply Wx|apply W6|apply oi|apply fi|intro h|refine⟨i,y.tr,rfl,ab hy,?_⟩|refine⟨j,t.tr,rfl,ab ht,?_⟩|refine cl hI ?_|refine cl hF ?_|exact Y5|refine e_ rfl ?_)
 all_goals try exact Q2
 all_goals try exact Q6
 conv=>whnf
 refine⟨⟨j+1,o_,Ni⟩,?_,KD⟩
 exact Z5):p:=h
theorem Q23{p:Prop}(h:p:=by exfalso;simp only[p9,j6]at h;omega):p:=h
theorem vB (l:List Mq)(k e:Nat)(hl:l.length<=60)(hs:∀x∈l,az 1048576 x.tr)(he:endAt l k=some e):Sim.Spec prog 122 [tvP l,tvI k,tvI e] (rB (lY l k e)):=by
 refine bI hΓ aE func122 rfl d_ rfl ?_;have M0:(l.map Mq.tr).length=l.length:=s_;have hL:=jd l k o_ hs;obtain⟨YJ,YP⟩:=Gq (l:=l) (k:=(k:Int)) o_ hs;have Xs:=(aN he);obtain⟨x0,Qk,ho0,SB,Ob,NC⟩:=Xs;unfold lY
 generalize localsOf l (k:Int)=loc at *
 have OS:(loc.map aq).length=loc.length:=s_;by_cases h8:loc.length<=8
 ·rw[q7 h8,n7];obtain⟨R,hR⟩:∃R,mf l loc k e (e-(k+1)) (k+1) 0=R:=⟨_,rfl⟩;rw[hR];repeat' ((conv=>whnf);first|apply Wx|apply W6|apply oi|apply fi|intro h|refine cl hL ?_|exact Y5|refine e_ rfl ?_)
  conv=>whnf
  refine⟨{q:Nat×List Nat//k<q.1/\q.1<=e/\StkOk l e q.1 q.2/\q.2.length<=4/\mf l loc k e (e-q.1) q.1 q.2.length=R},fun q=>⟨[(0,vP l),(1,tI .i64 (k:Int)),(2,tI .i64 (e:Int)),(7,.r (.c (.own (7,0,0)))),(8,tI .i64 ((q.1.2.length:Nat):Int)),(9,tI .i64 (q.1.1:Int))],[((7,0,0),some (.arr true 1 (loc.map aq)))],[7]⟩,fun q=>e-q.1.1,⟨(k+1,[]),g_,g_,SB,s_,hR⟩,?_,?_⟩
  ·exact Z5
  intro⟨⟨i,es⟩,q1,q2,g1,g2,g4⟩;dsimp only at q1 q2 g1 g2 g4⊢;by_cases M3:i<e
  ·obtain⟨y,hy⟩:=ae (l:=l) (k:=i) o_;have Sj:(y.L5.map Mz.tr).length=y.L5.length:=s_;have Zv:=(fT (hs y (c9 hy))).2.2.2.1;obtain⟨K,hK⟩:∃K,eF l loc y.L5=K:=⟨_,rfl⟩;rw[CW M3 hy,hK]at g4;by_cases h0:y.J5=0
   ·rw[c7 h0]at g4;subst g4;repeat' ((conv=>whnf);first|apply Wx|apply W6|apply oi|apply fi|intro h|refine⟨i,y.tr,rfl,ab hy,?_⟩|exact Y5|refine e_ rfl ?_)
    all_goals try exact Q6
   ·rw[b8 h0]at g4;repeat' ((conv=>whnf);first|(with_reducible apply W1;fail_if_success (with_reducible show Wo _ _ _ _ (Code.seq (Code.region 8 _ _) _) _ _))|(with_reducible first|apply W2|apply W3|apply W4|apply W5|apply W6|apply W7|apply W8|apply W9)|apply au|apply oi|apply fi|intro h|refine⟨i,y.tr,rfl,ab hy,?_⟩|exact Y5|refine e_ rfl ?_)
    refine nW {q:Nat×List Nat//StkOk l e (i+1) q.2/\q.1=q.2.length/\q.1<=60/\(if q.1<=4/\K=true then mf l loc k e (e-(i+1)) (i+1) q.1 else false)=R} (fun q=>⟨[(0,vP l),(1,tI .i64 (k:Int)),(2,tI .i64 (e:Int)),(7,.r (.c (.own (7,0,0)))),(8,tI .i64 ((q.1.1:Nat):Int)),(9,tI .i64 (i:Int))],[((7,0,0),some (.arr true 1 (loc.map aq)))],[7]⟩) ?_ ?_
    ·by_cases UU:y.J5=3\/y.J5=5
     ·rw[b8 (fun h=>o_)]at g4;have hd:dep y es.length=es.length+1:=(by unfold dep;rw[c7 UU]);rw[hd]at g4;obtain⟨m',QY,TW,OZ⟩:=g1.push hy (opensK_iff.2 o_);have Ry:IntKind.i64.wrap ((es.length:Int)+1)=((es.length+1:Nat):Int):=(by rw[c6 _ o_];omega);repeat' ((conv=>whnf);first|apply Wx|apply W6|apply oi|apply fi|intro h|refine⟨i,y.tr,rfl,ab hy,?_⟩|exact Y5|refine e_ rfl ?_)
      all_goals try exact Q6
      all_goals
       conv=>whnf
       refine⟨⟨(es.length+1,m'::es),OZ,rfl,g_,g4⟩,?_⟩;repeat' ((conv=>whnf);first|apply Wx|apply W6|apply oi|apply fi|intro h|exact Y7|refine e_ rfl ?_)
       all_goals try exact⟨by dsimp only;rw[Ry]⟩
     ·by_cases Wa:y.J5=7
      ·rw[b8 (fun h=>o_)]at g4;rcases g1.pop hy Wa with⟨_,h'⟩|⟨Ot,RJ,OZ⟩
       ·omega
       have hd:dep y es.length=Ot.length:=(by unfold dep;rw[b8 UU,c7 Wa,RJ];simp);have hl4:es.length=Ot.length+1:=(by rw[RJ];rfl);rw[hd]at g4;have Ry:IntKind.i64.wrap ((es.length:Int)-1)=(Ot.length:Int):=(by rw[c6 _ o_];omega);repeat' ((conv=>whnf);first|apply Wx|apply W6|apply oi|apply fi|intro h|refine⟨i,y.tr,rfl,ab hy,?_⟩|exact Y5|refine e_ rfl ?_)
       all_goals try exact Q6
       conv=>whnf
       refine⟨⟨(Ot.length,Ot),OZ,rfl,g_,g4⟩,?_⟩;repeat' ((conv=>whnf);first|apply Wx|apply W6|apply oi|apply fi|intro h|exact Y7|refine e_ rfl ?_)
       all_goals try exact⟨by dsimp only;rw[Ry]⟩
      ·have hd:dep y es.length=es.length:=by unfold dep;rw[b8 UU,b8 Wa]
       have ho:dT y.J5=false:=by cases hh:dT y.J5 with|false=>rfl|true=>rw[opensK_iff]at hh;omega
       have OZ:=g1.other hy ho Wa;rw[hd]at g4;by_cases h4:y.J5=4
       ·obtain⟨Av,hA⟩:∃Av,anyE l i (i-k) k=Av:=⟨_,rfl⟩;rw[hA]at g4;repeat' ((conv=>whnf);first|apply Wx|apply W6|apply oi|apply fi|intro h|refine⟨i,y.tr,rfl,ab hy,?_⟩|exact Y5|refine e_ rfl ?_)
        all_goals try exact Q6
        conv=>whnf
        refine⟨{q:Nat×Bool//q.1<=i/\(q.2||anyE l i (i-q.1) q.1)=Av},fun q=>⟨[(0,vP l),(1,tI .i64 (k:Int)),(2,tI .i64 (e:Int)),(7,.r (.c (.own (7,0,0)))),(8,tI .i64 ((es.length:Nat):Int)),(9,tI .i64 (i:Int)),(10,tB q.1.2),(11,tI .i64 (q.1.1:Int))],[((7,0,0),some (.arr true 1 (loc.map aq)))],[7]⟩,fun q=>i-q.1.1,⟨(k,false),g_,by simpa using hA⟩,?_,?_⟩
        ·exact Z2
        intro⟨⟨j,b⟩,hj,hb⟩;dsimp only at hj hb⊢;by_cases On:j<i
        ·obtain⟨n,hn⟩:∃n,i-j=n+1:=⟨i-j-1,o_⟩;have Qf:i-(j+1)=n:=o_;rw[hn,anyE,<-Jt]at hb;have hS:=kx l (j:Int) o_
         generalize cG l (j:Int)=ee at *
         cases b with
         | true=>
          repeat' ((conv=>whnf);first|apply Wx|apply W6|apply oi|apply fi|intro h|refine cl hS ?_|exact Y5|refine e_ rfl ?_)
          conv=>whnf
          refine⟨⟨(j+1,true),g_,by simpa using hb⟩,?_,KD⟩
          exact Z5
         | false=>
          repeat' ((conv=>whnf);first|apply Wx|apply W6|apply oi|apply fi|intro h|refine cl hS ?_|exact Y5|refine e_ rfl ?_)
          conv=>whnf
          refine⟨⟨(j+1,(ee==(i:Int))),g_,by dsimp only;rw[Qf];simpa using hb⟩,?_,KD⟩;exact Z5
        ·rw[show i-j=0 by omega,anyE,Bool.or_false]at hb;subst hb
         cases b with
         | false=>
          rw[c7 ⟨h4,rfl⟩]at g4;subst g4
          exact Z7
         | true=>
          rw[b8 s_]at g4;repeat' ((conv=>whnf);first|apply Wx|apply W6|apply oi|apply fi|intro h|exact Y5|refine e_ rfl ?_)
          conv=>whnf
          refine⟨⟨(es.length,es),OZ,rfl,g_,g4⟩,?_⟩;exact Z2
       ·rw[b8 (fun h=>h4 h.1)]at g4;repeat' ((conv=>whnf);first|apply Wx|apply W6|apply oi|apply fi|intro h|refine⟨i,y.tr,rfl,ab hy,?_⟩|exact Y5|refine e_ rfl ?_)
        all_goals try exact Q6
        conv=>whnf
        refine⟨⟨(es.length,es),OZ,rfl,g_,g4⟩,?_⟩;exact Z2
    clear g4 g1;intro⟨⟨d,Ot⟩,OZ,Ro,XP,g4⟩;dsimp only at OZ Ro XP g4⊢;have Ry:(d:Int)=(d:Int):=rfl;by_cases Zf:(d)<=4
    ·rw[DF Zf]at g4;repeat' ((conv=>whnf);first|apply Wx|apply W6|apply oi|apply fi|intro h|refine⟨i,y.tr,rfl,ab hy,?_⟩|exact Y5|refine e_ rfl ?_)
     all_goals try exact Q23
     conv=>whnf
     refine⟨{j:Nat//j<=y.L5.length/\(y.L5.drop j).all (cO l loc)=K},fun q=>⟨[(0,vP l),(1,tI .i64 (k:Int)),(2,tI .i64 (e:Int)),(7,.r (.c (.own (7,0,0)))),(8,tI .i64 (d:Int)),(9,tI .i64 (i:Int)),(12,tI .i64 (q.1:Int))],[((7,0,0),some (.arr true 1 (loc.map aq)))],[7]⟩,fun q=>y.L5.length-q.1,⟨0,o_,hK⟩,?_,?_⟩
     ·exact Z2
     intro⟨j,hj,Ni⟩;dsimp only at hj Ni⊢;by_cases Ol:j<y.L5.length
     ·obtain⟨t,ht⟩:=ae Ol;rw[Lj ht]at Ni;have hI:=fP loc t.L0 o_;have hF:=dM l t.L0 o_;by_cases h1:t.J5=1
      ·have e1:cO l loc t=loc.contains t.L0:=(by unfold cO;rw[c7 h1]);rw[e1]at Ni;have PZ:=xH (l:=loc) (s:=t.L0)
       generalize dJ loc t.L0=ix at *
       generalize md l t.L0=ff at *
       cases hc:loc.contains t.L0 with
       | false=>
        rw[hc]at PZ Ni;rw[t6]at Ni;subst Ni;rw[b8 s_]at g4;subst g4
        exact V45
       | true=>rw[hc]at PZ Ni;rw[n7]at Ni;exact V30
      ·by_cases h7:t.J5=7
       ·cases hf:findN l 0 t.L0 with
        | none=>
         have e1:cO l loc t=false:=(by unfold cO;rw[b8 h1,c7 h7,hf]);rw[e1,t6]at Ni;subst Ni;rw[b8 s_]at g4;subst g4;rw[show md l t.L0= -1 from sr hf]at hF
         exact V45
        | some f=>
         obtain⟨Nh,x,hx,Qk,_⟩:=ig hf;have e1:cO l loc t=((x.L9.length:Int)==t.MI):=(by unfold cO;rw[b8 h1,c7 h7,hf];dsimp only;rw[hx]);rw[e1]at Ni;rw[show md l t.L0=(f:Int) from bY hf]at hF;have QB:(x.L9.map aq).length=x.L9.length:=s_;by_cases hn:(x.L9.length:Int)=t.MI
         ·rw[w9.2 hn,n7]at Ni;repeat' ((conv=>whnf);first|apply Wx|apply W6|apply oi|apply fi|intro h|refine⟨i,y.tr,rfl,ab hy,?_⟩|refine⟨j,t.tr,rfl,ab ht,?_⟩|refine⟨f,x.tr,rfl,ab hx,?_⟩|refine cl hI ?_|refine cl hF ?_|exact Y5|refine e_ rfl ?_)
          all_goals try exact Q2
          all_goals try exact Q6
          conv=>whnf
          refine⟨⟨j+1,o_,Ni⟩,?_,KD⟩;exact Z5
         ·rw[A2.2 hn,t6]at Ni;subst Ni;rw[b8 s_]at g4;subst g4;repeat' ((conv=>whnf);first|apply Wx|apply W6|apply oi|apply fi|intro h|refine⟨i,y.tr,rfl,ab hy,?_⟩|refine⟨j,t.tr,rfl,ab ht,?_⟩|refine⟨f,x.tr,rfl,ab hx,?_⟩|refine cl hI ?_|refine cl hF ?_|exact Y5|refine e_ rfl ?_)
          all_goals try exact Q2
          all_goals try exact Q6
       ·have e1:cO l loc t=true:=(by unfold cO;rw[b8 h1,b8 h7]);rw[e1,n7]at Ni;exact V30
     ·rw[m9 o_,List.all_nil]at Ni;subst Ni;rw[c7 rfl]at g4;repeat' ((conv=>whnf);first|apply Wx|apply W6|apply oi|apply fi|intro h|refine⟨i,y.tr,rfl,ab hy,?_⟩|exact Y7|refine e_ rfl ?_)
      all_goals try(exfalso;have h':=d9 h;rw[Sj]at h';omega)
      conv=>whnf
      refine⟨⟨(i+1,Ot),g_,g_,OZ,g_,by dsimp only;rw[<-Ro];exact g4⟩,?_,KD⟩;repeat' ((conv=>whnf);first|apply Wx|apply W6|apply oi|apply fi|intro h|exact Y7|refine e_ rfl ?_)
      all_goals try exact⟨by dsimp only;rw[Ro]⟩
      all_goals try exact⟨K1⟩
    ·rw[b8 (fun h=>Zf h.1)]at g4;subst g4;repeat' ((conv=>whnf);first|apply Wx|apply W6|apply oi|apply fi|intro h|refine⟨i,y.tr,rfl,ab hy,?_⟩|exact Y5|refine e_ rfl ?_)
     all_goals try exact Q23
  ·rw[Gi o_]at g4;subst g4;exact Z7
 ·rw[B6 h8,t6];repeat' ((conv=>whnf);first|apply Wx|apply W6|apply oi|apply fi|intro h|refine cl hL ?_|exact Y5|refine e_ rfl ?_)
theorem GR {l:List Mq}:(aA l).all (nameFirst l)=true↔∀k x,l[k]?=some x->x.J5=0->nameFirst l k=true:=by
 rw[o8];constructor
 ·intro H k x hx h0;refine H k ?_
  have key:∀(n i:Nat),l.length-i<=n->i<=k->k∈funsF (l.drop i) i:=by
   have NL:k<l.length:=by exact V120
   intro n
   induction n with
   | zero=>intro i h1 h2;omega
   | succ n ih=>
    intro i h1 h2;obtain⟨y,hy⟩:=ae (l:=l) (k:=i) o_;rw[Bc hy,f0];by_cases O9:i=k
    ·subst O9;rw[hx]at hy;injection hy with hy;subst hy;rw[c7 h0];exact .inl s_
    ·exact .inr (ih (i+1) o_ o_)
  have:=key l.length 0 o_ o_;rwa [C2]at this
 ·intro H k hk;obtain⟨_,x,hx,h0⟩:=nU hk;exact H k x hx h0
def ok1 (l:List Mq)(k:Nat)(x:Mq):Bool:=dh x&&(if x.J5=0 then nameFirst l k else true)
def okN (l:List Mq):Nat->Nat->Bool
 | 0,_=>true
 | n+1,k=>match l[k]? with
  | some x=>ok1 l k x&&okN l n (k+1)
  | none=>true
theorem CG {l:List Mq}{k:Nat}{x:Mq}(hx:l[k]?=some x):okN l (l.length-k) k=(ok1 l k x&&okN l (l.length-(k+1)) (k+1)):=by
 have hk:k<l.length:=by exact V120
 rw[show l.length-k=(l.length-(k+1))+1 by omega,okN,hx]
theorem zw {l:List Mq}:∀(n k:Nat),l.length-k<=n->(okN l (l.length-k) k=true↔∀j x,k<=j->l[j]?=some x->ok1 l j x=true)
 | n,k,hn=>by
  by_cases hk:k<l.length
  ·obtain⟨x,hx⟩:=ae hk
   cases n with
   | zero=>omega
   | succ n=>
    rw[CG hx,b9,zw n (k+1) o_];constructor
    ·rintro⟨h1,h2⟩ j y hj hy;by_cases OH:j=k
     ·subst OH;rw[hx]at hy;injection hy with hy;subst hy;exact h1
     ·exact h2 j y o_ hy
    ·intro H;exact⟨H k x (d8 _) hx,fun j y hj hy=>H j y o_ hy⟩
  ·rw[show l.length-k=0 by omega];refine⟨fun _ j x hj hx=>?_,fun _=>rfl⟩;rw[e9 o_]at hx
   cases hx
theorem Jj (l:List Mq):okN l l.length 0=(l.all dh&&(aA l).all (nameFirst l)):=by
 have h0:=zw (l:=l) l.length 0 o_;rw[y7]at h0;rw[A0,h0,b9,GR,o8];constructor
 ·intro H;refine⟨fun x hx=>?_,fun k x hx h0=>?_⟩
  ·obtain⟨k,hk⟩:=C5 hx;have:=H k x o_ hk;rw[ok1,b9]at this;exact this.1
  ·have:=H k x o_ hx;rw[ok1,b9,c7 h0]at this;exact this.2
 ·rintro⟨H1,H2⟩ j x _ hx;rw[ok1,b9];refine⟨H1 x (c9 hx),?_⟩;split
  ·exact H2 j x hx aak
  ·rfl
theorem tk {l:List Mq}:aj l=(decide (l.length<=60)&&(decide ((aA l).length<=6)&&(headOk l&&(okN l l.length 0&&bT (lY l) l l.length 0)))):=by
 unfold aj;rw[Jj,pu]
 cases hh:headOk l with
 | false=>simp
 | true=>
  have h1:1<=(aA l).length:=by
   cases l with
   | nil=>cases hh
   | cons x r=>
    have:x.J5=0:=by unfold headOk at hh;simp only[b9,w9]at hh;exact hh.1
    rw[aA,funsF,c7 this];simp
  have e:(decide (1<=(aA l).length/\(aA l).length<=6))=decide ((aA l).length<=6):=by rw[decide_eq_decide];omega
  rw[e];generalize decide (l.length<=60)=b1;generalize decide ((aA l).length<=6)=b2;generalize l.all dh=b3;generalize(aA l).all (nameFirst l)=b4;generalize uD l=b5;generalize bT (tY l) l l.length 0=b6
  cases b1<;>cases b2<;>cases b3<;>cases b4<;>cases b5<;>cases b6<;>rfl
theorem V65{p:Prop}(h:p:=by
 repeat' ((conv=>whnf);first|apply Wx|apply W6|apply oi|apply fi|intro h|refine cl hF ?_|refine⟨0,x0.tr,rfl,ab Qk,?_⟩|exact Y5|refine e_ rfl ?_)
 all_goals try(exfalso;simp_all[kP];done)):p:=h
theorem V99{p:Prop}(h:p:=by
 unfold nameFirst;rw[hx,md];dsimp only
 cases findN l 0 x.L0 with
 | none=>simp[cS]
 | some m=>rw[A0];simp[cS];omega):p:=h
theorem V39{p:Prop}(h:p:=by
 repeat' ((conv=>whnf);first|apply Wx|apply W6|apply oi|apply fi|intro h|refine cl hL ?_|refine cl hN ?_|refine⟨k,x.tr,rfl,ab hx,?_⟩|exact Y5|refine e_ rfl ?_)
 all_goals try exact Q6
 all_goals
  conv=>whnf
  refine⟨⟨k+1,o_,by simp_all⟩,?_,KD⟩
  exact Z5):p:=h
theorem V41{p:Prop}(h:p:=by
 repeat' ((conv=>whnf);first|apply Wx|apply W6|apply oi|apply fi|intro h|refine cl hL ?_|refine cl hN ?_|refine⟨k,x.tr,rfl,ab hx,?_⟩|exact Y5|refine e_ rfl ?_)
 all_goals try exact Q6
 all_goals
  conv=>whnf
  refine⟨⟨k+1,o_⟩,?_,KD⟩
  exact Z5):p:=h
theorem dQ (l:List Mq)(Qr:ao 1048576 (.lst 4 (l.map Mq.tr))):Sim.Spec prog 47 [tvP l] (rB (aj l)):=by
 refine bI hΓ aE func47 rfl d_ rfl ?_;have hl:=bi Qr;have hs:∀x∈l,az 1048576 x.tr:=fun x hx=>aZ Qr hx;have M0:(l.map Mq.tr).length=l.length:=s_;have hF:=cN l hl;have Nh:((aA l).map fun n:Nat=>aa n).length=(aA l).length:=s_;rw[tk];by_cases c1:l.length<=60
 ·rw[q7 c1,n7];by_cases Ny:0<l.length
  ·obtain⟨x0,Qk⟩:=ae Ny;have NA:(x0.L9.map aq).length=x0.L9.length:=s_;have Qm:=GG Qk;by_cases c2:(aA l).length<=6
   ·rw[q7 c2,n7]
    cases hh:headOk l with
    | false=>
     rw[hh]at Qm;rw[t6]
     exact V65
    | true=>
     rw[hh]at Qm;rw[n7]
     cases M5:okN l l.length 0 with
     | false=>
      rw[t6];repeat' ((conv=>whnf);first|apply Wx|apply W6|apply oi|apply fi|intro h|refine cl hF ?_|refine⟨0,x0.tr,rfl,ab Qk,?_⟩|exact Y5|refine e_ rfl ?_)
      all_goals try(exfalso;simp_all[kP];done)
      conv=>whnf
      refine⟨{k:Nat//k<=l.length/\okN l (l.length-k) k=false},fun q=>⟨[(0,vP l),(3,tI .i64 (q.1:Int))],[],[]⟩,fun q=>l.length-q.1,⟨0,o_,by rw[y7];exact M5⟩,?_,?_⟩
      ·exact Z2
      intro⟨k,hk,hr⟩;dsimp only at hk hr⊢;by_cases M3:k<l.length
      ·obtain⟨x,hx⟩:=ae M3;rw[CG hx,ok1]at hr;have hL:=oH x (hs x (c9 hx));have hN:=dM l x.L0 hl
       have Xj:(md l x.L0==(k:Int))=nameFirst l k:=by exact V99
       generalize md l x.L0=ff at *
       generalize dh x=lo at *
       generalize nameFirst l k=nf at *
       by_cases h0:x.J5=0
       ·rw[c7 h0]at hr;exact V39
       ·rw[b8 h0,Bool.and_true]at hr;exact V39
      ·rw[show l.length-k=0 by omega]at hr
       cases hr
     | true=>
      rw[n7];obtain⟨R,hR⟩:∃R,bT (lY l) l l.length 0=R:=⟨_,rfl⟩;rw[hR];have QS:=(zw (l:=l) l.length 0 o_);rw[y7]at QS;have QS:=QS.1 M5;repeat' ((conv=>whnf);first|apply Wx|apply W6|apply oi|apply fi|intro h|refine cl hF ?_|refine⟨0,x0.tr,rfl,ab Qk,?_⟩|exact Y5|refine e_ rfl ?_)
      all_goals try(exfalso;simp_all[kP];done)
      conv=>whnf
      refine⟨{k:Nat//k<=l.length},fun q=>⟨[(0,vP l),(3,tI .i64 (q.1:Int))],[],[]⟩,fun q=>l.length-q.1,⟨0,o_⟩,?_,?_⟩
      ·exact Z2
      intro⟨k,hk⟩;dsimp only at hk⊢;by_cases M3:k<l.length
      ·obtain⟨x,hx⟩:=ae M3;have hr:=QS k x o_ hx;rw[ok1]at hr;have hL:=oH x (hs x (c9 hx));have hN:=dM l x.L0 hl
       have Xj:(md l x.L0==(k:Int))=nameFirst l k:=by exact V99
       clear QS M5
       generalize md l x.L0=ff at *
       generalize dh x=lo at *
       generalize nameFirst l k=nf at *
       by_cases h0:x.J5=0
       ·rw[c7 h0]at hr;exact V41
       ·rw[b8 h0,Bool.and_true]at hr;exact V41
      ·repeat' ((conv=>whnf);first|apply Wx|apply W6|apply oi|apply fi|intro h|exact Y5|refine e_ rfl ?_)
       conv=>whnf
       refine⟨{k:Nat//k<=l.length/\bT (lY l) l (l.length-k) k=R},fun q=>⟨[(0,vP l),(4,tI .i64 (q.1:Int))],[],[]⟩,fun q=>l.length-q.1,⟨0,o_,by rw[y7];exact hR⟩,?_,?_⟩
       ·exact Z2
       intro⟨k,hk,hr⟩;dsimp only at hk hr⊢;by_cases M3:k<l.length
       ·obtain⟨x,hx⟩:=ae M3;rw[mC hx (d8 _)]at hr;have hE:=cY l (k:Int) hl
        cases he:endAt l k with
        | none=>
         rw[cD,sr he]at hE;rw[he]at hr;subst hr;repeat' ((conv=>whnf);first|apply Wx|apply W6|apply oi|apply fi|intro h|refine cl hE ?_|refine⟨k,x.tr,rfl,ab hx,?_⟩|exact Y5|refine e_ rfl ?_)
         all_goals try exact Q6
        | some e=>
         obtain⟨_,_,_,_,Ob,NC⟩:=aN he;rw[cD,bY he]at hE;rw[he]at hr;dsimp only at hr;have hK:=vB l k e c1 hs he
         generalize lY l k e=fb at *
         by_cases hc:x.J5=0/\fb=true
         ·rw[c7 hc]at hr;obtain⟨d1,d2⟩:=hc;subst d2;repeat' ((conv=>whnf);first|apply Wx|apply W6|apply oi|apply fi|intro h|refine cl hE ?_|refine cl hK ?_|refine⟨k,x.tr,rfl,ab hx,?_⟩|exact Y5|refine e_ rfl ?_)
          all_goals try exact Q6
          conv=>whnf
          refine⟨⟨e+1,o_,hr⟩,?_,KD⟩;exact Z5
         ·rw[b8 hc]at hr;subst hr;repeat' ((conv=>whnf);first|apply Wx|apply W6|apply oi|apply fi|intro h|refine cl hE ?_|refine cl hK ?_|refine⟨k,x.tr,rfl,ab hx,?_⟩|exact Y5|refine e_ rfl ?_)
          all_goals try exact Q6
       ·rw[show l.length-k=0 by omega,bT,q7 o_]at hr;subst hr;exact Z7
   ·rw[B6 c2,t6];exact V65
  ·have Xw:l=[]:=A5.1 o_;subst Xw;rw[show headOk ([]:List Mq)=false from rfl,t6,D2];repeat' ((conv=>whnf);first|apply Wx|apply W6|apply oi|apply fi|intro h|refine cl hF ?_|exact Y5|refine e_ rfl ?_)
 ·rw[B6 c1,t6];repeat' ((conv=>whnf);first|apply Wx|apply W6|apply oi|apply fi|intro h|refine cl hF ?_|exact Y5|refine e_ rfl ?_)
  all_goals try exact Q6
theorem nM {l:List Mz}{p:Nat}{e:Ex}(h:kD l p e):p+e.toks.length<=l.length:=by obtain⟨r,h⟩:=h;have h1:=congrArg List.length h;rw[r7,c8]at h1;have:=e.toks_pos;omega
theorem Q1{p:Prop}(h:p:=by exact⟨⟨by simp<;>omega,by simp<;>omega⟩⟩):p:=h
theorem Q5{p:Prop}(h:p:=by exfalso;simp at h;first|done|fail):p:=h
theorem ub (l:List Mz)(p:Nat)(t:Mz)(es:List Ex)(hl:l.length<=1048576)(hn:jv l)(ho:(Ex.node t es).ok)(hs:kD l p (.node t es)):Sim.Spec prog 258 [tvL 3 (l.map Mz.tr),tvI p] (rL 1 ((qx (p+1) es).map nR)):=by
 refine bI hΓ aE func258 rfl d_ rfl ?_;have M0:(l.map Mz.tr).length=l.length:=s_;have Nu:=nM hs;obtain⟨ht,U4⟩:=pr hs;have hX:=jD l p hl hn;rw[oU hs ho]at hX;have htn:=hn t (c9 ht);have hA:=lI t htn;obtain⟨e1,e2⟩:=yK ho.1;have NC:es.length=ar t:=ho.2.1;rw[e1,<-NC]at hA;obtain⟨R,hR⟩:∃R,qx (p+1) es=R:=⟨_,rfl⟩;rw[hR]
 have Pv:p<l.length:=by have:=(Ex.node t es).toks_pos;omega
 generalize p+(Ex.node t es).toks.length=pe at *
 repeat' ((conv=>whnf);first|apply Wx|apply W6|apply oi|apply fi|intro h|refine cl hX ?_|refine⟨p,t.tr,rfl,ab ht,?_⟩|refine cl hA ?_|exact Y5|refine e_ rfl ?_)
 conv=>whnf
 refine⟨{q:Nat×List Nat×List Ex//q.2.1++qx q.1 q.2.2=R/\kJ l q.1 q.2.2/\jf q.2.2/\q.2.1.length+q.2.2.length<=4/\q.1<=1048577},fun q=>⟨[(0,.r (.c (.t (.lst 3 (l.map Mz.tr))))),(5,.r (.c (.own (5,0,0)))),(6,tI .i64 (q.1.1:Int)),(7,tI .i64 (q.1.2.2.length:Int))],[((5,0,0),some (.arr true 1 (q.1.2.1.map nR)))],[5]⟩,fun q=>q.1.2.2.length,⟨(p+1,[],es),hR,U4,ho.2.2,by simp;omega,g_⟩,?_,?_⟩
 ·exact Z5
 intro⟨⟨q,acc,fs⟩,h1,h2,h3,h4,h5⟩;dsimp only at h1 h2 h3 h4 h5⊢
 cases fs with
 | nil=>
  rw[qx,m7]at h1;subst h1;repeat' ((conv=>whnf);first|apply Wx|apply W6|apply oi|apply fi|intro h|exact Y5|refine e_ rfl ?_)
  all_goals try exact Q5
 | cons a fs=>
  obtain⟨g1,g2⟩:=fJ h2;have Ym:=jD l q hl hn;rw[oU g1 h3.1]at Ym;have Vi:=nM g1;have Nh:(a::fs).length=fs.length+1:=rfl;repeat' ((conv=>whnf);first|apply Wx|apply W6|apply oi|apply fi|intro h|refine cl Ym ?_|exact Y5|refine e_ rfl ?_)
  all_goals try exact Q5
  all_goals try exact Q1
  conv=>whnf
  refine⟨⟨(q+a.toks.length,acc++[q],fs),by dsimp only;rw[<-h1,qx];simp,g2,h3.2,by simp only[c8,d5,i9]at *;omega,g_⟩,?_,by dsimp only;simp⟩;repeat' ((conv=>whnf);first|apply Wx|apply W6|apply oi|apply fi|intro h|exact Y7|refine e_ rfl ?_)
  all_goals try exact⟨by dsimp only;rw[Nh,c6 _ o_];congr 1;omega⟩
  all_goals exact⟨by simp[aa]⟩
def w32 (n:Int):Int:=IntKind.i32.wrap n
theorem xM (n:Int):IntKind.i32.wrap n=if n%4294967296≥2147483648 then n%4294967296-4294967296 else n%4294967296:=by simp[IntKind.wrap,IntKind.bits,IntKind.signed]
theorem rR (n:Int):-2147483648<=w32 n/\w32 n<=2147483647:=by unfold w32;rw[xM];split<;>omega
theorem GX (n:Int):((BitVec.ofInt IntKind.i64.bits n &&& BitVec.ofInt IntKind.i64.bits 4294967295).toNat:Int)=n%4294967296:=by show((BitVec.ofInt 64 n &&& BitVec.ofInt 64 4294967295).toNat:Int)=_;have e:(BitVec.ofInt 64 4294967295).toNat=2^32-1:=d_;rw[I5,e,D3,C3];have:((2^64:Nat):Int)=18446744073709551616:=d_;omega
theorem BZ (n:Int):Sim.Spec prog 246 [tvI n] (rI (w32 n)):=by
 refine ag hΓ aE func246 rfl d_ rfl ?_
 have QF:IntKind.i64.wrap ((BitVec.ofInt IntKind.i64.bits n &&& BitVec.ofInt IntKind.i64.bits 4294967295).toNat:Int)=n%4294967296:=by rw[GX,c6 _ o_]
 unfold w32;rw[xM];repeat' ((conv=>whnf);first|refine Or.inl ?_|apply oi|apply fi|intro h|exact Y1|refine e_ rfl ?_)
 all_goals(refine⟨congrArg (Tr.int _) ?_⟩;rw[QF]at h⊢)
 ·have h':=d9 h;rw[c7 o_,c6 _ o_]
 ·have h':=e8 h;rw[b8 o_]
theorem FM {x y:Int}(hx:-2147483648<=x/\x<=2147483647)(hy:-2147483648<=y/\y<=2147483647):-4611686018427387904<=x*y/\x*y<=4611686018427387904:=by
 have h:(x*y).natAbs<=2147483648*2147483648:=by rw[Int.natAbs_mul];exact A7 o_ o_
 omega
def ey (k a b:Int):Int:=
 if k=2 then w32 (w32 a+w32 b)else if k=3 then w32 (w32 a-w32 b)else if k=4 then w32 (w32 a*w32 b)
 else if(k=5/\w32 a<w32 b)\/(k=6/\w32 a=w32 b)then 1 else 0
theorem rh (k a b:Int):Sim.Spec prog 206 [tvI k,tvI a,tvI b] (rI (ey k a b)):=by
 refine ag hΓ aE func206 rfl d_ rfl ?_;have ha:=rR a;have hb:=rR b;have hm:=FM ha hb;have e1:IntKind.i64.wrap (w32 a+w32 b)=w32 a+w32 b:=c6 _ o_;have e2:IntKind.i64.wrap (w32 a-w32 b)=w32 a-w32 b:=c6 _ o_;have e3:IntKind.i64.wrap (w32 a*w32 b)=w32 a*w32 b:=c6 _ o_;unfold ey;repeat' ((conv=>whnf);first|refine Or.inl ?_|apply oi|apply fi|intro h|refine ci (BZ _) (ai rfl trivial) ?_|exact Y1|refine e_ rfl ?_)
 all_goals(refine⟨congrArg (Tr.int _) ?_⟩;simp_all;try omega)
def Df (n:Int):Ex:= .node ⟨0,n,[]⟩ []
def Iu (t a b:Mz):Prop:=af t.J5 2 6=true/\a.J5=0/\b.J5=0/\af (ey t.J5 a.MI b.MI) 0 999=true
instance (t a b:Mz):Decidable (Iu t a b):=by unfold Iu;infer_instance
def xB (t:Mz):List Ex->Ex
 | [.node a [],.node b []]=>if Iu t a b then Df (ey t.J5 a.MI b.MI)else .node t [.node a [],.node b []]
 | fs=> .node t fs
mutual
def Ex.fold:Ex->Ex
 | .node t es=>xB t (ck es)
def ck:List Ex->List Ex
 | []=>[]
 | a::es=>a.fold::ck es
end
theorem aV (l:List Mz):flat (l.map Mz.tr):=nk _ (by intro x c hc sz rs e;subst e;simp[Mz.tr]at hc)
theorem pL:∀es:List Ex,(ck es).length=es.length
 | []=>rfl
 | a::es=>by rw[ck,d5,pL,d5]
theorem tJ:∀(es:List Ex) (j:Nat),(ck es).take j=ck (es.take j)
 | [],j=>by simp[ck]
 | a::es,0=>by rw[H6,H6,ck]
 | a::es,j+1=>by rw[ck,q9,q9,ck,tJ es j]
theorem vD:∀{es:List Ex} {j:Nat} {a:Ex},es[j]?=some a->ck (es.take (j+1))=ck (es.take j)++[a.fold]
 | [],_,_,h=>by simp at h
 | b::es,0,a,h=>by
  rw[f9]at h;injection h with h;subst h
  rfl
 | b::es,j+1,a,h=>by
  rw[l4]at h;rw[q9,ck,q9,ck,vD h,u3]
theorem vl (a:Ex):aw [a]=a.toks:=by rw[aw,aw,m7]
theorem Ff {f:Ex}(h:f.toks.length=1):∃a,f= .node a []:=by
 cases f with
 | node a es=>
  rw[Ex.toks,d5]at h
  cases es with
  | nil=>exact⟨a,rfl⟩
  | cons b es=>rw[aw,c8]at h;have:=b.toks_pos;omega
theorem vZ {t:Mz}{fs:List Ex}(h:(aw fs).length≠2\/af t.J5 2 6=false):xB t fs= .node t fs:=by
 unfold xB;split
 ·rename_i a b;rw[b8];intro hc;rcases h with h|h
  ·exact h (by simp[aw,Ex.toks])
  ·rw[hc.1]at h;cases h
 ·rfl
theorem HT (t a b:Mz):xB t [.node a [],.node b []]=if Iu t a b then Df (ey t.J5 a.MI b.MI)else .node t [.node a [],.node b []]:=rfl
theorem Jk (t:Mz)(fs:List Ex):(xB t fs).toks.length<=1+(aw fs).length:=by
 unfold xB;split
 ·split
  ·simp[Df,Ex.toks,aw]
  ·simp[Ex.toks,aw]
 ·rw[Ex.toks,d5];omega
mutual
theorem Ex.fold_le:∀e:Ex,e.fold.toks.length<=e.toks.length
 | .node t es=>by
  rw[Ex.fold,Ex.toks,d5];have h1:=Jk t (ck es);have h2:=rV es;omega
theorem rV:∀es:List Ex,(aw (ck es)).length<=(aw es).length
 | []=>d8 _
 | a::es=>by
  rw[ck,aw,aw,c8,c8];have h1:=Ex.fold_le a;have h2:=rV es;omega
end
theorem gD:∀(es:List Ex) (j:Nat),(aw (es.take j)).length<=(aw es).length
 | [],j=>by rw[List.take_nil];omega
 | a::es,0=>by rw[H6,aw];simp
 | a::es,j+1=>by
  have:=gD es j;rw[q9,aw,aw,c8,c8];omega
theorem pI:∀{es:List Ex} {j:Nat} {a:Ex},es[j]?=some a->a.toks.length<=(aw es).length
 | [],_,_,h=>by simp at h
 | b::es,0,a,h=>by
  rw[f9]at h;injection h with h;subst h
  rw[aw,c8];omega
 | b::es,j+1,a,h=>by
  rw[l4]at h;have:=pI h;rw[aw,c8];omega
theorem rx:∀{es:List Ex} {j:Nat} {a:Ex},jf es->es[j]?=some a->a.ok
 | [],_,_,_,h=>by simp at h
 | b::es,0,a,ho,h=>by
  rw[f9]at h;injection h with h;subst h
  exact ho.1
 | b::es,j+1,a,ho,h=>by
  rw[l4]at h;exact rx ho.2 h
theorem Lr {t:Mz}(ho:fE t=true)(hk:af t.J5 2 6=true):ar t=2:=by have:=within_iff.1 hk;unfold ar ni;rw[b8 aah,b8 o_,b8 o_];rfl
theorem Lu {α:Type}{l:List α}(h:l.length=2):∃a b,l=[a,b]:=by
 match l,h with
 | [a,b],_=>exact⟨a,b,rfl⟩
theorem V27{p:Prop}(h:p:=by
 generalize ey t.J5 a.MI b.MI=ap at *
 repeat' ((conv=>whnf);first|apply Wx|apply W6|apply oi|apply fi|intro h|refine⟨p,t.tr,rfl,ab ht,?_⟩|refine cl hB ?_|refine⟨1,rfl,Yf,?_⟩|refine⟨2,rfl,YQ,?_⟩|refine⟨a.tr,rfl,?_⟩|refine⟨b.tr,rfl,?_⟩|refine cl Yx ?_|refine cl UF ?_|exact Y5|refine e_ rfl ?_)
 all_goals try exact⟨⟨rfl,aV _⟩⟩
 all_goals try(exfalso;simp_all;done)):p:=h
theorem nB:∀(n:Nat) (e:Ex),e.toks.length<=n->∀(l:List Mz) (p:Nat),l.length<=1048576->jv l->e.ok->kD l p e->Sim.Spec prog 240 [tvL 3 (l.map Mz.tr),tvI p] (rL 3 (e.fold.toks.map Mz.tr))
 | 0,e,hn,_,_,_,_,_,_=>by have:=e.toks_pos;omega
 | n+1,.node t es,hn,l,p,hl,OT,ho,hs=>by
  refine bI hΓ aE func240 rfl d_ rfl ?_;have M0:(l.map Mz.tr).length=l.length:=s_;have Nu:=nM hs;obtain⟨ht,U4⟩:=pr hs;have hO:=ub l p t es hl OT ho hs;have Pv:((qx (p+1) es).map nR).length=es.length:=by rw[e7,AZ]
  rw[Ex.toks,d5]at hn Nu;rw[Ex.fold];have hfe:=rV es;obtain⟨e1,e2⟩:=yK ho.1;have NC:es.length=ar t:=ho.2.1;repeat' ((conv=>whnf);first|apply Wx|apply W6|apply oi|apply fi|intro h|refine cl hO ?_|refine⟨p,t.tr,rfl,ab ht,?_⟩|exact Y7|refine e_ rfl ?_)
  conv=>whnf
  refine⟨{j:Nat//j<=es.length},fun q=>⟨[(0,.r (.c (.t (.lst 3 (l.map Mz.tr))))),(1,tI .i64 (p:Int)),(5,.r (.c (.own (5,0,0)))),(6,.r (.c (.own (6,0,0)))),(7,tI .i64 (q.1:Int))],[((5,0,0),some (.arr false 3 ((t::aw (ck (es.take q.1))).map Mz.tr))),((6,0,0),some (.arr true 1 ((qx (p+1) es).map nR)))],[5,6]⟩,fun q=>es.length-q.1,⟨0,o_⟩,?_,?_⟩
  ·repeat' ((conv=>whnf);first|apply Wx|apply W6|apply oi|apply fi|intro h|exact Y7|refine e_ rfl ?_)
   all_goals try exact⟨by simp[ck,aw];rfl⟩
  intro⟨j,hj⟩;dsimp only at hj⊢;by_cases M3:j<es.length
  ·obtain⟨a,ha⟩:=ae M3;obtain⟨q,hq,hqs⟩:=EA U4 ha;have NA:=pI ha;have hR:=nB n a o_ l q hl OT (rx ho.2.2 ha) hqs;have Ol:j<((qx (p+1) es).map nR).length:=(by rw[Pv];exact M3);have Ut:=a.fold_le;have Uk:=gD (ck es) j;rw[tJ]at Uk;have UR:((t::aw (ck (es.take j))).map Mz.tr).length=1+(aw (ck (es.take j))).length:=(by simp;omega);have QA:(a.fold.toks.map Mz.tr).length=a.fold.toks.length:=s_;repeat' ((conv=>whnf);first|apply Wx|apply W6|apply oi|apply fi|intro h|refine cl hR ?_|refine⟨j,rfl,Ol,?_⟩|refine⟨(nR q),(ab hq),?_⟩|exact Y5|refine e_ rfl ?_)
   all_goals try exact⟨⟨by rw[UR,QA];(try dsimp only);omega,by rw[UR,QA];(try dsimp only);omega⟩⟩
   conv=>whnf
   refine⟨⟨j+1,o_⟩,?_,KD⟩;repeat' ((conv=>whnf);first|apply Wx|apply W6|apply oi|apply fi|intro h|exact Y6|refine e_ rfl ?_)
   all_goals exact⟨by rw[vD ha,iD,vl];simp⟩
  ·have T6:j=es.length:=o_;subst T6;rw[D4];have hB:=aJ t.J5 2 6;have Zr:=pL es;have Xz:((t::aw (ck es)).map Mz.tr).length=1+(aw (ck es)).length:=by simp;omega
   generalize ck es=F at *
   cases hk:af t.J5 2 6 with
   | false=>
    rw[hk]at hB;rw[vZ (.inr hk),Ex.toks];repeat' ((conv=>whnf);first|apply Wx|apply W6|apply oi|apply fi|intro h|refine⟨p,t.tr,rfl,ab ht,?_⟩|refine cl hB ?_|exact Y5|refine e_ rfl ?_)
    all_goals exact⟨⟨rfl,aV _⟩⟩
   | true=>
    rw[hk]at hB;by_cases h2:(aw F).length=2
    ·obtain⟨f1,f2,rfl⟩:=Lu (Zr.trans (NC.trans (Lr ho.1 hk)));rw[aw,vl,c8]at h2;have p1:=f1.toks_pos;have p2:=f2.toks_pos;obtain⟨a,rfl⟩:=Ff (f:=f1) o_;obtain⟨b,rfl⟩:=Ff (f:=f2) o_;have e3:t::aw [Ex.node a [],Ex.node b []]=[t,a,b]:=(by simp[aw,Ex.toks]);have e4:(Ex.node t [Ex.node a [],Ex.node b []]).toks=[t,a,b]:=(by rw[Ex.toks];exact e3);rw[e3];have Yf:1<([t,a,b].map Mz.tr).length:=s_;have YQ:2<([t,a,b].map Mz.tr).length:=s_;have Yx:=rh t.J5 a.MI b.MI;have UF:=aJ (ey t.J5 a.MI b.MI) 0 999;rw[HT];by_cases hc:Iu t a b
     ·rw[c7 hc];obtain⟨_,c1,c2,c3⟩:=hc;rw[c3]at UF;have e5:(Df (ey t.J5 a.MI b.MI)).toks=[⟨0,ey t.J5 a.MI b.MI,[]⟩]:=(by simp[Df,Ex.toks,aw]);rw[e5]
      generalize ey t.J5 a.MI b.MI=ap at *
      repeat' ((conv=>whnf);first|apply Wx|apply W6|apply oi|apply fi|intro h|refine⟨p,t.tr,rfl,ab ht,?_⟩|refine cl hB ?_|refine⟨1,rfl,Yf,?_⟩|refine⟨2,rfl,YQ,?_⟩|refine⟨a.tr,rfl,?_⟩|refine⟨b.tr,rfl,?_⟩|refine cl Yx ?_|refine cl UF ?_|exact Y5|refine e_ rfl ?_)
      all_goals try exact Q6
     ·rw[b8 hc,e4];have RA:∀w,af (ey t.J5 a.MI b.MI) 0 999=w->a.J5=0->b.J5=0->w=true->False:=fun w h1 h2 h3 h4=>hc ⟨hk,h2,h3,h1.trans h4⟩
      cases hw:af (ey t.J5 a.MI b.MI) 0 999 with
      | true=>
       rw[hw]at UF;have hc3:=RA true hw
       exact V27
      | false=>rw[hw]at UF;exact V27
    ·rw[vZ (.inl h2),Ex.toks];repeat' ((conv=>whnf);first|apply Wx|apply W6|apply oi|apply fi|intro h|refine⟨p,t.tr,rfl,ab ht,?_⟩|refine cl hB ?_|exact Y5|refine e_ rfl ?_)
     all_goals try exact⟨⟨rfl,aV _⟩⟩
     all_goals try(exfalso;rw[Xz]at *;simp at *;omega)
end Go.Proofs.P
namespace Go.Proofs.P
open Go.Sim Tryz
structure Grow (n:Nat) (s s':Gs):Prop where
 ge:s.J1.length<=s'.J1.length
 le:s'.J1.length<=s.J1.length+n
 J8:s.J8<=s'.J8
 cap:s.J8<=1000->s'.J8<=1000
theorem Grow.refl (s:Gs):Grow 0 s s:=⟨d8 _,d8 _,u4 _,id⟩
theorem Grow.trans {n m:Nat}{a b c:Gs}(h:Grow n a b)(h':Grow m b c):Grow (n+m) a c:=⟨v6 h.ge h'.ge,by have:=h.le;have:=h'.le;omega,D8 h.J8 h'.J8,fun x=>h'.cap (h.cap x)⟩
theorem Grow.mono {n m:Nat}{a b:Gs}(h:Grow n a b)(hn:n<=m):Grow m a b:=⟨h.ge,by have:=h.le;omega,h.J8,h.cap⟩
theorem bp (C:Cx)(s:Gs)(d code arg line:Int)(chain:List Int):Grow 1 s (aF C s d code arg line chain):=⟨by simp[aF],by simp[aF],u4 _,id⟩
theorem bU (l:List Mp)(j v:Int):(cf l j v).length=l.length:=by
 unfold cf;split
 ·split
  ·rw[q8]
  ·rfl
 ·rfl
theorem iq (v:Int):∀(js:List Int) (l:List Mp),(patchL l v js).length=l.length
 | [],_=>rfl
 | j::js,l=>by rw[patchL,iq v js,bU]
def dm:Nat->Nat
 | 0=>1
 | n+1=>30+9*(20*dm n+3)
theorem Cv:∀n,1<=dm n
 | 0=>d8 _
 | n+1=>by rw[dm];omega
theorem JQ:∀{n m:Nat},n<=m->dm n<=dm m:=by
 intro n m h
 induction h with
 | refl=>exact d8 _
 | step _ ih=>rw[dm];omega
theorem Ed {n:Nat}(h:n<=3):dm n<=8679837:=v6 (JQ h) (by simp[dm])
def ca (C:Cx)(g:Nat):Prop:=∃ln,C.p[g]?=some ln/\ln.J5=0
section
variable {C:Cx} {x:Sc} {ins:List Nat} {rep:Sc->List Nat->Nat->Nat->Int->Gs->Gs} {line:Nat} {lev:Nat}
theorem rf (y:Sc)(chain:List Int)(line:Int):∀(n:Nat) (d:Int) (s:Gs),Grow n s (cK C y chain line n d s)
 | 0,d,s=>Grow.refl s
 | n+1,d,s=>by
  rw[cK];exact((bp C s d _ _ _ _).trans (rf y chain line n (d-1) _)).mono o_
theorem sI (y:Sc)(chain:List Int)(line d:Int):∀(n i:Nat) (s:Gs),Grow (2*n) s (dH C y chain line d n i s)
 | 0,i,s=>Grow.refl s
 | n+1,i,s=>by
  rw[dH];exact(((bp C s d _ _ _ _).trans (bp C _ (d+1) _ _ _ _)).trans (sI y chain line d n (i+1) _)).mono o_
theorem Gu (M4:∀g d s,ca C g->cU C ins g s.J1.length=true->Grow (dm lev) s (rep x ins line g d s))(t:Mz)(d:Int)(s:Gs):Grow (dm lev) s (mm C rep x ins line t d s):=by
 have hp:=Cv lev;unfold mm;split
 ·exact(bp ..).mono hp
 ·split
  ·exact(bp ..).mono hp
  ·split
   ·split
    ·rename_i g hg;split
     ·rename_i hr;obtain⟨_,ln,h1,h2,_⟩:=ig hg;exact M4 g d s ⟨ln,h1,h2⟩ hr
     ·exact(bp ..).mono hp
    ·exact(Grow.refl s).mono o_
   ·exact(bp ..).mono hp
mutual
theorem xU (M4:∀g d s,ca C g->cU C ins g s.J1.length=true->Grow (dm lev) s (rep x ins line g d s)):∀(e:Ex) (d:Int) (s:Gs),Grow (e.toks.length*dm lev) s (eA C rep x ins line e d s)
 | .node t es,d,s=>by
  rw[eA,Ex.toks,d5];exact((pq M4 es d s).trans (Gu M4 t _ _)).mono (by rw[p8];omega)
theorem pq (M4:∀g d s,ca C g->cU C ins g s.J1.length=true->Grow (dm lev) s (rep x ins line g d s)):∀(es:List Ex) (d:Int) (s:Gs),Grow ((aw es).length*dm lev) s (cZ C rep x ins line es d s)
 | [],d,s=>by rw[cZ,aw];exact(Grow.refl s).mono o_
 | a::es,d,s=>by
  rw[cZ,aw,c8,p8];exact(xU M4 a d s).trans (pq M4 es (d+1) _)
end
theorem uP (C:Cx)(rep:Sc->List Nat->Nat->Nat->Int->Gs->Gs)(x:Sc)(ins:List Nat)(line:Nat):∀{es:List Ex} {j:Nat} {a:Ex} (d:Int) (s:Gs),es[j]?=some a->cZ C rep x ins line (es.take (j+1)) d s=eA C rep x ins line a (d+j) (cZ C rep x ins line (es.take j) d s)
 | [],_,_,_,_,h=>by simp at h
 | b::es,0,a,d,s,h=>by
  rw[f9]at h;injection h with h;subst h
  simp[cZ]
 | b::es,j+1,a,d,s,h=>by
  rw[l4]at h;rw[q9,cZ,uP C rep x ins line (d+1) _ h,q9,cZ];congr 1;omega
theorem ma:∀{es:List Ex} {j:Nat} {a:Ex},es[j]?=some a->(aw (es.take (j+1))).length=(aw (es.take j)).length+a.toks.length
 | [],_,_,h=>by simp at h
 | b::es,0,a,h=>by
  rw[f9]at h;injection h with h;subst h
  simp[aw]
 | b::es,j+1,a,h=>by
  rw[l4]at h;rw[q9,aw,c8,ma h,q9,aw,c8];omega
theorem kn (hC:CxOk C)(hx:ScOk C x ins)(line:Nat){g:Nat}(hg:ca C g):ScOk C (cr C x line g) (ins++[g]):=by
 obtain⟨e,_,_,_,_,h8⟩:=hx.endE hC;have Nu:=hx.argLe hC;refine⟨hg,rfl,?_,?_,?_,?_,by simp[cr]⟩
 ·simp only[cr,ct,c8,d5,i9];have:=hx.first;split
  ·rename_i ho;rw[hx.args ho];omega
  ·omega
 ·simp only[cr,c8,d5,i9];have:=hx.J4;omega
 ·simp[cr]
 ·simp[cr]
theorem va (hC:CxOk C)(hx:ScOk C x ins):0<=ct C x/\ct C x<=8*ins.length+8:=by
 obtain⟨e,_,_,_,_,h8⟩:=hx.endE hC;have Nu:=hx.argLe hC;have:=hx.first;unfold ct;split
 ·rename_i ho;rw[hx.args ho];omega
 ·omega
theorem dy (hC:CxOk C){g:Nat}(hg:ca C g):(localsOf C.p (g:Int)).length<=8/\argsN C.p g<=(localsOf C.p (g:Int)).length:=by obtain⟨ln,h1,h2⟩:=hg;obtain⟨e,h3,h4,h5,_⟩:=hC.fn _ _ h1 h2;rw[argsN,h1];exact⟨h4,h5⟩
theorem yv (hC:CxOk C)(hx:ScOk C x ins)(hi:ins.length<=10)(line:Nat){g:Nat}(hg:ca C g)(d:Int)(s:Gs):Grow 16 s (fY C x line g d s):=by obtain⟨h1,h2⟩:=dy hC hg;have ht:=va hC hx;have h0:Grow 0 s ⟨s.J1,max s.J8 (ct C x+(localsOf C.p (g:Int)).length),s.start⟩:=⟨d8 _,d8 _,g_,fun h=>g_⟩;unfold fY;exact((h0.trans (rf _ _ _ _ _ _)).trans (sI _ _ _ _ _ _ _)).mono o_
theorem tv (x:Sc)(line:Nat)(d:Int)(s:Gs):Grow 1 s (dk C x line d s):=by
 unfold dk;split
 ·exact bp ..
 ·exact(Grow.refl s).mono o_
theorem nu (x:Sc)(k:Nat)(last:Bool)(d:Int)(L:Ls):Grow 1 L.g (bg C x k last d L).g:=by
 unfold bg;split
 ·split
  ·exact bp ..
  ·exact bp ..
 ·split
  ·exact(Grow.refl _).mono o_
  ·exact bp ..
theorem Grow.set {n:Nat}{a b:Gs}{l:List Mp}(h:Grow n a b)(hl:l.length=b.J1.length):Grow n a ⟨l,b.J8,b.start⟩:=⟨by have:=h.ge;simp only[hl];omega,by have:=h.le;simp only[hl];omega,h.J8,h.cap⟩
theorem pJ (M4:∀g d s,ca C g->cU C ins g s.J1.length=true->Grow (dm lev) s (rep x ins line g d s))(hC:CxOk C){k:Nat}{ln:Mq}(hk:C.p[k]?=some ln)(he:bz ln.L5=true)(d:Int)(s:Gs):Grow (20*dm lev) s (eA C rep x ins line (exL ln.L5) d s):=by have h1:=(rt he).2;have h2:=(hC.line _ _ hk).2.2.2.1;rw[h1]at h2;exact(xU M4 _ d s).mono (l8 _ h2)
theorem oX (M4:∀line g d s,ca C g->cU C ins g s.J1.length=true->Grow (dm lev) s (rep x ins line g d s))(hC:CxOk C){k:Nat}{ln:Mq}(hk:C.p[k]?=some ln)(h0:ln.J5≠0)(base:Int)(L:Ls):Grow (20*dm lev+2) L.g (bQ C rep x ins base k ln L).g:=by
 unfold bQ;split
 ·exact((bp ..).set (bU _ _ _)).mono o_
 ·split
  ·split
   ·refine Grow.mono (n:=1+1) ?_ o_;exact(bp ..).trans (nu x k true (base+1) {L with g:=aF C L.g base 0 0 k x.J4})
   ·split
    ·exact(bp ..).mono o_
    ·exact(Grow.refl _).mono o_
  ·rename_i h4 h7;have hl:=hC.line _ _ hk
   have OB:Grow (20*dm lev) L.g (eA C rep x ins k (exL ln.L5) base ⟨L.g.J1,L.g.J8,true⟩):=by have:=pJ (fun g d s=>M4 k g d s) hC hk (hl.2.2.2.2 o_) base ⟨L.g.J1,L.g.J8,true⟩;exact⟨this.ge,this.le,this.J8,this.cap⟩
   split
   ·exact(OB.trans (bp ..)).mono o_
   ·split
    ·exact(OB.trans (bp ..)).mono o_
    ·split
     ·refine Grow.mono (n:=20*dm lev+1) ?_ o_;exact OB.trans (nu x k false (base+1) {L with g:=eA C rep x ins k (exL ln.L5) base ⟨L.g.J1,L.g.J8,true⟩,J9:=L.J9.set k L.g.J1.length})
     ·exact(OB.trans (bp ..)).mono o_
theorem xe (k:Nat)(ln:Mq)(L:Ls):Grow 0 L.g (bH C x k ln L).g:=by
 unfold bH;split
 ·exact(Grow.refl _).set (bU _ _ _)
 ·exact Grow.refl _
theorem yS (M4:∀line g d s,ca C g->cU C ins g s.J1.length=true->Grow (dm lev) s (rep x ins line g d s))(hC:CxOk C)(base:Int):∀(n k:Nat) (L:Ls),(∀i y,k<=i->i<k+n->C.p[i]?=some y->y.J5≠0)->Grow (n*(20*dm lev+3)) L.g (dL C rep x ins base n k L).g
 | 0,k,L,_=>(Grow.refl _).mono o_
 | n+1,k,L,h=>by
  rw[dL];split
  ·rename_i ln hk;exact(((oX M4 hC hk (h k ln (d8 _) o_ hk) base L).trans (xe k ln _)).trans (yS M4 hC base n (k+1) _ fun i y h1 h2 hy=>h i y o_ o_ hy)).mono (by rw[p8];omega)
  ·exact(Grow.refl _).mono o_
theorem V94{p:Prop}(h:p:=by
 by_cases OK:i=e
 ·subst OK;obtain⟨z,hz,h7⟩:=bR h3;rw[hy]at hz;injection hz with hz;subst hz;omega
 ·exact(h4 i y o_ o_ hy).1):p:=h
theorem mI (M4:∀line g d s,ca C g->cU C ins g s.J1.length=true->Grow (dm lev) s (rep x ins line g d s))(hC:CxOk C)(hx:ScOk C x ins)(base:Int)(s:Gs):Grow ((lc C.p x.f-x.f)*(20*dm lev+3)) s (bx C rep x ins base s).1:=by unfold bx;obtain⟨ln,h1,h2⟩:=hx.fn;obtain⟨e,h3,_,_,h4⟩:=hC.fn _ _ h1 h2;obtain⟨e',g3,_,_,g5,_⟩:=hx.endE hC;rw[h3]at g3;injection g3 with g3;subst g3;rw[g5];refine yS M4 hC base (e-x.f) (x.f+1) (cC C s) fun i y k1 k2 hy=>?_;exact V94
end
theorem fQ {C:Cx}{ins:List Nat}{g n:Nat}(h:cU C ins g n=true):(ins.length:Int)<=C.b.MJ/\cB C.p (g:Int)-g<=9/\n<200/\g∉ins:=by unfold cU at h;simp only[b9,j6,v2,List.contains_eq_mem,p9]at h;exact⟨h.1,h.2.1,h.2.2.1,h.2.2.2⟩
theorem il {C:Cx}(hC:CxOk C):∀(lev:Nat) {x:Sc} {ins:List Nat} (line g:Nat) (d:Int) (s:Gs),ScOk C x ins->ca C g->cU C ins g s.J1.length=true->Grow (dm lev) s (cQ C lev x ins line g d s)
 | 0,x,ins,line,g,d,s,hx,hg,hr=>(Grow.refl s).mono o_
 | lev+1,x,ins,line,g,d,s,hx,hg,hr=>by
  obtain⟨r1,r2,_,_⟩:=fQ hr;have hin:=hC.inl;have hy:=kn hC hx line hg;have h1:=yv hC hx o_ line hg d s;have h2:=tv (C:=C) x line (d-argsN C.p g) (fY C x line g d s);have h3:=mI (lev:=lev) (rep:=cQ C lev) (fun line g d s hg hr=>il hC lev line g d s hy hg hr) hC hy (d-argsN C.p g) (dk C x line (d-argsN C.p g) (fY C x line g d s));obtain⟨e,e1,e2,e3,e4,_⟩:=hy.endE hC;have e5:cB C.p (g:Int)=(e:Int):=by rw[cD];exact bY e1
  have e6:lc C.p (cr C x line g).f-(cr C x line g).f<=9:=by rw[e4];show e-g<=9;omega
  have h4:=((h1.trans h2).trans h3).mono (m:=dm (lev+1)) (by
   rw[dm];have:=l8 (20*dm lev+3) e6
   omega)
  show Grow _ s (lZ C (bx C (cQ C lev)) x ins line g d s);unfold lZ;exact h4.set (iq _ _ _)
def lvOk (L:Ls):Prop:=L.lv.length<=L.g.J1.length/\∀j∈L.lv,0<=j/\j<L.g.J1.length
section
variable {C:Cx} {x:Sc} {ins:List Nat} {rep:Sc->List Nat->Nat->Nat->Int->Gs->Gs} {lev:Nat}
theorem lvOk.grow {n:Nat}{L L':Ls}(h:lvOk L)(hl:L'.lv=L.lv)(hg:Grow n L.g L'.g):lvOk L':=⟨by rw[hl];exact v6 h.1 hg.ge,fun j hj=>by
 rw[hl]at hj;have:=h.2 j hj;have:=hg.ge
 omega⟩
theorem xV {L:Ls}(h:lvOk L)(k:Nat)(last:Bool)(d:Int):lvOk (bg C x k last d L):=by
 have hg:=nu (C:=C) x k last d L;unfold bg at hg⊢;split
 ·rename_i ho;rw[c7 ho]at hg;split
  ·rename_i hf;rw[c7 hf]at hg;exact h.grow rfl hg
  ·rename_i hf;rw[b8 hf]at hg;exact h.grow rfl hg
 ·split
  ·exact h
  ·refine⟨by have:=h.1;simp only[aF,c8,d5,i9];omega,?_⟩;intro j hj;simp only[f0,d7,l9,or_false]at hj;simp only[aF,c8,d5,i9];rcases hj with hj|rfl
   ·have:=h.2 j hj;omega
   ·omega
theorem BU (M4:∀line g d s,ca C g->cU C ins g s.J1.length=true->Grow (dm lev) s (rep x ins line g d s))(hC:CxOk C){k:Nat}{ln:Mq}(hk:C.p[k]?=some ln)(h0:ln.J5≠0)(base:Int){L:Ls}(h:lvOk L):lvOk (bQ C rep x ins base k ln L):=by
 have hg:=oX (x:=x) (ins:=ins) (rep:=rep) (lev:=lev) M4 hC hk h0 base L;unfold bQ at hg⊢;split
 ·rename_i h4;rw[c7 h4]at hg;exact h.grow rfl hg
 ·rename_i h4;rw[b8 h4]at hg;split
  ·rename_i h7;rw[c7 h7]at hg;split
   ·exact xV (h.grow (L':={L with g:=aF C L.g base 0 0 k x.J4}) rfl (bp ..)) _ _ _
   ·rename_i ho;rw[b8 ho]at hg;split
    ·rename_i h5;rw[c7 h5]at hg;exact h.grow rfl hg
    ·exact h
  ·rename_i h7;have hl:=hC.line _ _ hk;have OB:=pJ (x:=x) (ins:=ins) (rep:=rep) (line:=k) (lev:=lev) (fun g d s=>M4 k g d s) hC hk (hl.2.2.2.2 o_) base ⟨L.g.J1,L.g.J8,true⟩;have Rt:lvOk {L with g:=eA C rep x ins k (exL ln.L5) base ⟨L.g.J1,L.g.J8,true⟩,J9:=L.J9.set k L.g.J1.length}:=h.grow rfl ⟨OB.ge,OB.le,OB.J8,OB.cap⟩;split
   ·exact Rt.grow rfl (bp ..)
   ·split
    ·exact Rt.grow rfl (bp ..)
    ·split
     ·exact xV Rt _ _ _
     ·exact Rt.grow rfl (bp ..)
theorem CI (k:Nat)(ln:Mq){L:Ls}(h:lvOk L):lvOk (bH C x k ln L):=by
 have hg:=xe (C:=C) (x:=x) k ln L;unfold bH at hg⊢;split
 ·rename_i h1;rw[c7 h1]at hg;exact h.grow rfl hg
 ·exact h
theorem EY (M4:∀line g d s,ca C g->cU C ins g s.J1.length=true->Grow (dm lev) s (rep x ins line g d s))(hC:CxOk C)(base:Int):∀(n k:Nat) (L:Ls),(∀i y,k<=i->i<k+n->C.p[i]?=some y->y.J5≠0)->lvOk L->lvOk (dL C rep x ins base n k L)
 | 0,k,L,_,h=>h
 | n+1,k,L,hf,h=>by
  rw[dL];split
  ·rename_i ln hk;exact EY M4 hC base n (k+1) _ (fun i y h1 h2 hy=>hf i y o_ o_ hy) (CI k ln (BU M4 hC hk (hf k ln (d8 _) o_ hk) base h))
  ·exact h
theorem jZ (hC:CxOk C)(hx:ScOk C x ins){e:Nat}(he:endAt C.p x.f=some e){i:Nat}{y:Mq}(h1:x.f+1<=i)(h2:i<=e)(hy:C.p[i]?=some y):y.J5≠0:=by
 obtain⟨ln,g1,g2⟩:=hx.fn;obtain⟨e',h3,_,_,h4⟩:=hC.fn _ _ g1 g2;rw[he]at h3;injection h3 with h3;subst h3;by_cases OK:i=e
 ·subst OK;obtain⟨z,hz,h7⟩:=bR he;rw[hy]at hz;injection hz with hz;subst hz;omega
 ·exact(h4 i y o_ o_ hy).1
theorem Gn (M4:∀line g d s,ca C g->cU C ins g s.J1.length=true->Grow (dm lev) s (rep x ins line g d s))(hC:CxOk C)(hx:ScOk C x ins)(base:Int)(s:Gs):(bx C rep x ins base s).2.length<=(bx C rep x ins base s).1.J1.length/\∀j∈(bx C rep x ins base s).2,0<=j/\j<((bx C rep x ins base s).1.J1.length:Int):=by unfold bx;obtain⟨e,g3,g4,_,g5,_⟩:=hx.endE hC;rw[g5];exact EY M4 hC base (e-x.f) (x.f+1) (cC C s) (fun i y k1 k2 hy=>jZ hC hx g3 k1 o_ hy) ⟨by simp[cC],by intro j hj;simp[cC]at hj⟩
end
theorem tz (v j:Int):∀(js:List Int) (l:List Mp),patchL l v (js++[j])=cf (patchL l v js) j v
 | [],l=>by rw[t7,patchL,patchL,patchL]
 | a::js,l=>by rw[u3,patchL,tz v j js,patchL]
end Go.Proofs.P
namespace Go.Proofs.P
open Go.Sim Tryz
def dc (l:List Mp)(v to:Int):List (Int×Int)->List Mp
 | []=>l
 | e::r=>dc (if e.1=to then cf l e.2 v else l) v to r
theorem vj (v to:Int):∀(E:List (Int×Int)) (l:List Mp),(dc l v to E).length=l.length
 | [],l=>rfl
 | e::r,l=>by
  rw[dc,vj v to r];split
  ·rw[bU]
  ·rfl
theorem kF (v to:Int):∀(A B:List (Int×Int)) (l:List Mp),dc l v to (A++B)=dc (dc l v to A) v to B
 | [],B,l=>rfl
 | a::A,B,l=>by rw[u3,dc,kF v to A B,dc]
theorem BS (v to:Int)(e:Int×Int)(E:List (Int×Int))(l:List Mp):dc l v to (E++[e])=if e.1=to then cf (dc l v to E) e.2 v else dc l v to E:=by rw[kF];rfl
def jumps (p:List Mq)(i:Nat):Prop:=kindAt p i=3\/kindAt p i=4\/kindAt p i=5
instance (p:List Mq) (i:Nat):Decidable (jumps p i):=by unfold jumps;infer_instance
def fv (p:List Mq)(i:Nat):Int:=if kindAt p i=4 then cB p (ownOf p i:Int)+1 else if kindAt p i=3/\0<=cG p (i:Int)then-cG p (i:Int)else cB p (i:Int)+1
def entry (p:List Mq)(pos:List Int)(i:Nat):List (Int×Int):=if jumps p i then [(fv p i,atL pos i)]else []
def bo (p:List Mq)(pos:List Int)(f:Nat):Nat->List (Int×Int)
 | 0=>[]
 | n+1=>bo p pos f n++entry p pos (f+n)
theorem po (p:List Mq)(pos:List Int)(f:Nat):∀n,(bo p pos f n).length<=n
 | 0=>d8 _
 | n+1=>by
  have:=po p pos f n;rw[bo,c8,entry];split<;>simp<;>omega
theorem gu {l:List Int}{k i:Nat}{v:Int}(h:i≠k):atL (l.set k v) i=atL l i:=by unfold atL;rw[C8 (fun e=>h e.symm)]
theorem fH {l:List Int}{k:Nat}{v:Int}(h:k<l.length):atL (l.set k v) k=v:=by unfold atL;rw[x7 h];rfl
theorem vp (p:List Mq)(pos:List Int)(f k:Nat)(v:Int):∀n,f+n<=k->bo p (pos.set k v) f n=bo p pos f n
 | 0,_=>rfl
 | n+1,h=>by
  rw[bo,bo,vp p pos f k v n o_,entry,entry,gu o_]
theorem lB {p:List Mq}{pos:List Int}{f k:Nat}(h:f+1<=k)(hj:¬jumps p k):bo p pos (f+1) (k+1-(f+1))=bo p pos (f+1) (k-(f+1)):=by rw[show k+1-(f+1)=(k-(f+1))+1 by omega,bo,show f+1+(k-(f+1))=k by omega,entry,b8 hj,m7]
theorem ve {p:List Mq}{pos:List Int}{f k:Nat}(h:f+1<=k)(hj:jumps p k)(hk:k<pos.length)(v:Int):bo p pos (f+1) (k-(f+1))++[(fv p k,v)]=bo p (pos.set k v) (f+1) (k+1-(f+1)):=by rw[show k+1-(f+1)=(k-(f+1))+1 by omega,bo,vp _ _ _ _ _ _ o_,show f+1+(k-(f+1))=k by omega,entry,c7 hj,fH hk]
theorem lu {p:List Mq}{pos:List Int}{f:Nat}:∀{n:Nat} {e:Int×Int},e∈bo p pos f n->∃i,f<=i/\i<f+n/\jumps p i/\e=(fv p i,atL pos i)
 | 0,e,h=>by simp[bo]at h
 | n+1,e,h=>by
  rw[bo,f0]at h;rcases h with h|h
  ·obtain⟨i,h1,h2,h3⟩:=lu h;exact⟨i,h1,o_,h3⟩
  ·rw[entry]at h;split at h
   ·rename_i hj;simp only[d7,l9,or_false]at h;exact⟨f+n,o_,o_,hj,h⟩
   ·cases h
theorem jW {v to:Int}:∀{E:List (Int×Int)} {l:List Mp},(∀e∈E,e.1≠to)->dc l v to E=l
 | [],_,_=>rfl
 | e::r,l,h=>by rw[dc,b8 (h e s_),jW fun x hx=>h x aap]
theorem rz {p:List Mq}{pos:List Int}{f i0:Nat}{v to:Int}(hj:jumps p i0)(ht:fv p i0=to):∀{n:Nat} {l:List Mp},f<=i0->i0<f+n->(∀i,f<=i->i<f+n->jumps p i->fv p i=to->i=i0)->dc l v to (bo p pos f n)=cf l (atL pos i0) v
 | 0,l,h1,h2,_=>o_
 | n+1,l,h1,h2,hu=>by
  rw[bo,kF];by_cases h:i0=f+n
  ·subst h
   rw[jW (E:=bo p pos f n) (fun e he=>by
    obtain⟨i,k1,k2,k3,rfl⟩:=lu he;intro hh;have:=hu i k1 o_ k3 hh
    omega)]
   rw[entry,c7 hj];show(if(fv p (f+n),atL pos (f+n)).1=to then _ else _)=_;rw[c7 ht]
  ·rw[rz hj ht h1 o_ fun i k1 k2 k3 k4=>hu i k1 o_ k3 k4];refine jW fun e he=>?_;rw[entry]at he;split at he
   ·rename_i Qs;simp only[d7,l9,or_false]at he;subst he;intro hh;exact h (hu (f+n) o_ o_ Qs hh).symm
   ·cases he
theorem be {p:List Mq}{k:Nat}{ln:Mq}(h:p[k]?=some ln):kindAt p k=ln.J5:=by rw[kindAt,h]
theorem pA {p:List Mq}{i:Nat}{m:Int}(h:cB p (i:Int)=m)(h0:0<=m):endAt p i=some m.toNat:=by
 rw[cD]at h
 cases he:endAt p i with|none=>rw[he]at h;simp only[cS]at h;omega|some e=>rw[he]at h;simp only[cS]at h;congr 1;omega
theorem jJ (p:List Mq)(i:Nat):-1<=cB p (i:Int)/\cB p (i:Int)<=p.length:=by
 rw[cD]
 cases he:endAt p i with|none=>simp only[cS];omega|some e=>obtain⟨_,_,_,_,_,h⟩:=aN he;simp only[cS];omega
theorem dw {p:List Mq}{i:Nat}:cG p (i:Int)=cS (elseAt p i):=by rw[cG,c7 o_,d6]
theorem Dd {p:List Mq}{i:Nat}(h:kindAt p i≠3):elseAt p i=none:=by
 cases he:elseAt p i with
 | none=>rfl
 | some j=>obtain⟨y,_,hy,h3,_⟩:=bA he;exact absurd (by rw[be hy];exact h3) h
section
variable {C:Cx} {x:Sc} {ins:List Nat}
theorem qf (hC:CxOk C)(hx:ScOk C x ins){e:Nat}(he:endAt C.p x.f=some e){k i:Nat}(h1:x.f+1<=i)(h2:i<k)(h3:k<=e)(hj:jumps C.p i)(ht:fv C.p i=(k:Int)):kindAt C.p (k-1)=7/\ownOf C.p (k-1)≠x.f/\iT C.p (k-1)=i:=by
 have N6:i<C.p.length:=by obtain⟨_,_,_,_,_,h⟩:=aN he;omega
 obtain⟨y,hy⟩:=ae N6;have Tv:=be hy;unfold fv at ht;by_cases h4:kindAt C.p i=4
 ·rw[c7 h4]at ht;obtain⟨o1,o2,o3,o4⟩:=hx.own4 hC he o_ o_ hy (by rw[<-Tv];exact h4);have Oi:=pA (show cB C.p (ownOf C.p i:Int)=((k-1:Nat):Int) by omega) o_;rw[d6]at Oi;obtain⟨z,hz,h7⟩:=bR Oi;rw[ko Oi,be hz];refine⟨h7,o_,?_⟩;rw[iT,ko Oi,o1]
 ·rw[b8 h4]at ht;split at ht
  ·omega
  ·rename_i hn;have Oi:=pA (show cB C.p (i:Int)=((k-1:Nat):Int) by omega) o_;rw[d6]at Oi;obtain⟨z,hz,h7⟩:=bR Oi;rw[ko Oi,be hz];refine⟨h7,o_,?_⟩;rw[iT,ko Oi]
   have:elseAt C.p i=none:=by
    by_cases P2:kindAt C.p i=3
    ·cases NC:elseAt C.p i with|none=>rfl|some j=>exact absurd ⟨P2,by rw[dw,NC];simp[cS]⟩ hn
    ·exact Dd P2
   rw[this]
theorem zx (hC:CxOk C)(hx:ScOk C x ins){e:Nat}(he:endAt C.p x.f=some e){j:Nat}{ln:Mq}(h1:x.f<j)(h2:j<e)(hl:C.p[j]?=some ln)(h7:ln.J5=7):x.f+1<=iT C.p j/\iT C.p j<j/\jumps C.p (iT C.p j)/\fv C.p (iT C.p j)=((j+1:Nat):Int)/\ownOf C.p j≠x.f:=by
 obtain⟨o1,o2⟩:=hx.own7 hC he h1 o_ hl h7;rcases o2 with⟨o2,_⟩|⟨_,o3,o4,y,hy,ho⟩
 ·omega
 have Tv:=be hy;have Qd:cB C.p (ownOf C.p j:Int)=(j:Int):=by rw[cD];exact bY o1
 unfold iT
 cases NC:elseAt C.p (ownOf C.p j)with
 | none=>
  dsimp only;refine⟨o_,o4,by unfold jumps;omega,?_,o_⟩;unfold fv;rw[b8 o_,b8 (by rw[dw,NC];simp[cS]),Qd]
  omega
 | some m=>obtain⟨z,m1,hz,z3,Sb,k1,k2,w,hw,w4⟩:=bA NC;rw[o1]at Sb;injection Sb with Sb;have hkw:=be hw;refine⟨g_,g_,by unfold jumps;dsimp only;omega,?_,o_⟩;unfold fv;dsimp only;rw[c7 o_,vC NC,Qd];omega
structure LInv (C:Cx) (lev:Nat) (x:Sc) (ins:List Nat) (d:Int) (e:Nat) (R:Ls) (k:Nat) (L:Ls):Prop where
 lo:x.f+1<=k
 hi:k<=e+1
 J9:L.J9.length=C.p.length
 pos:L.pos.length=C.p.length
 at_:∀i,x.f<i->i<k->jumps C.p i->0<=atL L.pos i/\atL L.pos i<L.g.J1.length
 lv:lvOk L
 room:L.g.J1.length+(e+1-k)*(20*dm lev+3)<=68719476736
 fin:dL C (cQ C lev) x ins d (e+1-k) k L=R
theorem Ee (rep:Sc->List Nat->Nat->Nat->Int->Gs->Gs)(base:Int)(k:Nat)(ln:Mq)(L:Ls):(bQ C rep x ins base k ln L).J9.length=L.J9.length/\(bQ C rep x ins base k ln L).pos.length=L.pos.length:=by
 unfold bQ bg;repeat' split
 all_goals simp
theorem uS (k:Nat)(ln:Mq)(L:Ls):(bH C x k ln L).J9=L.J9/\(bH C x k ln L).pos=L.pos/\(bH C x k ln L).lv=L.lv/\(bH C x k ln L).g.J1.length=L.g.J1.length/\(bH C x k ln L).g.J8=L.g.J8/\(bH C x k ln L).g.start=L.g.start:=by
 unfold bH;split
 ·exact⟨rfl,rfl,rfl,bU _ _ _,rfl,rfl⟩
 ·exact⟨rfl,rfl,rfl,rfl,rfl,rfl⟩
theorem Hq (rep:Sc->List Nat->Nat->Nat->Int->Gs->Gs)(base:Int)(k:Nat)(ln:Mq)(L:Ls)(hp:k<L.pos.length)(i:Nat):
  (i≠k->atL (bQ C rep x ins base k ln L).pos i=atL L.pos i)/\((ln.J5=3\/ln.J5=4\/ln.J5=5)->0<=atL (bQ C rep x ins base k ln L).pos k/\atL (bQ C rep x ins base k ln L).pos k<(bQ C rep x ins base k ln L).g.J1.length):=by
 unfold bQ;by_cases h4:ln.J5=4
 ·rw[c7 h4];refine⟨fun hi=>gu hi,fun _=>?_⟩;simp only[fH hp,bU,aF,c8,d5,i9];omega
 ·rw[b8 h4];by_cases h7:ln.J5=7
  ·rw[c7 h7];refine⟨fun _=>?_,fun h=>o_⟩;unfold bg;repeat' split
   all_goals rfl
  ·rw[b8 h7];by_cases h1:ln.J5=1
   ·rw[c7 h1];exact⟨fun _=>rfl,fun h=>o_⟩
   ·rw[b8 h1];by_cases h2:ln.J5=2
    ·rw[c7 h2];exact⟨fun _=>rfl,fun h=>o_⟩
    ·rw[b8 h2];by_cases h6:ln.J5=6
     ·rw[c7 h6];refine⟨fun _=>?_,fun h=>o_⟩;unfold bg;repeat' split
      all_goals rfl
     ·rw[b8 h6];refine⟨fun hi=>gu hi,fun _=>?_⟩;simp only[fH hp,aF,c8,d5,i9];omega
theorem LInv.next (hC:CxOk C)(hx:ScOk C x ins){lev e k:Nat}{d:Int}{R L:Ls}{ln:Mq}(he:endAt C.p x.f=some e)(h:LInv C lev x ins d e R k L)(hk:k<=e)(hl:C.p[k]?=some ln):LInv C lev x ins d e R (k+1) (bH C x k ln (bQ C (cQ C lev) x ins d k ln L)):=by
 have h0:=jZ hC hx he h.lo hk hl;have M4:∀line g d s,ca C g->cU C ins g s.J1.length=true->Grow (dm lev) s (cQ C lev x ins line g d s):=fun line g d s hg hr=>il hC lev line g d s hx hg hr;have hA:=oX (lev:=lev) (rep:=cQ C lev) M4 hC hl h0 d L;obtain⟨b1,b2,b3,b4,b5,b6⟩:=uS (C:=C) (x:=x) k ln (bQ C (cQ C lev) x ins d k ln L);obtain⟨a1,a2⟩:=Ee (C:=C) (x:=x) (ins:=ins) (cQ C lev) d k ln L;have Nk:=hA.ge;have Nu:=hA.le;have hr:=h.room;refine⟨by have:=h.lo;omega,o_,by rw[b1,a1];exact h.J9,by rw[b2,a2];exact h.pos,fun i h1 h2 hj=>?_,CI k ln (BU (lev:=lev) M4 hC hl h0 d h.lv),?_,?_⟩
 ·rw[b2,b4];obtain⟨p1,p2⟩:=Hq (C:=C) (x:=x) (ins:=ins) (cQ C lev) d k ln L (by rw[h.pos];exact aI hl) i;by_cases O9:i=k
  ·subst O9;refine p2 ?_;unfold jumps at hj;rw[be hl]at hj;exact hj
  ·rw[p1 O9];have:=h.at_ i h1 o_ hj;omega
 ·rw[b4];obtain⟨n,hn⟩:∃n,e+1-k=n+1:=⟨e-k,o_⟩;rw[hn,p8]at hr;rw[show e+1-(k+1)=n by omega];omega
 ·have hf:=h.fin;obtain⟨n,hn⟩:∃n,e+1-k=n+1:=⟨e-k,o_⟩;rw[hn,dL,hl]at hf;rw[show e+1-(k+1)=n by omega];exact hf
theorem Di (hC:CxOk C)(hx:ScOk C x ins){e k:Nat}{ln:Mq}(he:endAt C.p x.f=some e)(h1:x.f+1<=k)(hk:k<=e)(hl:C.p[k]?=some ln)(A:Ls):
  (k+1<=e->dc A.g.J1 A.g.J1.length ((k+1:Nat):Int) (bo C.p A.pos (x.f+1) (k+1-(x.f+1)))=(bH C x k ln A).g.J1)/\(k=e->A.g.J1=(bH C x k ln A).g.J1):=by
 constructor
 ·intro Ob;unfold bH;by_cases h7:ln.J5=7
  ·obtain⟨q1,q2,q3,q4,q5⟩:=zx hC hx he o_ o_ hl h7;rw[c7 ⟨h7,q5⟩];refine rz q3 q4 q1 o_ fun i k1 k2 k3 k4=>?_;obtain⟨_,_,t3⟩:=qf hC hx he (k:=k+1) k1 o_ Ob k3 k4;rw[Nat.add_sub_cancel]at t3;exact t3.symm
  ·rw[b8 o_];refine jW fun z hz=>?_;obtain⟨i,k1,k2,k3,rfl⟩:=lu hz;intro hh;obtain⟨t1,_⟩:=qf hC hx he (k:=k+1) k1 o_ Ob k3 hh;rw[Nat.add_sub_cancel,be hl]at t1;exact h7 t1
 ·rintro rfl;unfold bH;rw[b8];rintro⟨_,h⟩;exact h (ko he)
theorem Dm (hC:CxOk C)(hx:ScOk C x ins){e k:Nat}{ln:Mq}(he:endAt C.p x.f=some e)(h1:x.f+1<=k)(hk:k<=e)(hl:C.p[k]?=some ln)(h4:ln.J5=4)(pos:List Int)(l:List Mp)(v:Int):
  dc l v (-(k:Int)) (bo C.p pos (x.f+1) (k+1-(x.f+1)))=cf l (atL pos (ownOf C.p k)) v:=by
 obtain⟨o1,o2,o3,o4⟩:=hx.own4 hC he h1 hk hl h4;obtain⟨y,m,hy,y3,hm,_,_,_⟩:=bA o1;have Tv:=be hy;have NC:cG C.p (ownOf C.p k:Int)=(k:Int):=by rw[dw];exact bY o1
 refine rz (by unfold jumps;omega) (by unfold fv;rw[b8 o_,c7 ⟨o_,o_⟩,NC]) o_ o_ fun i k1 k2 k3 k4=>?_;unfold fv at k4;by_cases YY:kindAt C.p i=4
 ·rw[c7 YY]at k4;have:=jJ C.p (ownOf C.p i);omega
 ·rw[b8 YY]at k4;split at k4
  ·rename_i h3;have PR:cG C.p (i:Int)=(k:Int):=o_;rw[dw]at PR
   cases OK:elseAt C.p i with
   | none=>rw[OK]at PR;simp only[cS]at PR;omega
   | some j=>rw[OK]at PR;simp only[cS]at PR;have:j=k:=o_;subst this;exact pa OK o1
  ·have:=jJ C.p i;omega
end
theorem pb (l:List Mz)(hl:l.length<=1048576):Sim.Spec prog 257 [tvL 3 (l.map Mz.tr)] (rL 3 (l.map Mz.tr)):=by
 refine bI hΓ aE func257 rfl d_ rfl ?_;repeat' ((conv=>whnf);first|apply Wx|apply W6|apply oi|apply fi|intro h|exact Y7|refine e_ rfl ?_)
 all_goals try exact Q1
 all_goals try exact⟨⟨rfl,aV _⟩⟩
theorem wT (x:Mq)(hs:az 1048576 x.tr):Sim.Spec prog 239 [.agg x.tr] (.r (.agg (x.tr.map oS))):=by
 refine bI hΓ aE func239 rfl d_ rfl ?_;obtain⟨h1,h2,h3,h4,h5⟩:=fT hs;have hT:=pb x.L5 h4;repeat' ((conv=>whnf);first|apply Wx|apply W6|apply oi|apply fi|intro h|refine cl hT ?_|exact Y7|refine e_ rfl ?_)
 all_goals try exact Q1
 all_goals try exact⟨⟨rfl,kQ _⟩⟩
theorem BW {α β:Type}(f:α->β)(l:List α)(k:Nat)(x:α)(hx:l[k]?=some x):(l.take (k+1)).map f=(l.take k).map f++[f x]:=by rw[B5,hx,u5];rfl
theorem Q14{p:Prop}(h:p:=by exact⟨aV _⟩):p:=h
theorem qV (l:List Mq)(hs:ao 1048576 (.lst 4 (l.map Mq.tr))):bE prog 195 [vP l] [] (.r (.c (.own (1,0,0)))) [((1,0,0),.dar 4 (aL (l.map Mq.tr)) none)]:=by
 refine aD hΓ aE func195 rfl d_ rfl rfl ?_;have hl:=bi hs;have M0:(l.map Mq.tr).length=l.length:=s_;repeat' ((conv=>whnf);first|apply Wx|apply W6|apply oi|apply fi|intro h|exact Y7|refine e_ rfl ?_)
 conv=>whnf
 refine⟨{k:Nat//k<=l.length},fun q=>⟨[(0,vP l),(3,.r (.c (.own (3,0,0)))),(4,tI .i64 (q.1:Int))],[((3,0,0),some (.dar 4 (aL ((l.take q.1).map Mq.tr)) none))],[3,0]⟩,fun q=>l.length-q.1,⟨0,o_⟩,?_,?_⟩
 ·exact Z2
 intro⟨k,hk⟩;dsimp only at hk⊢;by_cases M3:k<l.length
 ·obtain⟨x,hx⟩:=ae M3;have Ro:(aL ((l.take k).map Mq.tr)).length=k:=by rw[jc,e7,j8];omega
  have hC:=wT x (aZ hs (c9 hx));repeat' ((conv=>whnf);first|apply Wx|apply W6|apply oi|apply fi|intro h|refine⟨k,x.tr,rfl,ab hx,?_⟩|refine cl hC ?_|exact Y5|refine e_ rfl ?_)
  all_goals try exact Q14
  all_goals try exact⟨kQ _⟩
  all_goals try exact⟨⟨by rw[Ro];(try dsimp only);simp<;>omega,by rw[Ro];(try dsimp only);simp<;>omega⟩⟩
  repeat' ((conv=>whnf);first|apply Wx|apply W6|apply oi|apply fi|intro h|exact Y7|refine e_ rfl ?_)
  conv=>whnf
  refine⟨⟨k+1,o_⟩,?_,KD⟩;repeat' ((conv=>whnf);first|apply Wx|apply W6|apply oi|apply fi|intro h|exact Y6|refine e_ rfl ?_)
  all_goals exact⟨by rw[BW Mq.tr l k x hx];simp[aL,Mq.tr]⟩
 ·repeat' ((conv=>whnf);first|apply Wx|apply W6|apply oi|apply fi|intro h|exact Y5|refine e_ rfl ?_)
  all_goals exact⟨by rw[i7 o_]⟩
noncomputable def lW (l:List Mz):List Mz:=if h:bz l=true then(Classical.choose (jk h)).fold.toks else []
theorem we {l:List Mz}(h:bz l=true):∃e:Ex,e.ok/\l=e.toks/\lW l=e.fold.toks:=by have hc:=l6 (jk h);exact⟨_,hc.1,hc.2,by rw[lW,dif_pos h]⟩
theorem wE {l:List Mz}(h:bz l=false):lW l=[]:=by rw[lW,dif_neg aaM]
theorem yL (l:List Mz):(lW l).length<=l.length:=by
 cases h:bz l with
 | false=>rw[wE h];simp
 | true=>obtain⟨e,_,h1,h2⟩:=we h;rw[h2,h1];exact e.fold_le
theorem ue (l:List Mz)(hl:l.length<=1048576)(hn:jv l):Sim.Spec prog 196 [tvL 3 (l.map Mz.tr)] (rL 3 ((lW l).map Mz.tr)):=by
 refine bI hΓ aE func196 rfl d_ rfl ?_;have hE:=ox l hl hn
 cases h:bz l with
 | false=>
  rw[h]at hE;rw[wE h]
  repeat' ((conv=>whnf);first|apply Wx|apply W6|apply oi|apply fi|intro h|refine cl hE ?_|exact Y5|refine e_ rfl ?_)
 | true=>
  rw[h]at hE;obtain⟨e,h1,h2,h3⟩:=we h;have hF:=nB e.toks.length e (d8 _) l 0 hl hn h1 ⟨[],by rw[C2,m7];exact h2⟩;rw[h3]
  generalize e.fold.toks=r at *
  repeat' ((conv=>whnf);first|apply Wx|apply W6|apply oi|apply fi|intro h|refine cl hE ?_|refine cl hF ?_|exact Y5|refine e_ rfl ?_)
noncomputable def aO (x:Mq):Mq:=if 0<x.L5.length then⟨x.J5,x.L0,x.L9,lW x.L5⟩else x
noncomputable def fO (l:List Mq) (k:Nat):List Mq:=(l.take k).map aO++l.drop k
theorem Bp (l:List Mq)(k:Nat):(fO l k).length=l.length:=by simp[fO];omega
theorem mv {l:List Mq}{k:Nat}{x:Mq}(hx:l[k]?=some x):(fO l k)[k]?=some x:=by
 have hk:k<l.length:=by exact V120
 rw[fO,m6 aab];simp only[e7,j8];rw[y8 o_,x6,v3];exact hx
theorem pX {l:List Mq}{k:Nat}{x:Mq}(hx:l[k]?=some x):fO l (k+1)=(fO l k).set k (aO x):=by
 have hk:k<l.length:=by exact V120
 rw[fO,fO,BW aO l k x hx,cJ hx,D9 _ _ aab];simp only[e7,j8];rw[y8 o_,x6,D6,j9];rfl
noncomputable def jz (l:List Mq):List Mq:=if aj l=true then l.map aO else []
theorem oY (l:List Mq)(hs:ao 1048576 (.lst 4 (l.map Mq.tr))):Sim.Spec prog 132 [tvP l] (rL 4 ((jz l).map Mq.tr)):=by
 refine bI hΓ aE func132 rfl d_ rfl ?_;have hl:=bi hs;have hP:=dQ l hs;have hC:=qV l hs
 cases TL:aj l with
 | false=>
  rw[TL]at hP;have:jz l=[]:=by rw[jz,b8 (by simp[TL])]
  rw[this]
  repeat' ((conv=>whnf);first|apply Wx|apply W6|apply oi|apply fi|intro h|refine cl hP ?_|exact Y5|refine e_ rfl ?_)
 | true=>
  rw[TL]at hP;have:jz l=l.map aO:=by rw[jz,c7 TL]
  rw[this];repeat' ((conv=>whnf);first|apply Wx|apply W6|refine cg hC ?_|apply oi|apply fi|intro h|refine cl hP ?_|exact Y5|refine e_ rfl ?_)
  conv=>whnf
  refine⟨{k:Nat//k<=l.length},fun q=>⟨[(3,.r (.c (.own (3,0,0)))),(4,tI .i64 (q.1:Int))],[((3,0,0),some (.dar 4 (aL ((fO l q.1).map Mq.tr)) none))],[3]⟩,fun q=>l.length-q.1,⟨0,o_⟩,?_,?_⟩
  ·exact Z2
  intro⟨k,hk⟩;dsimp only at hk⊢;have Ro:(aL ((fO l k).map Mq.tr)).length=l.length:=by rw[jc,e7,Bp]
  by_cases M3:k<l.length
  ·obtain⟨x,hx⟩:=ae M3;obtain⟨h1,h2,h3,h4,h5⟩:=fT (aZ hs (c9 hx));have hF:=ue x.L5 h4 (fun y hy=>by have:=h5 y hy;omega);have NL:k<(aL ((fO l k).map Mq.tr)).length:=(by rw[Ro];exact M3);have Sj:(x.L5.map Mz.tr).length=x.L5.length:=s_;by_cases Ny:0<x.L5.length
   ·have Nh:aO x=⟨x.J5,x.L0,x.L9,lW x.L5⟩:=(by rw[aO,c7 Ny]);repeat' ((conv=>whnf);first|apply Wx|apply W6|apply oi|apply fi|intro h|refine⟨k,rfl,NL,?_⟩|refine⟨k,rfl,aaD,?_⟩|refine⟨_,jj (ab (mv hx)),?_⟩|refine⟨_,(x7 aaD),?_⟩|refine cl hF ?_|exact Y7|refine e_ rfl ?_)
    all_goals try exact Q14
    all_goals try(exfalso;have h':=e8 h;rw[Ro]at h';omega)
    all_goals try(exfalso;have h':=e8 h;rw[Sj]at h';omega)
    conv=>whnf
    refine⟨⟨k+1,o_⟩,?_,KD⟩;repeat' ((conv=>whnf);first|apply Wx|apply W6|apply oi|apply fi|intro h|exact Y7|refine e_ rfl ?_)
    all_goals try exact Q14
    all_goals try exact⟨K1⟩
    all_goals(refine⟨?_⟩;(try dsimp only);rw[pX hx,F9,<-rj,Nh];simp[Mq.tr])
   ·have Nh:aO x=x:=(by rw[aO,b8 Ny]);repeat' ((conv=>whnf);first|apply Wx|apply W6|apply oi|apply fi|intro h|refine⟨k,rfl,NL,?_⟩|refine⟨k,rfl,aaD,?_⟩|refine⟨_,jj (ab (mv hx)),?_⟩|refine⟨_,(x7 aaD),?_⟩|refine cl hF ?_|exact Y7|refine e_ rfl ?_)
    all_goals try exact Q14
    all_goals try(exfalso;have h':=e8 h;rw[Ro]at h';omega)
    all_goals try(exfalso;have h':=d9 h;rw[Sj]at h';omega)
    conv=>whnf
    refine⟨⟨k+1,o_⟩,?_,KD⟩;repeat' ((conv=>whnf);first|apply Wx|apply W6|apply oi|apply fi|intro h|refine⟨k,rfl,NL,?_⟩|refine⟨k,rfl,aaD,?_⟩|refine⟨_,jj (ab (mv hx)),?_⟩|refine⟨_,(x7 aaD),?_⟩|exact Y7|refine e_ rfl ?_)
    all_goals try exact Q14
    all_goals try exact⟨K1⟩
    all_goals(refine⟨?_⟩;(try dsimp only);rw[pX hx,F9,<-rj,Nh];simp[Mq.tr])
  ·repeat' ((conv=>whnf);first|apply Wx|apply W6|apply oi|apply fi|intro h|exact Y5|refine e_ rfl ?_)
   all_goals exact⟨by rw[fO,i7 o_,m9 o_,m7]⟩
structure PgOk (p:List Mq):Prop where
 len:p.length<=60
 small:ao 1048576 (.lst 4 (p.map Mq.tr))
 line:∀(k:Nat) (ln:Mq),p[k]?=some ln->0<=ln.J5/\ln.J5<=7/\ln.L9.length<=4/\ln.L5.length<=20/\((ln.J5=1\/ln.J5=2\/ln.J5=3\/ln.J5=5\/ln.J5=6)->bz ln.L5=true)
 fn:∀(g:Nat) (ln:Mq),p[g]?=some ln->ln.J5=0->∃e,endAt p g=some e/\(localsOf p (g:Int)).length<=8/\ln.L9.length<=(localsOf p (g:Int)).length/\∀(k:Nat) (y:Mq),g<k->k<e->p[k]?=some y->y.J5≠0/\(∀t∈y.L5,t.J5=7->∃f,findN p 0 t.L0=some f/\(argsN p f:Int)=t.MI)/\(y.J5=4->∃i,g<=i/\i<k/\elseAt p i=some k)
theorem PgOk.cx {p:List Mq}(h:PgOk p){b:Mi}{framed:Bool}{words args:Int}(ha:0<=args/\args<=4)(hw:0<=words/\words<=1000)(hi:0<=b.MJ/\b.MJ<=3):CxOk ⟨p,b,framed,words,args⟩:=
 ⟨h.len,h.small,h.line,h.fn,ha,hw,hi⟩
theorem py {F:Nat->Nat->Bool}{l:List Mq}(hF:∀k e,endAt l k=some e->F k e=true->∀i x,k<i->i<e->l[i]?=some x->x.J5≠0):∀(n k:Nat),bT F l n k=true->∀g x,k<=g->l[g]?=some x->x.J5=0->∃e,endAt l g=some e/\F g e=true
 | 0,k,h,g,x,hk,hg,_=>by
  rw[bT,j6]at h;have:=aI hg
  omega
 | n+1,k,h,g,x,hk,hg,h0=>by
  rw[bT,c7 (by have:=aI hg;omega)]at h;split at h
  ·rename_i y e hy he;split at h
   ·rename_i hc;by_cases hgk:g=k
    ·subst hgk;exact⟨e,he,hc.2⟩
    ·by_cases Nk:g<=e
     ·by_cases WA:g=e
      ·subst WA;obtain⟨z,hz,h7⟩:=bR he;rw[hg]at hz;injection hz with hz;subst hz;omega
      ·exact absurd h0 (hF k e he hc.2 g x o_ o_ hg)
     ·exact py hF n (e+1) h g x o_ hg h0
   ·cases h
  ·cases h
theorem pC {l:List Mq}{locals:List (List UInt8)}{e:Nat}:∀(n i d:Nat),e-i<=n->e<=l.length->mP l locals e n i d=true->∀j x,i<=j->j<e->l[j]?=some x->eF l locals x.L5=true
 | 0,i,d,hn,_,_,j,x,h1,h2,_=>o_
 | n+1,i,d,hn,he,hb,j,x,h1,h2,hx=>by
  rw[mP,c7 o_]at hb;obtain⟨y,hy⟩:=ae (l:=l) (k:=i) o_;rw[hy]at hb;dsimp only at hb;split at hb
  ·cases hb
  ·split at hb
   ·rename_i hk;by_cases hj:j=i
    ·subst hj;rw[hy]at hx;injection hx with hx;subst hx;exact hk.2
    ·exact pC n (i+1) _ o_ he hb j x o_ h2 hx
   ·cases hb
theorem Dc (acc:List (List UInt8))(s:List UInt8):acc.length<=(gg acc s).length:=by unfold gg;split<;>simp
theorem ET {l:List Mq}{e:Nat}:∀(n i:Nat) (acc:List (List UInt8)),acc.length<=(locN l e n i acc).length
 | 0,_,_=>by simp[locN]
 | n+1,i,acc=>by
  rw[locN];split
  ·split
   ·refine v6 ?_ (ET n _ _);split
    ·exact Dc _ _
    ·exact d8 _
   ·exact d8 _
  ·exact d8 _
theorem hasExpr_iff {k:Int}:jr k=true↔(k=1\/k=2\/k=3\/k=5\/k=6):=by unfold jr;simp
theorem Ag {x:Mq}(h:dh x=true):0<=x.J5/\x.J5<=7/\x.L9.length<=4/\x.L5.length<=20/\((x.J5=1\/x.J5=2\/x.J5=3\/x.J5=5\/x.J5=6)->bz x.L5=true):=by
 have h4:x.L9.length<=4:=by
  rcases m5 4 x.L9.length with h'|h'
  ·rw[sN h']at h;cases h
  ·exact h'
 unfold dh at h;simp only[b9,within_iff]at h;obtain⟨⟨h1,h2⟩,_,_,h3⟩:=h;refine⟨h1,h2,h4,?_,fun hk=>by rw[c7 (hasExpr_iff.2 hk)]at h3;exact h3⟩;split at h3
 ·unfold bz at h3;simp only[b9,j6]at h3;exact h3.1
 ·have:=B2 h3;omega
theorem za {p:List Mq}(hs:ao 1048576 (.lst 4 (p.map Mq.tr)))(h:aj p=true):PgOk p:=by
 unfold aj at h;simp only[b9,j6]at h;obtain⟨h1,_,h2,_,_,h3,h4⟩:=h;have hS:=pu p;rw[h3,h4]at hS;have Ta:∀(k:Nat) (ln:Mq),p[k]?=some ln->0<=ln.J5/\ln.J5<=7/\ln.L9.length<=4/\ln.L5.length<=20/\((ln.J5=1\/ln.J5=2\/ln.J5=3\/ln.J5=5\/ln.J5=6)->bz ln.L5=true):=fun k ln hk=>Ag (o8.1 h2 ln (c9 hk));have M3:∀k e,endAt p k=some e->e<=p.length:=fun k e he=>by obtain⟨_,_,_,_,_,h⟩:=aN he;omega
 have hF:∀k e,endAt p k=some e->lY p k e=true->∀i x,k<i->i<e->p[i]?=some x->x.J5≠0:=fun k e he hf=>by
  rw[nE,b9]at hf;exact uY hf.1 (M3 k e he)
 refine⟨h1,hs,Ta,fun g ln hg h0=>?_⟩;obtain⟨e,he,hf⟩:=py hF p.length 0 hS g ln (w6 _) hg h0;have O7:=hf;rw[nE,b9]at O7;obtain⟨Sw,Tw⟩:=O7;have Vb:=Sw;rw[tY,b9,j6]at Vb;obtain⟨hl8,UB⟩:=Vb;refine⟨e,he,hl8,?_,fun k y hk1 Ni hy=>⟨hF g e he hf k y hk1 Ni hy,fun t ht h7=>?_,fun RL=>?_⟩⟩
 ·unfold localsOf;rw[c7 o_,d6,hg,he];dsimp only;rw[c7 h0];exact ET _ _ _
 ·have Pr:=pC (e-(g+1)) (g+1) 0 (d8 _) (M3 g e he) UB k y o_ Ni hy;unfold eF at Pr;have:=o8.1 Pr t ht;unfold cO at this;rw[b8 o_,c7 h7]at this;split at this
  ·rename_i f VW;refine⟨f,VW,?_⟩;unfold argsN;split at this
   ·rename_i x hx
    (try rw[hx])
    exact B2 this
   ·cases this
  ·cases this
 ·have:=(iN (d8 _)).1 Tw k y o_ Ni hy RL;rw[qp]at this;obtain⟨i,i1,i2,i3⟩:=this;exact⟨i,i1,o_,i3⟩
def alike (p q:List Mq):Prop:=p.map (fun x=>(x.J5,x.L0,x.L9))=q.map (fun x=>(x.J5,x.L0,x.L9))
theorem alike.len {p q:List Mq}(h:alike p q):p.length=q.length:=by simpa using congrArg List.length h
theorem alike.get {p q:List Mq}(h:alike p q){k:Nat}{x:Mq}(hx:p[k]?=some x):∃y,q[k]?=some y/\x.J5=y.J5/\x.L0=y.L0/\x.L9=y.L9:=by
 have:=congrArg (·[k]?) h;simp only[p6,hx,x9]at this
 cases hy:q[k]? with
 | none=>rw[hy]at this;cases this
 | some y=>rw[hy]at this;simp only[x9,Option.some.injEq,Prod.mk.injEq]at this;exact⟨y,rfl,this.1,this.2.1,this.2.2⟩
theorem alike.none {p q:List Mq}(h:alike p q){k:Nat}(hx:p[k]?=none):q[k]?=none:=by rw[List.getElem?_eq_none_iff]at hx⊢;have:=h.len;omega
theorem alike.symm {p q:List Mq}(h:alike p q):alike q p:=Eq.symm h
theorem alike.drop {p q:List Mq}(h:alike p q)(n:Nat):alike (p.drop n) (q.drop n):=by
 unfold alike at *
 rw[A1,A1,h]
theorem alike.endN:∀{p q:List Mq},alike p q->∀(i o:Nat),endN p i o=endN q i o
 | [],[],_,_,_=>rfl
 | x::p,y::q,h,i,o=>by
  simp only[alike,p7,List.cons.injEq,Prod.mk.injEq]at h;have ih:=alike.endN (p:=p) (q:=q) h.2
  rw[Go.Proofs.P.endN,Go.Proofs.P.endN,h.1.1,ih,ih,ih]
 | [],_::_,h,_,_=>by simp[alike]at h
 | _::_,[],h,_,_=>by simp[alike]at h
theorem alike.endAt {p q:List Mq}(h:alike p q)(k:Nat):endAt p k=endAt q k:=by
 unfold Go.Proofs.P.endAt
 cases hx:p[k]? with
 | none=>rw[h.none hx]
 | some x=>obtain⟨y,hy,e1,_⟩:=h.get hx;rw[hy];dsimp only;rw[e1,(h.drop (k+1)).endN]
theorem alike.elseN {p q:List Mq}(h:alike p q){e:Nat}:∀(n i:Nat),elseN p e n i=elseN q e n i
 | 0,_=>rfl
 | n+1,i=>by
  rw[Go.Proofs.P.elseN,Go.Proofs.P.elseN]
  cases hx:p[i]? with
  | none=>rw[h.none hx]
  | some x=>
   obtain⟨y,hy,e1,_⟩:=h.get hx;rw[hy];dsimp only;rw[e1,h.endAt i]
   cases Go.Proofs.P.endAt q i with|none=>dsimp only;rw[alike.elseN h n]|some m=>dsimp only;rw[alike.elseN h n,alike.elseN h n]
theorem alike.elseAt {p q:List Mq}(h:alike p q)(k:Nat):elseAt p k=elseAt q k:=by
 unfold Go.Proofs.P.elseAt;rw[h.endAt k]
 cases hx:p[k]? with
 | none=>rw[h.none hx]
 | some x=>
  obtain⟨y,hy,e1,_⟩:=h.get hx;rw[hy]
  cases Go.Proofs.P.endAt q k with|none=>rfl|some e=>dsimp only;rw[e1,h.elseN]
theorem alike.findN:∀{p q:List Mq},alike p q->∀(i:Nat) (s:List UInt8),findN p i s=findN q i s
 | [],[],_,_,_=>rfl
 | x::p,y::q,h,i,s=>by
  simp only[alike,p7,List.cons.injEq,Prod.mk.injEq]at h;have ih:=alike.findN (p:=p) (q:=q) h.2
  rw[Go.Proofs.P.findN,Go.Proofs.P.findN,h.1.1,h.1.2.1,ih]
 | [],_::_,h,_,_=>by simp[alike]at h
 | _::_,[],h,_,_=>by simp[alike]at h
theorem alike.locN {p q:List Mq}(h:alike p q){e:Nat}:∀(n i:Nat) (acc:List (List UInt8)),locN p e n i acc=locN q e n i acc
 | 0,_,_=>rfl
 | n+1,i,acc=>by
  rw[Go.Proofs.P.locN,Go.Proofs.P.locN]
  cases hx:p[i]? with
  | none=>rw[h.none hx]
  | some x=>obtain⟨y,hy,e1,e2,_⟩:=h.get hx;rw[hy];dsimp only;rw[e1,e2,alike.locN h n]
theorem alike.localsOf {p q:List Mq}(h:alike p q)(k:Int):localsOf p k=localsOf q k:=by
 unfold Go.Proofs.P.localsOf;rw[h.endAt]
 cases hx:p[k.toNat]? with
 | none=>rw[h.none hx]
 | some x=>
  obtain⟨y,hy,e1,_,e3⟩:=h.get hx;rw[hy]
  cases Go.Proofs.P.endAt q k.toNat with|none=>rfl|some e=>dsimp only;rw[e1,e3,h.locN]
theorem alike.argsN {p q:List Mq}(h:alike p q)(g:Nat):argsN p g=argsN q g:=by
 unfold Go.Proofs.P.argsN
 cases hx:p[g]? with
 | none=>rw[h.none hx]
 | some x=>obtain⟨y,hy,_,_,e3⟩:=h.get hx;rw[hy];dsimp only;rw[e3]
theorem fd (p:List Mq):alike (p.map aO) p:=by unfold alike;rw[G7];refine List.map_congr_left fun x _=>?_;simp only[Function.comp,aO];split<;>rfl
theorem Lw (v:Int):ar ⟨0,v,[]⟩=0:=by unfold ar ni;split<;>simp
theorem Kd {v:Int}(h:af v 0 999=true):(Df v).ok:=⟨by simp[fE,h],by rw[Lw];rfl,trivial⟩
theorem Jx {t:Mz}{fs:List Ex}(h1:fE t=true)(h2:fs.length=ar t)(h3:jf fs):(xB t fs).ok:=by
 unfold xB;split
 ·split
  ·rename_i hc;exact Kd hc.2.2.2
  ·exact⟨h1,h2,h3⟩
 ·exact⟨h1,h2,h3⟩
mutual
theorem Ex.fold_ok:∀e:Ex,e.ok->e.fold.ok
 | .node t es,h=>by rw[Ex.fold];exact Jx h.1 (by rw[pL];exact h.2.1) (yf es h.2.2)
theorem yf:∀es:List Ex,jf es->jf (ck es)
 | [],_=>by rw[ck];trivial
 | a::es,h=>by rw[ck];exact⟨a.fold_ok h.1,yf es h.2⟩
end
theorem Il {t:Mz}{fs:List Ex}{z:Mz}(h:z∈(xB t fs).toks):z=t\/z∈aw fs\/∃n,z=⟨0,n,[]⟩:=by
 unfold xB at h;split at h
 ·split at h
  ·simp only[Df,Ex.toks,aw,d7,l9,or_false]at h;exact .inr (.inr ⟨_,h⟩)
  ·rw[Ex.toks,d7]at h;exact h.imp id .inl
 ·rw[Ex.toks,d7]at h;exact h.imp id .inl
mutual
theorem Ex.fold_mem:∀(e:Ex) {z:Mz},z∈e.fold.toks->z∈e.toks\/∃n,z=⟨0,n,[]⟩
 | .node t es,z,h=>by
  rw[Ex.fold]at h;rw[Ex.toks,d7];rcases Il h with h|h|h
  ·exact .inl (.inl h)
  ·rcases vh es h with h|h
   ·exact .inl (.inr h)
   ·exact .inr h
  ·exact .inr h
theorem vh:∀(es:List Ex) {z:Mz},z∈aw (ck es)->z∈aw es\/∃n,z=⟨0,n,[]⟩
 | [],z,h=>by rw[ck]at h;exact .inl h
 | a::es,z,h=>by
  rw[ck,aw,f0]at h;rw[aw,f0];rcases h with h|h
  ·exact(a.fold_mem h).imp .inl id
  ·exact(vh es h).imp .inr id
end
theorem FD {e:Ex}(ho:e.ok)(hl:e.toks.length<=20):bz e.toks=true:=by have h:=oU (l:=e.toks) (p:=0) ⟨[],by rw[C2,m7]⟩ ho;have hp:=e.toks_pos;unfold bz;rw[q7 hl,q7 hp,show gr e.toks 0=_ from h];simp
theorem jY {l:List Mz}(h:bz l=true):bz (lW l)=true/\∀z∈lW l,z∈l\/∃n,z=⟨0,n,[]⟩:=by
 obtain⟨e,h1,h2,h3⟩:=we h;have hl:=yL l
 have OB:l.length<=20:=by unfold bz at h;simp only[b9,j6]at h;exact h.1
 rw[h3]at hl⊢;refine⟨FD (e.fold_ok h1) o_,fun z hz=>?_⟩;rw[h2];exact e.fold_mem hz
theorem mu {L:Int}:∀{rows:List (List Tr)},(∀r∈rows,az L r)->eM L rows
 | [],_=>by rw[eM];trivial
 | r::rs,h=>by rw[eM];exact⟨h r s_,mu fun x hx=>h x aap⟩
theorem wU {x:Mq}(hs:az 1048576 x.tr)(he:(x.J5=1\/x.J5=2\/x.J5=3\/x.J5=5\/x.J5=6)->bz x.L5=true)(OB:x.L5.length<=20):
  (aO x).J5=x.J5/\(aO x).L9=x.L9/\(aO x).L5.length<=20/\((x.J5=1\/x.J5=2\/x.J5=3\/x.J5=5\/x.J5=6)->bz (aO x).L5=true)/\(∀z∈(aO x).L5,z∈x.L5\/∃n,z=⟨0,n,[]⟩)/\az 1048576 (aO x).tr:=by
 unfold aO;split
 ·rename_i Ny;have hl:=yL x.L5
  have hz:∀z∈lW x.L5,z∈x.L5\/∃n,z=⟨0,n,[]⟩:=by
   cases hx:bz x.L5 with
   | true=>exact(jY hx).2
   | false=>rw[wE hx];intro z hz;cases hz
  refine⟨rfl,rfl,g_,fun hk=>(jY (he hk)).1,hz,?_⟩;simp only[Mq.tr,az]at hs⊢;obtain⟨q0,q1,q2,q3,q4⟩:=hs;refine⟨q0,q1,q2,?_,q4⟩;have OC:=nI q3;rw[ao];refine⟨by rw[e7];omega,mu fun r hr=>?_⟩;obtain⟨z,VV,rfl⟩:=n9.1 hr;rcases hz z VV with h|⟨n,rfl⟩
  ·exact aZ q3 h
  ·simp[Mz.tr,az,ao]
 ·exact⟨rfl,rfl,OB,he,fun z hz=> .inl hz,hs⟩
theorem PgOk.fold {p:List Mq}(h:PgOk p):PgOk (p.map aO):=by
 have ha:=fd p
 have cq:∀{k:Nat} {y:Mq},(p.map aO)[k]?=some y->∃x,p[k]?=some x/\y=aO x:=fun{k y} hy=>by
  rw[p6]at hy
  cases hx:p[k]? with
  | none=>rw[hx]at hy;cases hy
  | some x=>rw[hx]at hy;injection hy with hy;exact⟨x,rfl,hy.symm⟩
 have hf:∀{k:Nat} {x:Mq},p[k]?=some x->_:=fun{k x} hx=>wU (aZ h.small (c9 hx)) (h.line k x hx).2.2.2.2 (h.line k x hx).2.2.2.1;refine⟨by rw[e7];exact h.len,?_,fun k y hy=>?_,fun g y hy h0=>?_⟩
 ·rw[ao];refine⟨by have:=h.len;simp;omega,mu fun r hr=>?_⟩;obtain⟨y,hy,rfl⟩:=n9.1 hr;obtain⟨x,hx,rfl⟩:=n9.1 hy;obtain⟨k,hk,Tz⟩:=List.mem_iff_getElem.1 hx;exact(hf (k:=k) (x:=x) (by rw[i8 hk,Tz])).2.2.2.2.2
 ·obtain⟨x,hx,rfl⟩:=cq hy;obtain⟨f1,f2,f3,f4,_⟩:=hf hx;obtain⟨l1,l2,l3,_⟩:=h.line k x hx;rw[f1,f2];exact⟨l1,l2,l3,f3,f4⟩
 ·obtain⟨x,hx,rfl⟩:=cq hy;obtain⟨f1,f2,_⟩:=hf hx;rw[f1]at h0;obtain⟨e,he,q1,q2,q3⟩:=h.fn g x hx h0;refine⟨e,by rw[ha.endAt];exact he,by rw[ha.localsOf];exact q1,by rw[ha.localsOf,f2];exact q2,fun k y hk1 Ni hy=>?_⟩;obtain⟨z,hz,rfl⟩:=cq hy;obtain⟨g1,_,_,_,g5,_⟩:=hf hz;obtain⟨r1,r2,r3⟩:=q3 k z hk1 Ni hz;refine⟨by rw[g1];exact r1,fun t ht h7=>?_,fun h4=>?_⟩
  ·rcases g5 t ht with h'|⟨n,rfl⟩
   ·obtain⟨f,Sw,Tw⟩:=r2 t h' h7;exact⟨f,by rw[ha.findN];exact Sw,by rw[ha.argsN];exact Tw⟩
   ·exact absurd h7 (show ¬(0:Int)=7 by decide)
  ·rw[g1]at h4;obtain⟨i,i1,i2,i3⟩:=r3 h4;exact⟨i,i1,i2,by rw[ha.elseAt];exact i3⟩
end Go.Proofs.P
namespace Go.Proofs.P
open Go.Sim Tryz
abbrev lb (x:Sc)(lv:List Int):List DC:=[.d (.int .i64 (x.f:Int)),.t (.lst 1 (x.J4.map aa)),.t (.lst 1 (x.L2.map aq)),.d (.int .i64 x.first),.d (.bool x.L6),.d (.lst (if x.L6=true then 0 else 1) (lv.map aa))]
abbrev scV (x:Sc):AV:= .r (.agg [.t (.int .i64 (x.f:Int)),.t (.lst 1 (x.J4.map aa)),.t (.lst 1 (x.L2.map aq)),.t (.int .i64 x.first),.t (.bool x.L6),.opq])
abbrev xW (l:List Int):AV:= .r (.c (.t (.lst 1 (l.map aa))))
abbrev itR (l:List Mp):List (List DC):=aL (l.map Mp.tr)
abbrev pN (C:Cx)(s:Gs)(d:Int)(i1 i2:Sim.Id):AO:= .box [.t (.lst 4 (C.p.map Mq.tr)),.t (.int .i64 C.b.MS),.t (.int .i64 C.b.MJ),.t (.bool C.b.MY),.t (.bool C.b.MX),.t (.bool C.K0),.t (.int .i64 C.J2),.t (.int .i64 s.J8),.t (.int .i64 C.args),.t (.int .i64 d),.own i1,.own i2,.t (.bool s.start)]
abbrev ib (i1 i2:Sim.Id)(C:Cx)(s:Gs)(d:Int)(S:List (List DC)):List (Sim.Id×AO):=[((0,0,0),pN C s d i1 i2),(i1,.dar 7 (itR s.J1) none),(i2,.dar 6 S none)]
abbrev iv:AV:= .r (.c (.ptr (0,0,0) 0))
theorem kc (l:List Mp):(itR l).length=l.length:=by rw[itR,jc,e7]
theorem HQ (l:List Mp)(x:Mp):itR (l++[x])=itR l++[x.tr.map .d]:=by simp[itR,aL]
def dU (s:Gs):Prop:=s.J1.length<=68719476736
theorem bV (C:Cx)(s:Gs)(d:Int)(S:List (List DC))(code arg line:Int)(chain:List Int)(h1:dU s)(h2:chain.length<=100):bE prog 197 [iv,tI .i64 code,tI .i64 arg,tI .i64 line,xW chain] (ib (0,0,1) (0,0,2) C s d S) (.tup []) (ib (1,0,1) (0,0,2) C (aF C s d code arg line chain) d S):=by
 refine aD hΓ aE func197 rfl d_ rfl rfl ?_;unfold dU at h1;have M0:=kc s.J1;have Np:(chain.map aa).length=chain.length:=s_;have Nh:=bh chain;repeat' ((conv=>whnf);first|apply Wx|apply W6|apply oi|apply fi|intro h|exact Y7|refine e_ rfl ?_)
 all_goals try exact⟨⟨by rw[M0];(try dsimp only);omega,by rw[M0];(try dsimp only);omega⟩⟩
 all_goals try exact Q1
 all_goals try exact⟨by simpa using Nh⟩
 all_goals(refine⟨?_⟩;(try rw[M0]at *);rw[aF,HQ];congr 1;simp_all[bS,Mp.tr])
theorem qL (C:Cx)(hC:CxOk C)(s:Gs)(d:Int)(S:List (List DC))(x:Sc)(i:Int)(store:Bool)(hd:-2000<=d/\d<=2000)(hx:0<=x.first/\x.first<=1000)(hi:-2<=i/\i<=100):bE prog 262 [iv,scV x,tI .i64 i,tB store] (ib (0,0,1) (0,0,2) C s d S) (.tup [.c (.t (.int .i64 (cH C store))),.c (.t (.int .i64 (fA C x d i)))]) (ib (0,0,1) (0,0,2) C s d S):=by
 refine aD hΓ aE func262 rfl d_ rfl rfl ?_;obtain⟨a1,a2⟩:=hC.args;repeat' ((conv=>whnf);first|apply Wx|apply W6|apply oi|apply fi|intro h|exact Y7|refine e_ rfl ?_)
 all_goals try exact Q6
 all_goals(refine⟨congrArg (Tr.int _) ?_⟩;(try unfold cH);(try unfold fA Ax mL);(try simp(disch:=omega)only[c6]);simp_all<;>omega)
theorem V46{p:Prop}(h:p:=by
 repeat' ((conv=>whnf);first|apply Wx|apply W6|apply oi|apply fi|intro h|exact Y7|refine e_ rfl ?_)
 refine cg (g1) ?_;repeat' ((conv=>whnf);first|apply Wx|apply W6|apply oi|apply fi|intro h|exact Y7|refine e_ rfl ?_)
 refine cg (g2) ?_
 exact Z6):p:=h
theorem Al (C:Cx)(hC:CxOk C)(s:Gs)(d:Int)(S:List (List DC))(x:Sc)(i line:Int)(h1:dU s)(h2:x.J4.length<=100)(hd:-1000<=d/\d<=1999)(hx:0<=x.first/\x.first<=1000)(hi:-2<=i/\i<=100):bE prog 259 [iv,scV x,tI .i64 i,tI .i64 line] (ib (0,0,1) (0,0,2) C s d S) (.tup []) (ib (1,0,1) (0,0,2) C (En C x s d i line) (d+1) S):=by refine aD hΓ aE func259 rfl d_ rfl rfl ?_;have g1:=qL C hC s d S x i false o_ hx hi;have g2:=bV C s d S (cH C false) (fA C x d i) line x.J4 h1 h2;exact V46
theorem lS (C:Cx)(hC:CxOk C)(s:Gs)(d:Int)(S:List (List DC))(x:Sc)(i line:Int)(chain:List Int)(h1:dU s)(h2:chain.length<=100)(hd:-1000<=d/\d<=2000)(hx:0<=x.first/\x.first<=1000)(hi:-2<=i/\i<=100):bE prog 245 [iv,scV x,tI .i64 i,tI .i64 line,xW chain] (ib (0,0,1) (0,0,2) C s d S) (.tup []) (ib (1,0,1) (0,0,2) C (fS C x s d i line chain) (d-1) S):=by refine aD hΓ aE func245 rfl d_ rfl rfl ?_;have g1:=qL C hC s d S x i true o_ hx hi;have g2:=bV C s d S (cH C true) (fA C x d i) line chain h1 h2;exact V46
theorem kE (C:Cx)(s:Gs)(d:Int)(S:List (List DC))(v line:Int)(chain:List Int)(h1:dU s)(h2:chain.length<=100)(hd:-1000<=d/\d<=1999):bE prog 242 [iv,tI .i64 v,tI .i64 line,xW chain] (ib (0,0,1) (0,0,2) C s d S) (.tup []) (ib (1,0,1) (0,0,2) C (aF C s d 0 v line chain) (d+1) S):=by
 refine aD hΓ aE func242 rfl d_ rfl rfl ?_;have g2:=bV C s d S 0 v line chain h1 h2;repeat' ((conv=>whnf);first|apply Wx|apply W6|apply oi|apply fi|intro h|exact Y7|refine e_ rfl ?_)
 refine cg (g2) ?_;exact Z6
abbrev scH (l:List (Sc×List Int)):List (List DC):=l.map fun y=>lb y.1 y.2
theorem Q18{p:Prop}(h:p:=by exact⟨KW⟩):p:=h
theorem qW (C:Cx)(hC:CxOk C)(s:Gs)(d:Int)(S:List (Sc×List Int))(x:Sc)(lv:List Int)(k:Nat)(last:Bool)(h1:dU s)(h2:x.J4.length<=100)(hd:-1000<=d/\d<=2000)(hS:S.length<=100)(YM:lv.length<=68719476736)(hd p:List Int):
  bE prog 243 [iv,tI .i64 (k:Int),tB last] (ib (0,0,1) (0,0,2) C s d (scH (S++[(x,lv)]))) (.tup []) (ib (1,0,1) (1,0,2) C (bg C x k last d ⟨s,hd,p,lv⟩).g (d-1) (scH (S++[(x,(bg C x k last d ⟨s,hd,p,lv⟩).lv)]))):=by
 refine aD hΓ aE func243 rfl d_ rfl rfl ?_;obtain⟨f,chain,locals,first,outer⟩:=x;have M0:=kc s.J1;have OC:(scH (S++[(⟨f,chain,locals,first,outer⟩,lv)])).length=S.length+1:=s_;have Nd:(scH (S++[(⟨f,chain,locals,first,outer⟩,lv)]))[S.length]?=some (lb ⟨f,chain,locals,first,outer⟩ lv):=s_;have hw:IntKind.i64.wrap (((scH (S++[(⟨f,chain,locals,first,outer⟩,lv)])).length:Int)-1)=(S.length:Int):=by rw[OC,c6 _ o_];omega
 have Nh:=bh lv;have QA:=bh (lv++[(s.J1.length:Int)]);have M3:S.length<(scH (S++[(⟨f,chain,locals,first,outer⟩,lv)])).length:=o_;have OS:(lv.map aa).length=lv.length:=s_;unfold dU at h1
 cases outer with
 | false=>
  cases last with
  | true=>
   have e:bg C ⟨f,chain,locals,first,false⟩ k true d ⟨s,hd,p,lv⟩=⟨s,hd,p,lv⟩:=(by simp[bg]);rw[e];repeat' ((conv=>whnf);first|apply Wx|apply W6|apply oi|apply fi|intro h|refine⟨S.length,hw,M3,?_⟩|refine⟨_,Nd,?_⟩|exact Y8|refine e_ rfl ?_)
   all_goals(exfalso;simp_all;done)
  | false=>
   have e:bg C ⟨f,chain,locals,first,false⟩ k false d ⟨s,hd,p,lv⟩=⟨aF C s d 10 0 k chain,hd,p,lv++[(s.J1.length:Int)]⟩:=(by simp[bg]);rw[e];have g:=bV C s d ((scH (S++[(⟨f,chain,locals,first,false⟩,lv)])).set S.length [.d (.int .i64 (f:Int)),.t (.lst 1 (chain.map aa)),.t (.lst 1 (locals.map aq)),.d (.int .i64 first),.d (.bool false),.d (.lst 1 (lv.map aa++[[.int .i64 ((itR s.J1).length:Int)]]))]) 10 0 k chain h1 h2;repeat' ((conv=>whnf);first|apply Wx|apply W6|refine cg g ?_|apply oi|apply fi|intro h|refine⟨S.length,hw,M3,?_⟩|refine⟨_,Nd,?_⟩|refine⟨_,(x7 M3),?_⟩|exact Y7|refine e_ rfl ?_)
   all_goals try exact⟨Nh⟩
   all_goals try exact⟨⟨by rw[OS];(try dsimp only);simp<;>omega,by rw[OS];(try dsimp only);simp<;>omega⟩⟩
   all_goals try exact⟨by rw[M0];first|(simp[aa];done)|simpa [aa]using QA⟩
   all_goals try exact Q18
   all_goals try exact Q6
   all_goals(refine⟨?_⟩;rw[M0];simp[List.set_append,aa])
 | true=>
  have g1:=bV C s d (scH (S++[(⟨f,chain,locals,first,true⟩,lv)])) 14 C.args k chain h1 h2;have g2:=bV C s d (scH (S++[(⟨f,chain,locals,first,true⟩,lv)])) 16 (C.args+16*C.J2) k chain h1 h2;obtain⟨a1,a2⟩:=hC.args;obtain⟨a3,a4⟩:=hC.J2;have e2:IntKind.i64.wrap (C.args+IntKind.i64.wrap (16*C.J2))=C.args+16*C.J2:=by simp(disch:=omega)only[c6]
  rw[<-e2]at g2
  cases hf:C.K0 with
  | true=>
   have e:bg C ⟨f,chain,locals,first,true⟩ k last d ⟨s,hd,p,lv⟩=⟨aF C s d 14 C.args k chain,hd,p,lv⟩:=(by simp[bg,hf]);rw[e];repeat' ((conv=>whnf);first|apply Wx|apply W6|refine cg g1 ?_|apply oi|apply fi|intro h|refine⟨S.length,hw,M3,?_⟩|refine⟨_,Nd,?_⟩|exact Y8|refine e_ rfl ?_)
   all_goals(exfalso;simp_all;done)
  | false=>
   have e:bg C ⟨f,chain,locals,first,true⟩ k last d ⟨s,hd,p,lv⟩=⟨aF C s d 16 (IntKind.i64.wrap (C.args+IntKind.i64.wrap (16*C.J2))) k chain,hd,p,lv⟩:=(by simp[bg,hf,e2]);rw[e];repeat' ((conv=>whnf);first|apply Wx|apply W6|refine cg g2 ?_|apply oi|apply fi|intro h|refine⟨S.length,hw,M3,?_⟩|refine⟨_,Nd,?_⟩|exact Y8|refine e_ rfl ?_)
   all_goals(exfalso;simp_all;done)
abbrev mK (e:Int×Int):List Tr:=[.int .i64 e.1,.int .i64 e.2]
theorem FZ {l:List Mp}{j:Nat}{x:Mp}(h:l[j]?=some x)(v:Int):cf l (j:Int) v=l.set j ⟨⟨x.J7.J3,v⟩,x.MM,x.L8,x.MQ,x.MG,x.MR⟩:=by rw[cf,c7 o_,d6,h]
theorem vt {l:List Mp}{j:Nat}{x:Mp}(h:l[j]?=some x)(v:Int):itR (cf l (j:Int) v)=(itR l).set j [.d (.int .i64 x.J7.J3),.d (.int .i64 v),.d (.int .i64 x.MM),.d (.bool x.L8),.d (.lst 1 (x.MQ.map aa)),.d (.int .i64 x.MG),.d (.bool x.MR)]:=by rw[FZ h];simp[aL,F9,Mp.tr]
theorem Fh {l:List Mp}{j:Nat}{x:Mp}(h:l[j]?=some x):(itR l)[j]?=some (x.tr.map .d):=jj (ab h)
theorem qT (C:Cx)(s:Gs)(d:Int)(S:List (List DC))(E:List (Int×Int))(to:Int)(h1:dU s)(hE:E.length<=100)(hin:∀e∈E,0<=e.2/\e.2<s.J1.length):
  bE prog 241 [iv,.r (.c (.own (0,1,0))),tI .i64 to] (ib (0,0,1) (0,0,2) C s d S++[((0,1,0),.arr false 2 (E.map mK))]) (.tup []) (ib (0,0,1) (0,0,2) C ⟨dc s.J1 s.J1.length to E,s.J8,s.start⟩ d S++[((0,1,0),.arr false 2 (E.map mK))]):=by
 refine aD hΓ aE func241 rfl d_ rfl rfl ?_;have Wt:(E.map mK).length=E.length:=s_;unfold dU at h1;repeat' ((conv=>whnf);first|apply Wx|apply W6|apply oi|apply fi|intro h|exact Y7|refine e_ rfl ?_)
 conv=>whnf
 refine⟨{k:Nat//k<=E.length},fun q=>⟨[(0,iv),(1,.r (.c (.own (0,1,0)))),(2,tI .i64 to),(6,tI .i64 (q.1:Int))],[((0,0,0),some (pN C s d (0,0,1) (0,0,2))),((0,0,1),some (.dar 7 (itR (dc s.J1 s.J1.length to (E.take q.1))) none)),((0,0,2),some (.dar 6 S none)),((0,1,0),some (.arr false 2 (E.map mK)))],[0]⟩,fun q=>E.length-q.1,⟨0,o_⟩,?_,?_⟩
 ·exact Z2
 intro⟨k,hk⟩;dsimp only at hk⊢;have Pv:=vj s.J1.length to (E.take k) s.J1;have N6:(itR (dc s.J1 s.J1.length to (E.take k))).length=s.J1.length:=by rw[kc,Pv]
 by_cases M3:k<E.length
 ·obtain⟨e,he⟩:=ae M3;obtain⟨i1,i2⟩:=hin e (c9 he);obtain⟨j,hj⟩:=gt i1;have Ol:j<(itR (dc s.J1 s.J1.length to (E.take k))).length:=by rw[N6];omega
  obtain⟨x,hx⟩:=ae (l:=dc s.J1 s.J1.length to (E.take k)) (k:=j) (by rw[Pv];omega);have NL:k<(E.map mK).length:=by rw[Wt];exact M3
  have NO:E.take (k+1)=E.take k++[e]:=by rw[B5,he];rfl
  have TC:=BS s.J1.length to e (E.take k) s.J1;repeat' ((conv=>whnf);first|apply Wx|apply W6|apply oi|apply fi|intro h|refine⟨k,rfl,NL,?_⟩|refine⟨mK e,(ab he),?_⟩|refine⟨j,hj,Ol,?_⟩|refine⟨_,(Fh hx),?_⟩|exact Y5|refine e_ rfl ?_)
  all_goals(conv=>whnf)
  all_goals(refine⟨⟨k+1,o_⟩,?_,KD⟩)
  repeat' ((conv=>whnf);first|apply Wx|apply W6|apply oi|apply fi|intro h|exact Y8|refine e_ rfl ?_)
  all_goals(refine⟨?_⟩;(try rw[N6]);rw[NO,TC])
  ·rw[c7 aaf,hj,vt hx];rfl
  ·rw[b8 aaf]
 ·repeat' ((conv=>whnf);first|apply Wx|apply W6|apply oi|apply fi|intro h|exact Y5|refine e_ rfl ?_)
  all_goals(refine⟨?_⟩;rw[i7 o_])
abbrev ce (S:List (Sc×List Int)):List Nat:=S.map fun y=>y.1.f
theorem uf (C:Cx)(hC:CxOk C)(s:Gs)(d:Int)(S:List (Sc×List Int))(g:Nat)(h1:dU s)(hS:1<=S.length/\S.length<=100)(hg:g<C.p.length):
  bE prog 260 [iv,tI .i64 (g:Int)] (ib (0,0,1) (0,0,2) C s d (scH S)) (tB (cU C (ce S) g s.J1.length)) (ib (0,0,1) (0,0,2) C s d (scH S)):=by
 refine aD hΓ aE func260 rfl d_ rfl rfl ?_;unfold dU at h1;have M0:=kc s.J1;have OC:(scH S).length=S.length:=s_;have Pv:(C.p.map Mq.tr).length=C.p.length:=s_;have hE:=cY C.p (g:Int) (by have:=hC.len;omega);have N6:(ce S).length=S.length:=s_;have RK:=hC.len;have hin:=hC.inl
 have Oi:-1<=cB C.p (g:Int)/\cB C.p (g:Int)<=60:=by
  rw[cD]
  cases he:endAt C.p g with|none=>simp[cS]|some e=>have:=aN he;obtain⟨_,_,_,_,_,h⟩:=this;simp only[cS];omega
 unfold cU;rw[N6]
 generalize cB C.p (g:Int)=eg at *
 have NT:IntKind.i64.wrap (((scH S).length:Int)-1)=(S.length:Int)-1:=by rw[OC,c6 _ o_]
 have Ow:IntKind.i64.wrap (eg-(g:Int))=eg-g:=by rw[c6 _ o_]
 repeat' ((conv=>whnf);first|apply Wx|apply W6|apply oi|apply fi|intro h|refine cl hE ?_|exact Y7|refine e_ rfl ?_)
 all_goals try(refine⟨congrArg Tr.bool ?_⟩;(try rw[NT]at h);(try rw[Ow]at h);(try rw[M0]at h);simp only[j6]at h;symm;simp only[B1,p9];omega)
 conv=>whnf
 refine⟨{k:Nat//k<=S.length/\((ce S).take k).contains g=false},fun q=>⟨[(0,iv),(1,tI .i64 (g:Int)),(5,tI .i64 (q.1:Int))],(ib (0,0,1) (0,0,2) C s d (scH S)).map (fun p=>(p.1,some p.2)),[0]⟩,fun q=>S.length-q.1,⟨0,o_,s_⟩,?_,?_⟩
 ·exact Z2
 rename_i ha hb;rw[NT]at ha;rw[Ow]at hb;rw[M0]at h;simp only[p9]at ha hb h
 have NM:∀c:Bool,(decide ((S.length:Int)<=C.b.MJ)&&(decide (eg-(g:Int)<=9)&&(decide (s.J1.length<200)&&!c)))= !c:=fun c=>by
  rw[q7 o_,q7 o_,q7 o_];rfl
 rw[NM];clear NM;intro⟨k,hk,Nm⟩;dsimp only at hk Nm⊢;by_cases M3:k<S.length
 ·obtain⟨y,hy⟩:=ae M3;have Uz:(scH S)[k]?=some (lb y.1 y.2):=by simp[hy]
  have NL:k<(scH S).length:=o_;have NO:(ce S).take (k+1)=(ce S).take k++[y.1.f]:=by rw[B5,p6,hy];rfl
  have Qi:y.1.f∈ce S:=n9.2 ⟨y,c9 hy,rfl⟩;repeat' ((conv=>whnf);first|apply Wx|apply W6|apply oi|apply fi|intro h|refine⟨k,rfl,NL,?_⟩|refine⟨_,Uz,?_⟩|exact Y5|refine e_ rfl ?_)
  ·refine⟨congrArg Tr.bool ?_⟩;have e:y.1.f=g:=(by have:=B2 h;omega);rw[<-e,E2.2 Qi];rfl
  ·conv=>whnf
   refine⟨⟨k+1,o_,?_⟩,?_,KD⟩
   ·have e:g≠y.1.f:=fun e=>by rw[<-e]at h;simp at h
    rw[NO,List.contains_eq_any_beq,List.any_append,<-List.contains_eq_any_beq,Nm];simp[e]
   exact Z6
 ·repeat' ((conv=>whnf);first|apply Wx|apply W6|apply oi|apply fi|intro h|exact Y5|refine e_ rfl ?_)
  rw[i7 o_]at Nm;exact⟨by rw[Nm];rfl⟩
def Af (C:Cx)(l:List Mz):Prop:=∀t∈l,t.J5=7->∃f,findN C.p 0 t.L0=some f/\(argsN C.p f:Int)=t.MI
structure Rm (C:Cx) (lev n:Nat) (S:Nat) (s:Gs) (d:Int):Prop where
 room:s.J1.length+n*dm lev<=68719476736
 depth:((lev+S:Nat):Int)=C.b.MJ
 low:0<=d
 high:d+(n:Int)+100*(lev:Int)<=1900
def LF (C:Cx)(lev:Nat):Prop:=∀(e:Ex) (x:Sc) (S:List (Sc×List Int)) (lv:List Int) (k p:Nat) (ln:Mq) (s:Gs) (d:Int),e.ok->ScOk C x (ce (S++[(x,lv)]))->C.p[k]?=some ln->kD ln.L5 p e->Af C ln.L5->Rm C lev e.toks.length S.length s d->
 bE prog 244 [iv,tI .i64 (k:Int),tI .i64 (p:Int)] (ib (0,0,1) (0,0,2) C s d (scH (S++[(x,lv)]))) (tI .i64 ((p+e.toks.length:Nat):Int)) (ib (1,0,1) (1,0,2) C (eA C (cQ C lev) x (ce (S++[(x,lv)])) k e d s) (d+1) (scH (S++[(x,lv)])))
def Ik (C:Cx)(lev:Nat):Prop:=∀(x:Sc) (S:List (Sc×List Int)) (lv:List Int) (k g:Nat) (s:Gs) (d:Int),ScOk C x (ce (S++[(x,lv)]))->k<C.p.length->ca C g->cU C (ce (S++[(x,lv)])) g s.J1.length=true->Rm C lev 1 S.length s (d-argsN C.p g)->
 bE prog 261 [iv,tI .i64 (g:Int),tI .i64 (k:Int),scV x] (ib (0,0,1) (0,0,2) C s d (scH (S++[(x,lv)]))) (.tup []) (ib (1,0,1) (1,0,2) C (cQ C lev x (ce (S++[(x,lv)])) k g d s) (d-argsN C.p g+1) (scH (S++[(x,lv)])))
theorem qQ {α:Type}[BEq α](l:List α)(s:α):-1<=dJ l s/\dJ l s<=l.length:=by
 unfold dJ
 cases h:iL l 0 s with|none=>simp only[cS];omega|some k=>have:=nH h;simp only[cS];omega
theorem wk {C:Cx}(hC:CxOk C){k:Nat}{ln:Mq}(hk:C.p[k]?=some ln):jv ln.L5/\ln.L0.length<=1048576:=by obtain⟨h1,_,_,_,h5⟩:=fT (aZ hC.small (c9 hk));exact⟨fun t ht=>by have:=h5 t ht;omega,h1⟩
theorem Cr (p:List Mq)(g:Nat):lf p g<=g:=by unfold lf;have h1:=G1 (fun x:Mq=>x.J5==0) (p.take g);have h2:=List.length_take_le g p;omega
theorem Dj {p:List Mq}{i:Nat}{x:Mq}(hx:p[i]?=some x):lf p (i+1)=lf p i+if x.J5=0 then 1 else 0:=by
 unfold lf;rw[B5,hx,List.filter_append,c8];by_cases h:x.J5=0
 ·simp[h]
 ·simp[h]
theorem V109{p:Prop}(h:p:=by
 repeat' ((conv=>whnf);first|apply Wx|apply W6|refine cg g1 ?_|apply oi|apply fi|intro h|exact Y9|refine e_ rfl ?_)):p:=h
theorem Bd {C:Cx}(hC:CxOk C){lev:Nat}(hR:Ik C lev):∀(n:Nat) (e:Ex),e.toks.length<=n->∀(x:Sc) (S:List (Sc×List Int)) (lv:List Int) (k p:Nat) (ln:Mq) (s:Gs) (d:Int),e.ok->ScOk C x (ce (S++[(x,lv)]))->C.p[k]?=some ln->kD ln.L5 p e->Af C ln.L5->Rm C lev e.toks.length S.length s d->
  bE prog 244 [iv,tI .i64 (k:Int),tI .i64 (p:Int)] (ib (0,0,1) (0,0,2) C s d (scH (S++[(x,lv)]))) (tI .i64 ((p+e.toks.length:Nat):Int)) (ib (1,0,1) (1,0,2) C (eA C (cQ C lev) x (ce (S++[(x,lv)])) k e d s) (d+1) (scH (S++[(x,lv)])))
 | 0,e,hn,_,_,_,_,_,_,_,_,_,_,_,_,_,_=>by have:=e.toks_pos;omega
 | n+1,.node t es,hn,x,S,lv,k,p,ln,s,d,ho,hx,hk,hs,hca,hr=>by
  refine aD hΓ aE func244 rfl d_ rfl rfl ?_;obtain⟨OT,OE⟩:=wk hC hk;have Nu:=nM hs;obtain⟨ht,U4⟩:=pr hs;obtain⟨e1,e2⟩:=yK ho.1;have NC:es.length=ar t:=ho.2.1;have hA:=lI t (OT t (c9 ht));rw[e1,<-NC]at hA;have RK:=hC.len;have OB:=(hC.line _ _ hk).2.2.2.1;have OC:(scH (S++[(x,lv)])).length=S.length+1:=s_;have Nd:(scH (S++[(x,lv)]))[S.length]?=some (lb x lv):=s_;have M3:S.length<(scH (S++[(x,lv)])).length:=o_;have Om:=hr.room;have ND:=hr.depth;have hr3:=hr.low;have ZY:=hr.high;have hin:=hC.inl;have hw:IntKind.i64.wrap (((scH (S++[(x,lv)])).length:Int)-1)=(S.length:Int):=by rw[OC,c6 _ o_];omega
  have htp:=Cv lev;rw[Ex.toks,d5]at hn Nu Om ZY;rw[eA];repeat' ((conv=>whnf);first|apply Wx|apply W6|apply oi|apply fi|intro h|refine⟨S.length,hw,M3,?_⟩|refine⟨_,Nd,?_⟩|refine⟨k,ln.tr,rfl,ab hk,?_⟩|refine⟨p,t.tr,rfl,ab ht,?_⟩|refine cl hA ?_|exact Y7|refine e_ rfl ?_)
  conv=>whnf
  refine⟨{j:Nat//j<=es.length},fun q=>⟨[(0,iv),(1,tI .i64 (k:Int)),(2,tI .i64 ((p+1+(aw (es.take q.1)).length:Nat):Int)),(9,tI .i64 ((es.length-q.1:Nat):Int)),(7,.r (.c (.ptr (7,0,0) 0))),(8,.r (.c (.ptr (8,0,0) 0)))],
   [(
    (0,0,0),some (pN C (cZ C (cQ C lev) x (ce (S++[(x,lv)])) k (es.take q.1) d s) (d+q.1) (7,0,1) (7,0,2))),((7,0,1),some (.dar 7 (itR (cZ C (cQ C lev) x (ce (S++[(x,lv)])) k (es.take q.1) d s).J1) none)),((7,0,2),some (.dar 6 (scH (S++[(x,lv)])) none)),
    ((7,0,0),some (.box [.t (.int .i64 (x.f:Int)),.t (.lst 1 (x.J4.map aa)),.t (.lst 1 (x.L2.map aq)),.t (.int .i64 x.first),.t (.bool x.L6),.opq])),((8,0,0),some (.box (t.tr.map .t)))],[8,7,0]⟩,fun q=>es.length-q.1,⟨0,o_⟩,?_,?_⟩
  ·repeat' ((conv=>whnf);first|apply Wx|apply W6|apply oi|apply fi|intro h|exact Y7|refine e_ rfl ?_)
   ·exact⟨congrArg (Tr.int _) (by rw[c6 _ o_];simp[aw])⟩
   ·exact⟨congrArg (Tr.int _) s_⟩
  intro⟨j,hj⟩;dsimp only at hj⊢;have V0:=pq (C:=C) (x:=x) (ins:=ce (S++[(x,lv)])) (line:=k) (lev:=lev) (fun g d s hg hr=>il hC lev k g d s hx hg hr) (es.take j) d s;have Wi:=V0.le;have Zk:=gD es j;obtain⟨s1,T3⟩:∃s1,cZ C (cQ C lev) x (ce (S++[(x,lv)])) k (es.take j) d s=s1:=⟨_,rfl⟩;rw[T3]at V0 Wi⊢;by_cases hlj:j<es.length
  ·obtain⟨a,ha⟩:=ae hlj;have hta:=ma ha;have aaG:=gD es (j+1);have NA:=pI ha
   have hjt:j<=(aw (es.take j)).length:=by
    have:∀(l:List Ex),l.length<=(aw l).length:=by
     intro l
     induction l with
     | nil=>simp
     | cons b l ih=>have:=b.toks_pos;rw[aw,c8,d5];omega
    have h2:=this (es.take j);rw[j8]at h2;omega
   have hm:=l8 (dm lev) (show(aw (es.take j)).length+a.toks.length<=(aw es).length+1 by omega);rw[p8]at hm;have hI:=Bd hC hR n a o_ x S lv k (p+1+(aw (es.take j)).length) ln s1 (d+j) (rx ho.2.2 ha) hx hk (tM U4 ha) hca ⟨o_,ND,o_,o_⟩;have NO:=uP C (cQ C lev) x (ce (S++[(x,lv)])) k d s ha;rw[T3]at NO;repeat' ((conv=>whnf);first|apply Wx|apply W6|apply oi|apply fi|intro h|exact Y5|refine e_ rfl ?_)
   refine cg (hI) ?_;repeat' ((conv=>whnf);first|apply Wx|apply W6|apply oi|apply fi|intro h|exact Y7|refine e_ rfl ?_)
   conv=>whnf
   refine⟨⟨j+1,o_⟩,?_,KD⟩;repeat' ((conv=>whnf);first|apply Wx|apply W6|apply oi|apply fi|intro h|exact Y7|refine e_ rfl ?_)
   all_goals try exact⟨by dsimp only;rw[NO]⟩
   all_goals try exact Q18
  ·have T6:j=es.length:=o_;subst T6;rw[D4]at T3 Wi Zk⊢;have hT:(Ex.node t es).toks.length=(aw es).length+1:=(by rw[Ex.toks,d5]);rw[T3]
   have NN:s1.J1.length+dm lev<=68719476736:=by have:((aw es).length+1)*dm lev=(aw es).length*dm lev+dm lev:=(by rw[p8];omega);omega
   have Of:x.J4.length<=100:=by have:=hx.J4;rw[show(ce (S++[(x,lv)])).length=S.length+1 by simp]at this;omega
   have Qj:dU s1:=(by unfold dU;omega);obtain⟨k1,k2,k3⟩:=JB ho.1;have VY:=OT t (c9 ht)
   have Uq:0<=x.first/\x.first<=1000:=by have:=hx.first;rw[show(ce (S++[(x,lv)])).length=S.length+1 by simp]at this;omega
   obtain⟨ee,_,_,_,_,OS⟩:=hx.endE hC;rcases FB ho.1 with Oz|hk1|Rj|Vg
   ·have g1:=kE C s1 (d+es.length) (scH (S++[(x,lv)])) t.MI k x.J4 Qj Of o_;have hz:=k1 (.inl Oz);unfold mm;rw[c7 Oz];exact V109
   ·have g1:=Al C hC s1 (d+es.length) (scH (S++[(x,lv)])) x (dJ x.L2 t.L0) k Qj Of o_ Uq (by have:=qQ x.L2 t.L0;omega);have gI:=fP x.L2 t.L0 o_;have hz:=k1 (.inr hk1);unfold mm;rw[b8 o_,c7 hk1]
    generalize dJ x.L2 t.L0=ix at *
    repeat' ((conv=>whnf);first|apply Wx|apply W6|refine cg g1 ?_|apply oi|apply fi|intro h|refine cl gI ?_|exact Y9|refine e_ rfl ?_)
   ·obtain⟨f,hf,Ut⟩:=hca t (c9 ht) Rj;obtain⟨Nh,y,hy,Pa,_⟩:=ig hf;have Xq:ca C f:=⟨y,hy,Pa⟩;have Ru:=k2 Rj;have gF:=dM C.p t.L0 o_;rw[show md C.p t.L0=(f:Int) from bY hf]at gF;have g1:=uf C hC s1 (d+es.length) (S++[(x,lv)]) f Qj aab Nh;unfold mm;rw[b8 o_,b8 o_,c7 Rj,hf];dsimp only
    cases S6:cU C (ce (S++[(x,lv)])) f s1.J1.length with
    | true=>
     have g2:=hR x S lv k f s1 (d+es.length) hx (aI hk) Xq S6 ⟨o_,ND,o_,o_⟩;rw[S6]at g1;rw[c7 rfl]
     repeat' ((conv=>whnf);first|apply Wx|apply W6|refine cg g1 ?_|refine cg g2 ?_|apply oi|apply fi|intro h|refine cl gF ?_|exact Y9|refine e_ rfl ?_)
    | false=>
     rw[S6]at g1;rw[b8 s_];have g2:=bV C s1 (d+es.length) (scH (S++[(x,lv)])) 12 (lf C.p f) k x.J4 Qj Of;repeat' ((conv=>whnf);first|apply Wx|apply W6|refine cg g1 ?_|apply oi|apply fi|intro h|refine cl gF ?_|exact Y10|refine e_ rfl ?_)
     conv=>whnf
     refine⟨{i:Nat//i<=f},fun q=>⟨[(0,iv),(1,tI .i64 (k:Int)),(2,tI .i64 ((p+1+(aw es).length:Nat):Int)),(10,tI .i64 (f:Int)),(11,tI .i64 (lf C.p q.1:Int)),(12,tI .i64 (q.1:Int)),(7,.r (.c (.ptr (7,0,0) 0))),(8,.r (.c (.ptr (8,0,0) 0)))],
      [(
       (0,0,0),some (pN C s1 (d+es.length) (7,0,1) (7,0,2))),((7,0,1),some (.dar 7 (itR s1.J1) none)),((7,0,2),some (.dar 6 (scH (S++[(x,lv)])) none)),
       ((7,0,0),some (.box [.t (.int .i64 (x.f:Int)),.t (.lst 1 (x.J4.map aa)),.t (.lst 1 (x.L2.map aq)),.t (.int .i64 x.first),.t (.bool x.L6),.opq])),((8,0,0),some (.box (t.tr.map .t)))],[8,7,0]⟩,fun q=>f-q.1,⟨0,o_⟩,?_,?_⟩
     ·exact Z2
     intro⟨i,hi⟩;dsimp only at hi⊢;have Ox:=Cr C.p i;by_cases hif:i<f
     ·obtain⟨z,hz⟩:=ae (l:=C.p) (k:=i) o_;have SL:=Dj hz;repeat' ((conv=>whnf);first|apply Wx|apply W6|apply oi|apply fi|intro h|refine⟨i,z.tr,rfl,ab hz,?_⟩|exact Y5|refine e_ rfl ?_)
      all_goals(conv=>whnf)
      all_goals(refine⟨⟨i+1,o_⟩,?_,KD⟩)
      repeat' ((conv=>whnf);first|apply Wx|apply W6|apply oi|apply fi|intro h|exact Y8|refine e_ rfl ?_)
      ·rw[c7 aaf]at SL;all_goals try exact Q18
      ·rw[b8 aaf]at SL;all_goals try exact Q18
     ·have OK:i=f:=o_;subst OK;repeat' ((conv=>whnf);first|apply Wx|apply W6|refine cg g2 ?_|apply oi|apply fi|intro h|exact Y11|refine e_ rfl ?_)
   ·have g1:=bV C s1 (d+es.length) (scH (S++[(x,lv)])) (5+t.J5-2) 0 k x.J4 Qj Of;have YL:IntKind.i64.wrap (IntKind.i64.wrap (5+t.J5)-2)=5+t.J5-2:=(by simp(disch:=omega)only[c6]);rw[<-YL]at g1;have hz:=k3 Vg.1 Vg.2;unfold mm;rw[b8 o_,b8 o_,b8 o_,<-YL];exact V109
def zb (C:Cx)(lev:Nat):Prop:=∀(x:Sc) (S:List (Sc×List Int)) (s:Gs) (d:Int),ScOk C x (ce (S++[(x,[])]))->s.J1.length+(lc C.p x.f-x.f)*(20*dm lev+3)<=68719476736->((lev+S.length:Nat):Int)=C.b.MJ->0<=d->d+30+100*(lev:Int)<=1900->
 bE prog 198 [iv] (ib (0,0,1) (0,0,2) C s d (scH (S++[(x,[])]))) (.tup []) (ib (1,0,1) (1,0,2) C (bx C (cQ C lev) x (ce (S++[(x,[])])) d s).1 d (scH (S++[(x,(bx C (cQ C lev) x (ce (S++[(x,[])])) d s).2)])))
theorem jQ (S:List (Sc×List Int))(y:Sc×List Int):ce (S++[y])=ce S++[y.1.f]:=s_
theorem JS {C:Cx}(hC:CxOk C){lev:Nat}(hL:zb C lev):Ik C (lev+1):=by
 intro x S lv k g s d hx hk hg S6 hr;refine aD hΓ aE func261 rfl d_ rfl rfl ?_;obtain⟨r1,r2,r3,r4⟩:=fQ S6;obtain⟨y,hy,Pa⟩:=hg;have RK:=hC.len;have hin:=hC.inl;have NR:=dy hC ⟨y,hy,Pa⟩;have hA:argsN C.p g=y.L9.length:=by rw[argsN,hy]
 have hLo:=jd C.p (g:Int) o_ (fun z hz=>aZ hC.small hz);have N3:=va hC hx;have N6:(ce (S++[(x,lv)])).length=S.length+1:=s_;rw[N6]at N3 r1;have QB:x.L2.length<=8:=by obtain⟨_,_,_,_,_,h⟩:=hx.endE hC;exact h
 have Uq:=hx.first;rw[N6]at Uq;have ha:=hC.args;have Of:=hx.J4;rw[N6]at Of;obtain⟨q1,q2,q3,q4⟩:=hr;have Nh:=bh (x.J4++[(k:Int)]);have Sp:(y.L9.map aq).length=y.L9.length:=s_;have XN:(x.L2.map aq).length=x.L2.length:=s_;have Np:(x.J4.map aa).length=x.J4.length:=s_;have e1:IntKind.i64.wrap ((x.L2.length:Int)-C.args)=(x.L2.length:Int)-C.args:=by rw[c6 _ o_]
 have e2:IntKind.i64.wrap (x.first+(x.L2.length:Int))=x.first+x.L2.length:=by rw[c6 _ o_]
 repeat' ((conv=>whnf);first|(with_reducible apply W1;fail_if_success (with_reducible show Wo _ _ _ _ (Code.seq (Code.region 3 _ _) _) _ _))|(with_reducible first|apply W2|apply W3|apply W4|apply W5|apply W6|apply W7|apply W8|apply W9)|apply au|apply oi|apply fi|intro h|refine⟨g,y.tr,rfl,ab hy,?_⟩|exact Y7|refine e_ rfl ?_)
 refine nW Unit (fun _=>⟨[(0,iv),(1,tI .i64 (g:Int)),(2,tI .i64 (k:Int)),(7,.r (.c (.ptr (7,0,0) 0))),(8,tI .i64 (argsN C.p g:Int)),(9,tI .i64 (ct C x))],
  [(
   (0,0,0),some (pN C s d (0,0,1) (0,0,2))),((0,0,1),some (.dar 7 (itR s.J1) none)),((0,0,2),some (.dar 6 (scH (S++[(x,lv)])) none)),
   ((7,0,0),some (.box [.t (.int .i64 (x.f:Int)),.t (.lst 1 (x.J4.map aa)),.t (.lst 1 (x.L2.map aq)),.t (.int .i64 x.first),.t (.bool x.L6),.opq]))],[7,0]⟩) ?_ ?_
 ·repeat' ((conv=>whnf);first|apply Wx|apply W6|apply oi|apply fi|intro h|exact Y7|refine e_ rfl ?_)
  all_goals(conv=>whnf)
  all_goals(refine⟨(),?_⟩)
  repeat' ((conv=>whnf);first|apply Wx|apply W6|apply oi|apply fi|intro h|exact Y7|refine e_ rfl ?_)
  all_goals(refine⟨congrArg (Tr.int _) ?_⟩)
  all_goals try(rw[Sp,hA];done)
  all_goals(unfold ct;rw[XN])
  all_goals first|(rw[c7 aak];exact e1)|(rw[b8 (by simp_all)];exact e2)
 intro _;repeat' ((conv=>whnf);first|(with_reducible apply W1;fail_if_success (with_reducible show Wo _ _ _ _ (Code.region 7 _ _) _ _))|(with_reducible first|apply W2|apply W3|apply W4|apply W5|apply W6|apply W7|apply W8|apply W9)|apply au|apply oi|apply fi|intro h|refine cl hLo ?_|exact Y7|refine e_ rfl ?_)
 all_goals try exact Q1
 conv=>whnf
 refine ww ⟨[(0,iv),(1,tI .i64 (g:Int)),(2,tI .i64 (k:Int)),(7,.r (.c (.ptr (7,0,0) 0))),(8,tI .i64 (argsN C.p g:Int)),(9,tI .i64 (ct C x)),(10,.r (.c (.ptr (10,0,0) 0)))],
  [(
   (0,0,0),some (pN C s d (0,0,1) (0,0,2))),((0,0,1),some (.dar 7 (itR s.J1) none)),((0,0,2),some (.dar 6 (scH (S++[(x,lv)])) none)),
   ((7,0,0),some (.box [.t (.int .i64 (x.f:Int)),.t (.lst 1 (x.J4.map aa)),.t (.lst 1 (x.L2.map aq)),.t (.int .i64 x.first),.t (.bool x.L6),.opq])),
   ((10,0,0),some (.box [.t (.int .i64 (g:Int)),.t (.lst 1 ((x.J4++[(k:Int)]).map aa)),.t (.lst 1 ((localsOf C.p (g:Int)).map aq)),.t (.int .i64 (ct C x)),.t (.bool false),.nils 1]))],_⟩ ?_ ?_ rfl ?_
 ·exact⟨.inl rfl,.inl rfl,.inl rfl,.inl rfl,.inl rfl,.inl rfl,.inl rfl,trivial⟩
 ·refine⟨.inr (.inl rfl),.inr (.inl rfl),.inr (.inl rfl),.inr (.inl rfl),.inr (.inr (.inl ⟨_,_,rfl,rfl,.inl rfl,.inr (.inr ⟨_,rfl,?_,?_⟩),.inr (.inr ⟨_,rfl,rfl,?_⟩),.inl rfl,.inl rfl,.inr (.inl ⟨_,_,rfl,rfl⟩),trivial⟩)),trivial⟩
  ·show Tr.lst 1 _=Tr.lst 1 ([]++List.map aa x.J4++[[Tr.int .i64 (k:Int)]]);simp[aa]
  all_goals(intro q hq;simp only[AC.ids,d7,l9,or_false]at hq;subst hq;rfl)
 have OS:((localsOf C.p (g:Int)).map aq).length=(localsOf C.p (g:Int)).length:=s_;have em:IntKind.i64.wrap (ct C x+(((localsOf C.p (g:Int)).map aq).length:Int))=ct C x+((localsOf C.p (g:Int)).length:Int):=by rw[OS,c6 _ o_]
 obtain⟨s0,Rf⟩:∃s0:Gs,(⟨s.J1,max s.J8 (ct C x+(localsOf C.p (g:Int)).length),s.start⟩:Gs)=s0:=⟨_,rfl⟩;have z1:s.J1=s0.J1:=by rw[<-Rf]
 have z2:max s.J8 (ct C x+(localsOf C.p (g:Int)).length)=s0.J8:=by rw[<-Rf]
 have z3:s.start=s0.start:=by rw[<-Rf]
 obtain⟨Y,hY⟩:∃Y,cr C x k g=Y:=⟨_,rfl⟩;obtain⟨T1,YR⟩:∃T1,cK C (cr C x k g) x.J4 k (argsN C.p g) d s0=T1:=⟨_,rfl⟩;repeat' ((conv=>whnf);first|apply Wx|apply W6|apply oi|apply fi|intro h|exact Y7|refine e_ rfl ?_)
 conv=>whnf
 refine⟨{q:Nat×Gs//q.1<=argsN C.p g/\cK C (cr C x k g) x.J4 k q.1 (d-((argsN C.p g-q.1:Nat):Int)) q.2=T1/\q.2.J1.length<=300-q.1},fun q=>⟨[(0,iv),(1,tI .i64 (g:Int)),(2,tI .i64 (k:Int)),(7,.r (.c (.ptr (7,0,0) 0))),(8,tI .i64 (argsN C.p g:Int)),(10,.r (.c (.ptr (10,0,0) 0))),(11,tI .i64 ((q.1.1:Int)-1))],
  [(
   (0,0,0),some (pN C q.1.2 (d-((argsN C.p g-q.1.1:Nat):Int)) (7,0,1) (7,0,2))),((7,0,1),some (.dar 7 (itR q.1.2.J1) none)),((7,0,2),some (.dar 6 (scH (S++[(x,lv)])) none)),
   ((7,0,0),some (.box [.t (.int .i64 (x.f:Int)),.t (.lst 1 (x.J4.map aa)),.t (.lst 1 (x.L2.map aq)),.t (.int .i64 x.first),.t (.bool x.L6),.opq])),
   ((10,0,0),some (.box [.t (.int .i64 (g:Int)),.t (.lst 1 ((x.J4++[(k:Int)]).map aa)),.t (.lst 1 ((localsOf C.p (g:Int)).map aq)),.t (.int .i64 (ct C x)),.t (.bool false),.nils 1]))],[10,7,0]⟩,fun q=>q.1.1,⟨(argsN C.p g,s0),g_,by rw[<-YR];simp,by dsimp only;rw[<-z1];omega⟩,?_,?_⟩
 ·repeat' ((conv=>whnf);first|apply Wx|apply W6|apply oi|apply fi|intro h|exact Y7|refine e_ rfl ?_)
  all_goals try exact⟨by rw[z1]⟩
  all_goals try exact⟨by rw[z3]⟩
  all_goals try exact⟨congrArg itR z1⟩
  all_goals try exact⟨congrArg (Tr.int _) (by rw[em];exact z2)⟩
  all_goals try exact Q18
 intro⟨⟨m,t⟩,hm,ht,VY⟩;dsimp only at hm ht VY⊢
 cases m with
 | succ m=>
  have g1:=lS C hC t (d-((argsN C.p g-(m+1):Nat):Int)) (scH (S++[(x,lv)])) (cr C x k g) m k x.J4 aar o_ o_ (by show 0<=ct C x/\ct C x<=1000;omega) o_;rw[cK]at ht;rw[show((m+1:Nat):Int)-1=(m:Int) by omega];repeat' ((conv=>whnf);first|apply Wx|apply W6|refine cg g1 ?_|apply oi|apply fi|intro h|exact Y5|refine e_ rfl ?_)
  conv=>whnf
  refine⟨⟨(m,fS C (cr C x k g) t (d-((argsN C.p g-(m+1):Nat):Int)) m k x.J4),g_,by rw[<-ht];dsimp only;congr 1;omega,by dsimp only;simp only[fS,aF,c8,d5,i9];omega⟩,?_,KD⟩
  exact Z6
 | zero=>
  have e0:t=T1:=by rw[<-ht];rfl
  subst e0;have ed:d-((argsN C.p g-0:Nat):Int)=d-argsN C.p g:=by rw[y7]
  rw[ed];obtain⟨T2,Yj⟩:∃T2,dH C (cr C x k g) x.J4 k (d-argsN C.p g) ((localsOf C.p (g:Int)).length-argsN C.p g) (argsN C.p g) t=T2:=⟨_,rfl⟩;repeat' ((conv=>whnf);first|apply Wx|apply W6|apply oi|apply fi|intro h|exact Y5|refine e_ rfl ?_)
  conv=>whnf
  refine⟨{q:Nat×Gs//q.1<=(localsOf C.p (g:Int)).length/\dH C (cr C x k g) x.J4 k (d-argsN C.p g) ((localsOf C.p (g:Int)).length-q.1) q.1 q.2=T2/\q.2.J1.length<=400-2*((localsOf C.p (g:Int)).length-q.1)},fun q=>⟨[(0,iv),(1,tI .i64 (g:Int)),(2,tI .i64 (k:Int)),(7,.r (.c (.ptr (7,0,0) 0))),(10,.r (.c (.ptr (10,0,0) 0))),(12,tI .i64 (q.1.1:Int))],
   [(
    (0,0,0),some (pN C q.1.2 (d-argsN C.p g) (7,0,1) (7,0,2))),((7,0,1),some (.dar 7 (itR q.1.2.J1) none)),((7,0,2),some (.dar 6 (scH (S++[(x,lv)])) none)),
    ((7,0,0),some (.box [.t (.int .i64 (x.f:Int)),.t (.lst 1 (x.J4.map aa)),.t (.lst 1 (x.L2.map aq)),.t (.int .i64 x.first),.t (.bool x.L6),.opq])),
    ((10,0,0),some (.box [.t (.int .i64 (g:Int)),.t (.lst 1 ((x.J4++[(k:Int)]).map aa)),.t (.lst 1 ((localsOf C.p (g:Int)).map aq)),.t (.int .i64 (ct C x)),.t (.bool false),.nils 1]))],[10,7,0]⟩,fun q=>(localsOf C.p (g:Int)).length-q.1.1,⟨(argsN C.p g,t),g_,Yj,g_⟩,?_,?_⟩
  ·exact Z2
  intro⟨⟨i,u⟩,hi,hu,TE⟩;dsimp only at hi hu TE⊢;by_cases ZI:i<(localsOf C.p (g:Int)).length
  ·obtain⟨c,hc⟩:∃c,(localsOf C.p (g:Int)).length-i=c+1:=⟨(localsOf C.p (g:Int)).length-i-1,o_⟩;rw[hc,dH]at hu;have g1:=kE C u (d-argsN C.p g) (scH (S++[(x,lv)])) 0 k x.J4 aar o_ o_;have g2:=lS C hC (aF C u (d-argsN C.p g) 0 0 k x.J4) (d-argsN C.p g+1) (scH (S++[(x,lv)])) (cr C x k g) i k x.J4 aav o_ o_ (by show 0<=ct C x/\ct C x<=1000;omega) o_;repeat' ((conv=>whnf);first|apply Wx|apply W6|refine cg g1 ?_|refine cg g2 ?_|apply oi|apply fi|intro h|exact Y5|refine e_ rfl ?_)
   conv=>whnf
   refine⟨⟨(i+1,fS C (cr C x k g) (aF C u (d-argsN C.p g) 0 0 k x.J4) (d-argsN C.p g+1) i k x.J4),g_,by rw[<-hu];dsimp only;rw[show(localsOf C.p (g:Int)).length-(i+1)=c by omega],by dsimp only;simp only[fS,aF,c8,d5,i9];omega⟩,?_,KD⟩;exact Z6
  ·have OK:i=(localsOf C.p (g:Int)).length:=o_;subst OK;rw[x6,dH]at hu;subst hu;have NQ:fY C x k g d s=u:=(by rw[fY,Rf,YR,Yj]);repeat' ((conv=>whnf);first|(with_reducible apply W1;fail_if_success (with_reducible show Wo _ _ _ _ (Code.seq (Code.region 17 _ _) _) _ _))|(with_reducible first|apply W2|apply W3|apply W4|apply W5|apply W6|apply W7|apply W8|apply W9)|apply au|apply oi|apply fi|intro h|exact Y5|refine e_ rfl ?_)
   obtain⟨v,hv⟩:∃v,dk C x k (d-argsN C.p g) u=v:=⟨_,rfl⟩;have P9:v.J1.length<=500:=by rw[<-hv,dk];split<;>first|(simp[aF];omega)|omega
   refine nW Unit (fun _=>⟨[(0,iv),(1,tI .i64 (g:Int)),(2,tI .i64 (k:Int)),(7,.r (.c (.ptr (7,0,0) 0))),(10,.r (.c (.ptr (10,0,0) 0)))],
    [(
     (0,0,0),some (pN C v (d-argsN C.p g) (7,0,1) (7,0,2))),((7,0,1),some (.dar 7 (itR v.J1) none)),((7,0,2),some (.dar 6 (scH (S++[(x,lv)])) none)),
     ((10,0,0),some (.box [.t (.int .i64 (g:Int)),.t (.lst 1 ((x.J4++[(k:Int)]).map aa)),.t (.lst 1 ((localsOf C.p (g:Int)).map aq)),.t (.int .i64 (ct C x)),.t (.bool false),.own (10,0,1)])),((10,0,1),some (.arr true 1 []))],[10,7,0]⟩) ?_ ?_
   ·have g3:=bV C u (d-argsN C.p g) (scH (S++[(x,lv)])) 15 0 k x.J4 aar o_;unfold dk at hv
    cases Nw:u.start with
    | true=>
     rw[c7 Nw]at hv;subst hv;repeat' ((conv=>whnf);first|apply Wx|apply W6|refine cg g3 ?_|apply oi|apply fi|intro h|exact Y7|refine e_ rfl ?_)
     ·conv=>whnf
      refine⟨(),?_⟩;exact Z2
     ·exfalso;simp_all
    | false=>
     rw[b8 (by simp[Nw])]at hv;subst hv;repeat' ((conv=>whnf);first|apply Wx|apply W6|refine cg g3 ?_|apply oi|apply fi|intro h|exact Y7|refine e_ rfl ?_)
     ·exfalso;simp_all
     ·conv=>whnf
      refine⟨(),?_⟩;exact Z2
   intro _;have TG:ScOk C (cr C x k g) (ce ((S++[(x,lv)])++[(cr C x k g,[])])):=(by rw[jQ];exact kn hC hx k ⟨y,hy,Pa⟩);obtain⟨ye,ye1,ye2,ye3,ye4,_⟩:=TG.endE hC
   have Y0:lc C.p (cr C x k g).f-(cr C x k g).f<=9:=by rw[ye4];have:cB C.p (g:Int)=(ye:Int):=(by rw[cD];exact bY ye1);show ye-g<=9;omega
   have h3:=Ed (n:=lev) o_
   have Yq:=hL (cr C x k g) (S++[(x,lv)]) v (d-argsN C.p g) TG (by
    have:=A7 Y0 (show 20*dm lev+3<=20*8679837+3 by omega)
    omega) (by simp only[c8,d5,i9];omega) q3 o_
   have OC:(scH (S++[(x,lv)])).length=S.length+1:=s_;obtain⟨r,hr⟩:∃r,bx C (cQ C lev) (cr C x k g) (ce ((S++[(x,lv)])++[(cr C x k g,[])])) (d-argsN C.p g) v=r:=⟨_,rfl⟩;rw[hr]at Yq;have U8:(scH ((S++[(x,lv)])++[(cr C x k g,r.2)])).length=S.length+2:=s_;have Ow:IntKind.i64.wrap (((scH ((S++[(x,lv)])++[(cr C x k g,r.2)])).length:Int)-1)=((S.length+1:Nat):Int):=(by rw[U8,c6 _ o_];omega);have PG:S.length+1<(scH ((S++[(x,lv)])++[(cr C x k g,r.2)])).length:=o_;have SJ:(scH ((S++[(x,lv)])++[(cr C x k g,r.2)]))[S.length+1]?=some (lb (cr C x k g) r.2):=s_;have Xc:=bh r.2;repeat' ((conv=>whnf);first|(with_reducible apply W1;fail_if_success (with_reducible show Wo _ _ _ _ (Code.region 23 _ _) _ _))|(with_reducible first|apply W2|apply W3|apply W4|apply W5|apply W6|apply W7|apply W8|apply W9)|apply au|refine cg Yq ?_|apply oi|apply fi|intro h|refine⟨S.length+1,Ow,PG,?_⟩|refine⟨_,SJ,?_⟩|exact Y7|refine e_ rfl ?_)
   all_goals try exact⟨⟨by rw[OC];simp<;>omega,by rw[OC];simp<;>omega⟩⟩
   all_goals try exact⟨Xc⟩
   all_goals try exact⟨by simp[cr,aa]⟩
   conv=>whnf
   refine ww ⟨[(0,iv),(13,tI .i64 (d-argsN C.p g)),(14,.r (.c (.t (.lst 1 (r.2.map aa)))))],
    [((0,0,0),some (pN C r.1 (d-argsN C.p g) (127,0,1) (127,0,2))),((127,0,1),some (.dar 7 (itR r.1.J1) none)),((127,0,2),some (.dar 6 ((scH ((S++[(x,lv)])++[(cr C x k g,r.2)])).set (S.length+1) ((lb (cr C x k g) r.2).set 5 (.t (.lst 1 (r.2.map aa))))) none))],_⟩ ?_ ?_ rfl ?_
   ·refine⟨.inl rfl,.inl rfl,.inr (.inl ⟨_,_,rfl,rfl,.inr (.inr ⟨_,rfl,rfl,?_⟩)⟩),trivial⟩;intro q hq;simp only[AC.ids,d7,l9,or_false]at hq;subst hq;rfl
   ·exact⟨.inr (.inl rfl),.inr (.inl rfl),.inr (.inr (.inr ⟨_,_,_,_,_,_,_,rfl,SJ,d_,rfl,rfl,rfl⟩)),trivial⟩
   have X3:((scH ((S++[(x,lv)])++[(cr C x k g,r.2)])).set (S.length+1) ((lb (cr C x k g) r.2).set 5 (.t (.lst 1 (r.2.map aa))))).length=S.length+2:=(by rw[q8];exact U8);have hw4:IntKind.i64.wrap ((((scH ((S++[(x,lv)])++[(cr C x k g,r.2)])).set (S.length+1) ((lb (cr C x k g) r.2).set 5 (.t (.lst 1 (r.2.map aa))))).length:Int)-1)=((S.length+1:Nat):Int):=(by rw[X3,c6 _ o_];omega);have UY:S.length+1<=((scH ((S++[(x,lv)])++[(cr C x k g,r.2)])).set (S.length+1) ((lb (cr C x k g) r.2).set 5 (.t (.lst 1 (r.2.map aa))))).length:=o_
   have Ng:((scH ((S++[(x,lv)])++[(cr C x k g,r.2)])).set (S.length+1) ((lb (cr C x k g) r.2).set 5 (.t (.lst 1 (r.2.map aa))))).take (S.length+1)=scH (S++[(x,lv)]):=by rw[G5 (d8 _),<-x8,List.take_left' s_]
   have N7:(r.2.map aa).length=r.2.length:=s_;have Qe:=Gn (lev:=lev) (rep:=cQ C lev) (fun line g d s hg hr=>il hC lev line g d s TG hg hr) hC TG (d-argsN C.p g) v;have UT:=mI (lev:=lev) (rep:=cQ C lev) (fun line g d s hg hr=>il hC lev line g d s TG hg hr) hC TG (d-argsN C.p g) v;rw[hr]at Qe UT;have aay:=UT.le;obtain⟨X1,Qe⟩:=Qe;have Th:=A7 Y0 (show 20*dm lev+3<=20*8679837+3 by omega);repeat' ((conv=>whnf);first|apply Wx|apply W6|apply oi|apply fi|intro h|refine⟨S.length+1,hw4,UY,?_⟩|exact Y7|refine e_ rfl ?_)
   conv=>whnf
   refine⟨{i:Nat//i<=r.2.length},fun q=>⟨[(0,iv),(13,tI .i64 (d-argsN C.p g)),(14,.r (.c (.t (.lst 1 (r.2.map aa))))),(15,tI .i64 (q.1:Int))],
    [((0,0,0),some (pN C r.1 (d-argsN C.p g) (127,0,1) (127,0,2))),((127,0,1),some (.dar 7 (itR (patchL r.1.J1 r.1.J1.length (r.2.take q.1))) none)),((127,0,2),some (.dar 6 (scH (S++[(x,lv)])) none))],[127,0]⟩,fun q=>r.2.length-q.1,⟨0,o_⟩,?_,?_⟩
   ·repeat' ((conv=>whnf);first|apply Wx|apply W6|apply oi|apply fi|intro h|exact Y7|refine e_ rfl ?_)
    all_goals first|exact⟨UY⟩|exact⟨Ng⟩
   intro⟨i,ZE⟩;dsimp only at ZE⊢;have Pv:=iq (r.1.J1.length:Int) (r.2.take i) r.1.J1;have Vp:(itR (patchL r.1.J1 r.1.J1.length (r.2.take i))).length=r.1.J1.length:=(by rw[kc,Pv]);by_cases TI:i<r.2.length
   ·obtain⟨j,hj⟩:=ae TI;obtain⟨j1,j2⟩:=Qe j (c9 hj);obtain⟨jn,rfl⟩:=gt j1;have Ol:jn<(itR (patchL r.1.J1 r.1.J1.length (r.2.take i))).length:=(by rw[Vp];omega);obtain⟨it,NZ⟩:=ae (l:=patchL r.1.J1 r.1.J1.length (r.2.take i)) (k:=jn) (by rw[Pv];omega);have NO:r.2.take (i+1)=r.2.take i++[(jn:Int)]:=(by rw[B5,hj];rfl);have TC:=tz r.1.J1.length (jn:Int) (r.2.take i) r.1.J1;repeat' ((conv=>whnf);first|apply Wx|apply W6|apply oi|apply fi|intro h|refine⟨i,(aa jn),rfl,ab hj,?_⟩|refine⟨jn,rfl,Ol,?_⟩|refine⟨_,(Fh NZ),?_⟩|exact Y5|refine e_ rfl ?_)
    conv=>whnf
    refine⟨⟨i+1,o_⟩,?_,KD⟩;repeat' ((conv=>whnf);first|apply Wx|apply W6|apply oi|apply fi|intro h|exact Y8|refine e_ rfl ?_)
    all_goals(refine⟨?_⟩;rw[Vp];dsimp only;rw[NO,TC,vt NZ];rfl)
   ·have OK:i=r.2.length:=o_;subst OK;have Qc:bx C (cQ C lev) (cr C x k g) (ce (S++[(x,lv)])++[g]) (d-argsN C.p g) v=r:=(congrArg (fun l=>bx C (cQ C lev) (cr C x k g) l (d-argsN C.p g) v) (by simp[cr])).trans hr
    have NM:cQ C (lev+1) x (ce (S++[(x,lv)])) k g d s=⟨patchL r.1.J1 r.1.J1.length r.2,r.1.J8,r.1.start⟩:=by show lZ C (bx C (cQ C lev)) x (ce (S++[(x,lv)])) k g d s=_;unfold lZ;rw[NQ,hv,Qc]
    rw[NM];rw[D4];repeat' ((conv=>whnf);first|apply Wx|apply W6|apply oi|apply fi|intro h|exact Y5|refine e_ rfl ?_)
    all_goals try exact⟨congrArg (fun z:Gs=>Tr.bool z.start) NM.symm⟩
    all_goals try exact⟨congrArg (fun z:Gs=>itR z.J1) NM.symm⟩
    all_goals try exact⟨congrArg (fun z:Gs=>Tr.int .i64 z.J8) NM.symm⟩
    all_goals try exact Q18
end Go.Proofs.P
