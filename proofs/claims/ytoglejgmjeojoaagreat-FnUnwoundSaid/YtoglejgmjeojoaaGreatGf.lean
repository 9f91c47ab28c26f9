import Derived.Test.YtoglejgmjeojoaaGreatGe
set_option maxRecDepth 100000
set_option maxHeartbeats 4000000
namespace Go.Proofs.P
open Go.Sim Tryz
theorem De {p q:Prop}[Decidable p][Decidable q]{α:Type}{a b:α}{r:α}(hp:p):((if p/\q then a else b)=r)=((if q then a else b)=r):=by
 by_cases hq:q
 ·rw[c7 ⟨hp,hq⟩,c7 hq]
 ·rw[b8 (fun h=>hq h.2),b8 hq]
theorem IG {l:List LO}{j i:Nat}:(cB l (j:Int)==(i:Int))=(elseAt l j==some i):=by
 rw[cB,c7 o_,d7]
 cases elseAt l j with|none=>simp[cO]|some m=>rw[A0];simp[cO];omega
theorem V38{p:Prop}(h:p:=by
 repeat' ((conv=>whnf);first|apply Wx|apply W6|apply oi|apply fi|intro h|refine⟨i,y.tr,rfl,ab hy,?_⟩|refine⟨j,t.tr,rfl,ab ht,?_⟩|refine cl hI ?_|refine cl hF ?_|exact Y5|refine e_ rfl ?_)
 all_goals try(exfalso;(try simp_all[af]);(try omega);done)):p:=h
theorem V26{p:Prop}(h:p:=by
 repeat' ((conv=>whnf);first|apply Wx|apply W6|apply oi|apply fi|intro h|refine⟨i,y.tr,rfl,ab hy,?_⟩|refine⟨j,t.tr,rfl,ab ht,?_⟩|refine cl hI ?_|refine cl hF ?_|exact Y5|refine e_ rfl ?_)
 all_goals try exact Q2
 all_goals try exact Q5
 conv=>whnf
 refine⟨⟨j+1,o_,MN⟩,?_,KD⟩
 exact Z5):p:=h
theorem Q22{p:Prop}(h:p:=by exfalso;simp only[p9,j5]at h;omega):p:=h
theorem wE (l:List LO)(k e:Nat)(hl:l.length<=60)(hs:∀x∈l,aF 1048576 x.tr)(he:endAt l k=some e):Sim.Spec prog 122 [tvP l,tvI k,tvI e] (rB (lL l k e)):=by
 refine bv hΓ aG func122 rfl d_ rfl ?_;have Mv:(l.map LO.tr).length=l.length:=s_;have hL:=iS l k o_ hs;obtain⟨Xv,X3⟩:=Fx (l:=l) (k:=(k:Int)) o_ hs;have Wa:=(aN he);obtain⟨x0,QL,ho0,RW,ND,M6⟩:=Wa;unfold lL
 generalize localsOf l (k:Int)=loc at *
 have Oj:(loc.map ao).length=loc.length:=s_;by_cases h8:loc.length<=8
 ·rw[q9 h8,m9];obtain⟨R,hR⟩:∃R,lU l loc k e (e-(k+1)) (k+1) 0=R:=⟨_,rfl⟩;rw[hR];repeat' ((conv=>whnf);first|apply Wx|apply W6|apply oi|apply fi|intro h|refine cl hL ?_|exact Y5|refine e_ rfl ?_)
  conv=>whnf
  refine⟨{q:Nat×List Nat//k<q.1/\q.1<=e/\StkOk l e q.1 q.2/\q.2.length<=4/\lU l loc k e (e-q.1) q.1 q.2.length=R},fun q=>⟨[(0,vP l),(1,tI .i64 (k:Int)),(2,tI .i64 (e:Int)),(7,.r (.c (.own (7,0,0)))),(8,tI .i64 ((q.1.2.length:Nat):Int)),(9,tI .i64 (q.1.1:Int))],[((7,0,0),some (.arr true 1 (loc.map ao)))],[7]⟩,fun q=>e-q.1.1,⟨(k+1,[]),g_,g_,RW,s_,hR⟩,?_,?_⟩
  ·exact Z5
  intro⟨⟨i,es⟩,q1,q2,g1,g2,g4⟩;dsimp only at q1 q2 g1 g2 g4⊢;by_cases My:i<e
  ·obtain⟨y,hy⟩:=ae (l:=l) (k:=i) o_;have Rc:(y.K9.map LY.tr).length=y.K9.length:=s_;have ZY:=(fO (hs y (c9 hy))).2.2.2.1;obtain⟨K,hK⟩:∃K,eC l loc y.K9=K:=⟨_,rfl⟩;rw[CN My hy,hK]at g4;by_cases h0:y.J1=0
   ·rw[c7 h0]at g4;subst g4;repeat' ((conv=>whnf);first|apply Wx|apply W6|apply oi|apply fi|intro h|refine⟨i,y.tr,rfl,ab hy,?_⟩|exact Y5|refine e_ rfl ?_)
    all_goals try exact Q5
   ·rw[b8 h0]at g4;repeat' ((conv=>whnf);first|(with_reducible apply W1;fail_if_success (with_reducible show Wo _ _ _ _ (Code.seq (Code.region 8 _ _) _) _ _))|(with_reducible first|apply W2|apply W3|apply W4|apply W5|apply W6|apply W7|apply W8|apply W9)|apply aB|apply oi|apply fi|intro h|refine⟨i,y.tr,rfl,ab hy,?_⟩|exact Y5|refine e_ rfl ?_)
    refine nt {q:Nat×List Nat//StkOk l e (i+1) q.2/\q.1=q.2.length/\q.1<=60/\(if q.1<=4/\K=true then lU l loc k e (e-(i+1)) (i+1) q.1 else false)=R} (fun q=>⟨[(0,vP l),(1,tI .i64 (k:Int)),(2,tI .i64 (e:Int)),(7,.r (.c (.own (7,0,0)))),(8,tI .i64 ((q.1.1:Nat):Int)),(9,tI .i64 (i:Int))],[((7,0,0),some (.arr true 1 (loc.map ao)))],[7]⟩) ?_ ?_
    ·by_cases Uw:y.J1=3\/y.J1=5
     ·rw[b8 (fun h=>o_)]at g4;have hd:dep y es.length=es.length+1:=(by unfold dep;rw[c7 Uw]);rw[hd]at g4;obtain⟨m',PX,Tl,Om⟩:=g1.push hy (opensK_iff.2 o_);have QP:IntKind.i64.wrap ((es.length:Int)+1)=((es.length+1:Nat):Int):=(by rw[c6 _ o_];omega);repeat' ((conv=>whnf);first|apply Wx|apply W6|apply oi|apply fi|intro h|refine⟨i,y.tr,rfl,ab hy,?_⟩|exact Y5|refine e_ rfl ?_)
      all_goals try exact Q5
      all_goals
       conv=>whnf
       refine⟨⟨(es.length+1,m'::es),Om,rfl,g_,g4⟩,?_⟩;repeat' ((conv=>whnf);first|apply Wx|apply W6|apply oi|apply fi|intro h|exact Y7|refine e_ rfl ?_)
       all_goals try exact⟨by dsimp only;rw[QP]⟩
     ·by_cases UM:y.J1=7
      ·rw[b8 (fun h=>o_)]at g4;rcases g1.pop hy UM with⟨_,h'⟩|⟨NW,QT,Om⟩
       ·omega
       have hd:dep y es.length=NW.length:=(by unfold dep;rw[b8 Uw,c7 UM,QT];simp);have hl4:es.length=NW.length+1:=(by rw[QT];rfl);rw[hd]at g4;have QP:IntKind.i64.wrap ((es.length:Int)-1)=(NW.length:Int):=(by rw[c6 _ o_];omega);repeat' ((conv=>whnf);first|apply Wx|apply W6|apply oi|apply fi|intro h|refine⟨i,y.tr,rfl,ab hy,?_⟩|exact Y5|refine e_ rfl ?_)
       all_goals try exact Q5
       conv=>whnf
       refine⟨⟨(NW.length,NW),Om,rfl,g_,g4⟩,?_⟩;repeat' ((conv=>whnf);first|apply Wx|apply W6|apply oi|apply fi|intro h|exact Y7|refine e_ rfl ?_)
       all_goals try exact⟨by dsimp only;rw[QP]⟩
      ·have hd:dep y es.length=es.length:=by unfold dep;rw[b8 Uw,b8 UM]
       have ho:dL y.J1=false:=by cases hh:dL y.J1 with|false=>rfl|true=>rw[opensK_iff]at hh;omega
       have Om:=g1.other hy ho UM;rw[hd]at g4;by_cases h4:y.J1=4
       ·obtain⟨Av,hA⟩:∃Av,anyE l i (i-k) k=Av:=⟨_,rfl⟩;rw[hA]at g4;repeat' ((conv=>whnf);first|apply Wx|apply W6|apply oi|apply fi|intro h|refine⟨i,y.tr,rfl,ab hy,?_⟩|exact Y5|refine e_ rfl ?_)
        all_goals try exact Q5
        conv=>whnf
        refine⟨{q:Nat×Bool//q.1<=i/\(q.2||anyE l i (i-q.1) q.1)=Av},fun q=>⟨[(0,vP l),(1,tI .i64 (k:Int)),(2,tI .i64 (e:Int)),(7,.r (.c (.own (7,0,0)))),(8,tI .i64 ((es.length:Nat):Int)),(9,tI .i64 (i:Int)),(10,tB q.1.2),(11,tI .i64 (q.1.1:Int))],[((7,0,0),some (.arr true 1 (loc.map ao)))],[7]⟩,fun q=>i-q.1.1,⟨(k,false),g_,by simpa using hA⟩,?_,?_⟩
        ·exact Z2
        intro⟨⟨j,b⟩,hj,hb⟩;dsimp only at hj hb⊢;by_cases NP:j<i
        ·obtain⟨n,hn⟩:∃n,i-j=n+1:=⟨i-j-1,o_⟩;have PQ:i-(j+1)=n:=o_;rw[hn,anyE,<-IG]at hb;have hS:=ky l (j:Int) o_
         generalize cB l (j:Int)=ee at *
         cases b with
         | true=>
          repeat' ((conv=>whnf);first|apply Wx|apply W6|apply oi|apply fi|intro h|refine cl hS ?_|exact Y5|refine e_ rfl ?_)
          conv=>whnf
          refine⟨⟨(j+1,true),g_,by simpa using hb⟩,?_,KD⟩
          exact Z5
         | false=>
          repeat' ((conv=>whnf);first|apply Wx|apply W6|apply oi|apply fi|intro h|refine cl hS ?_|exact Y5|refine e_ rfl ?_)
          conv=>whnf
          refine⟨⟨(j+1,(ee==(i:Int))),g_,by dsimp only;rw[PQ];simpa using hb⟩,?_,KD⟩;exact Z5
        ·rw[show i-j=0 by omega,anyE,Bool.or_false]at hb;subst hb
         cases b with
         | false=>
          rw[c7 ⟨h4,rfl⟩]at g4;subst g4
          exact Z7
         | true=>
          rw[b8 s_]at g4;repeat' ((conv=>whnf);first|apply Wx|apply W6|apply oi|apply fi|intro h|exact Y5|refine e_ rfl ?_)
          conv=>whnf
          refine⟨⟨(es.length,es),Om,rfl,g_,g4⟩,?_⟩;exact Z2
       ·rw[b8 (fun h=>h4 h.1)]at g4;repeat' ((conv=>whnf);first|apply Wx|apply W6|apply oi|apply fi|intro h|refine⟨i,y.tr,rfl,ab hy,?_⟩|exact Y5|refine e_ rfl ?_)
        all_goals try exact Q5
        conv=>whnf
        refine⟨⟨(es.length,es),Om,rfl,g_,g4⟩,?_⟩;exact Z2
    clear g4 g1;intro⟨⟨d,NW⟩,Om,QN,WA,g4⟩;dsimp only at Om QN WA g4⊢;have QP:(d:Int)=(d:Int):=rfl;by_cases XK:(d)<=4
    ·rw[De XK]at g4;repeat' ((conv=>whnf);first|apply Wx|apply W6|apply oi|apply fi|intro h|refine⟨i,y.tr,rfl,ab hy,?_⟩|exact Y5|refine e_ rfl ?_)
     all_goals try exact Q22
     conv=>whnf
     refine⟨{j:Nat//j<=y.K9.length/\(y.K9.drop j).all (cH l loc)=K},fun q=>⟨[(0,vP l),(1,tI .i64 (k:Int)),(2,tI .i64 (e:Int)),(7,.r (.c (.own (7,0,0)))),(8,tI .i64 (d:Int)),(9,tI .i64 (i:Int)),(12,tI .i64 (q.1:Int))],[((7,0,0),some (.arr true 1 (loc.map ao)))],[7]⟩,fun q=>y.K9.length-q.1,⟨0,o_,hK⟩,?_,?_⟩
     ·exact Z2
     intro⟨j,hj,MN⟩;dsimp only at hj MN⊢;by_cases NM:j<y.K9.length
     ·obtain⟨t,ht⟩:=ae NM;rw[Kz ht]at MN;have hI:=fH loc t.J8 o_;have hF:=dK l t.J8 o_;by_cases h1:t.J1=1
      ·have e1:cH l loc t=loc.contains t.J8:=(by unfold cH;rw[c7 h1]);rw[e1]at MN;have OK:=xN (l:=loc) (s:=t.J8)
       generalize dG loc t.J8=ix at *
       generalize lQ l t.J8=ff at *
       cases hc:loc.contains t.J8 with
       | false=>
        rw[hc]at OK MN;rw[s9]at MN;subst MN;rw[b8 s_]at g4;subst g4
        exact V38
       | true=>rw[hc]at OK MN;rw[m9]at MN;exact V26
      ·by_cases h7:t.J1=7
       ·cases hf:findN l 0 t.J8 with
        | none=>
         have e1:cH l loc t=false:=(by unfold cH;rw[b8 h1,c7 h7,hf]);rw[e1,s9]at MN;subst MN;rw[b8 s_]at g4;subst g4;rw[show lQ l t.J8= -1 from rt hf]at hF
         exact V38
        | some f=>
         obtain⟨MM,x,hx,QL,_⟩:=gY hf;have e1:cH l loc t=((x.L5.length:Int)==t.Mb):=(by unfold cH;rw[b8 h1,c7 h7,hf];dsimp only;rw[hx]);rw[e1]at MN;rw[show lQ l t.J8=(f:Int) from bR hf]at hF;have Qr:(x.L5.map ao).length=x.L5.length:=s_;by_cases hn:(x.L5.length:Int)=t.Mb
         ·rw[w8.2 hn,m9]at MN;repeat' ((conv=>whnf);first|apply Wx|apply W6|apply oi|apply fi|intro h|refine⟨i,y.tr,rfl,ab hy,?_⟩|refine⟨j,t.tr,rfl,ab ht,?_⟩|refine⟨f,x.tr,rfl,ab hx,?_⟩|refine cl hI ?_|refine cl hF ?_|exact Y5|refine e_ rfl ?_)
          all_goals try exact Q2
          all_goals try exact Q5
          conv=>whnf
          refine⟨⟨j+1,o_,MN⟩,?_,KD⟩;exact Z5
         ·rw[B4.2 hn,s9]at MN;subst MN;rw[b8 s_]at g4;subst g4;repeat' ((conv=>whnf);first|apply Wx|apply W6|apply oi|apply fi|intro h|refine⟨i,y.tr,rfl,ab hy,?_⟩|refine⟨j,t.tr,rfl,ab ht,?_⟩|refine⟨f,x.tr,rfl,ab hx,?_⟩|refine cl hI ?_|refine cl hF ?_|exact Y5|refine e_ rfl ?_)
          all_goals try exact Q2
          all_goals try exact Q5
       ·have e1:cH l loc t=true:=(by unfold cH;rw[b8 h1,b8 h7]);rw[e1,m9]at MN;exact V26
     ·rw[n9 o_,List.all_nil]at MN;subst MN;rw[c7 rfl]at g4;repeat' ((conv=>whnf);first|apply Wx|apply W6|apply oi|apply fi|intro h|refine⟨i,y.tr,rfl,ab hy,?_⟩|exact Y7|refine e_ rfl ?_)
      all_goals try(exfalso;have h':=f0 h;rw[Rc]at h';omega)
      conv=>whnf
      refine⟨⟨(i+1,NW),g_,g_,Om,g_,by dsimp only;rw[<-QN];exact g4⟩,?_,KD⟩;repeat' ((conv=>whnf);first|apply Wx|apply W6|apply oi|apply fi|intro h|exact Y7|refine e_ rfl ?_)
      all_goals try exact⟨by dsimp only;rw[QN]⟩
      all_goals try exact⟨K1⟩
    ·rw[b8 (fun h=>XK h.1)]at g4;subst g4;repeat' ((conv=>whnf);first|apply Wx|apply W6|apply oi|apply fi|intro h|refine⟨i,y.tr,rfl,ab hy,?_⟩|exact Y5|refine e_ rfl ?_)
     all_goals try exact Q22
  ·rw[FC o_]at g4;subst g4;exact Z7
 ·rw[D5 h8,s9];repeat' ((conv=>whnf);first|apply Wx|apply W6|apply oi|apply fi|intro h|refine cl hL ?_|exact Y5|refine e_ rfl ?_)
theorem HO {l:List LO}:(ay l).all (nameFirst l)=true↔∀k x,l[k]?=some x->x.J1=0->nameFirst l k=true:=by
 rw[o8];constructor
 ·intro H k x hx h0;refine H k ?_
  have key:∀(n i:Nat),l.length-i<=n->i<=k->k∈funsF (l.drop i) i:=by
   have Ne:k<l.length:=by exact V109
   intro n
   induction n with
   | zero=>intro i h1 h2;omega
   | succ n ih=>
    intro i h1 h2;obtain⟨y,hy⟩:=ae (l:=l) (k:=i) o_;rw[AK hy,d9];by_cases Ou:i=k
    ·subst Ou;rw[hx]at hy;injection hy with hy;subst hy;rw[c7 h0];exact .inl s_
    ·exact .inr (ih (i+1) o_ o_)
  have:=key l.length 0 o_ o_;rwa [B8]at this
 ·intro H k hk;obtain⟨_,x,hx,h0⟩:=nV hk;exact H k x hx h0
def ok1 (l:List LO)(k:Nat)(x:LO):Bool:=cZ x&&(if x.J1=0 then nameFirst l k else true)
def okN (l:List LO):Nat->Nat->Bool
 | 0,_=>true
 | n+1,k=>match l[k]? with
  | some x=>ok1 l k x&&okN l n (k+1)
  | none=>true
theorem zT {l:List LO}{k:Nat}{x:LO}(hx:l[k]?=some x):okN l (l.length-k) k=(ok1 l k x&&okN l (l.length-(k+1)) (k+1)):=by
 have hk:k<l.length:=by exact V109
 rw[show l.length-k=(l.length-(k+1))+1 by omega,okN,hx]
theorem yG {l:List LO}:∀(n k:Nat),l.length-k<=n->(okN l (l.length-k) k=true↔∀j x,k<=j->l[j]?=some x->ok1 l j x=true)
 | n,k,hn=>by
  by_cases hk:k<l.length
  ·obtain⟨x,hx⟩:=ae hk
   cases n with
   | zero=>omega
   | succ n=>
    rw[zT hx,b9,yG n (k+1) o_];constructor
    ·rintro⟨h1,h2⟩ j y hj hy;by_cases N9:j=k
     ·subst N9;rw[hx]at hy;injection hy with hy;subst hy;exact h1
     ·exact h2 j y o_ hy
    ·intro H;exact⟨H k x (d8 _) hx,fun j y hj hy=>H j y o_ hy⟩
  ·rw[show l.length-k=0 by omega];refine⟨fun _ j x hj hx=>?_,fun _=>rfl⟩;rw[e9 o_]at hx
   cases hx
theorem JE (l:List LO):okN l l.length 0=(l.all cZ&&(ay l).all (nameFirst l)):=by
 have h0:=yG (l:=l) l.length 0 o_;rw[y0]at h0;rw[A0,h0,b9,HO,o8];constructor
 ·intro H;refine⟨fun x hx=>?_,fun k x hx h0=>?_⟩
  ·obtain⟨k,hk⟩:=C3 hx;have:=H k x o_ hk;rw[ok1,b9]at this;exact this.1
  ·have:=H k x o_ hx;rw[ok1,b9,c7 h0]at this;exact this.2
 ·rintro⟨H1,H2⟩ j x _ hx;rw[ok1,b9];refine⟨H1 x (c9 hx),?_⟩;split
  ·exact H2 j x hx aaj
  ·rfl
theorem tl {l:List LO}:ah l=(decide (l.length<=60)&&(decide ((ay l).length<=6)&&(headOk l&&(okN l l.length 0&&bK (lL l) l l.length 0)))):=by
 unfold ah;rw[JE,oY]
 cases hh:headOk l with
 | false=>simp
 | true=>
  have h1:1<=(ay l).length:=by
   cases l with
   | nil=>cases hh
   | cons x r=>
    have:x.J1=0:=by unfold headOk at hh;simp only[b9,w8]at hh;exact hh.1
    rw[ay,funsF,c7 this];simp
  have e:(decide (1<=(ay l).length/\(ay l).length<=6))=decide ((ay l).length<=6):=by rw[decide_eq_decide];omega
  rw[e];generalize decide (l.length<=60)=b1;generalize decide ((ay l).length<=6)=b2;generalize l.all cZ=b3;generalize(ay l).all (nameFirst l)=b4;generalize tW l=b5;generalize bK (tF l) l l.length 0=b6
  cases b1<;>cases b2<;>cases b3<;>cases b4<;>cases b5<;>cases b6<;>rfl
theorem V57{p:Prop}(h:p:=by
 repeat' ((conv=>whnf);first|apply Wx|apply W6|apply oi|apply fi|intro h|refine cl hF ?_|refine⟨0,x0.tr,rfl,ab QL,?_⟩|exact Y5|refine e_ rfl ?_)
 all_goals try(exfalso;simp_all[kP];done)):p:=h
theorem V89{p:Prop}(h:p:=by
 unfold nameFirst;rw[hx,lQ];dsimp only
 cases findN l 0 x.J8 with
 | none=>simp[cO]
 | some m=>rw[A0];simp[cO];omega):p:=h
theorem V34{p:Prop}(h:p:=by
 repeat' ((conv=>whnf);first|apply Wx|apply W6|apply oi|apply fi|intro h|refine cl hL ?_|refine cl hN ?_|refine⟨k,x.tr,rfl,ab hx,?_⟩|exact Y5|refine e_ rfl ?_)
 all_goals try exact Q5
 all_goals
  conv=>whnf
  refine⟨⟨k+1,o_,by simp_all⟩,?_,KD⟩
  exact Z5):p:=h
theorem V35{p:Prop}(h:p:=by
 repeat' ((conv=>whnf);first|apply Wx|apply W6|apply oi|apply fi|intro h|refine cl hL ?_|refine cl hN ?_|refine⟨k,x.tr,rfl,ab hx,?_⟩|exact Y5|refine e_ rfl ?_)
 all_goals try exact Q5
 all_goals
  conv=>whnf
  refine⟨⟨k+1,o_⟩,?_,KD⟩
  exact Z5):p:=h
theorem dM (l:List LO)(QC:aw 1048576 (.lst 4 (l.map LO.tr))):Sim.Spec prog 47 [tvP l] (rB (ah l)):=by
 refine bv hΓ aG func47 rfl d_ rfl ?_;have hl:=bE QC;have hs:∀x∈l,aF 1048576 x.tr:=fun x hx=>bf QC hx;have Mv:(l.map LO.tr).length=l.length:=s_;have hF:=cG l hl;have MM:((ay l).map fun n:Nat=>aa n).length=(ay l).length:=s_;rw[tl];by_cases c1:l.length<=60
 ·rw[q9 c1,m9];by_cases M9:0<l.length
  ·obtain⟨x0,QL⟩:=ae M9;have M4:(x0.L5.map ao).length=x0.L5.length:=s_;have PT:=Gb QL;by_cases c2:(ay l).length<=6
   ·rw[q9 c2,m9]
    cases hh:headOk l with
    | false=>
     rw[hh]at PT;rw[s9]
     exact V57
    | true=>
     rw[hh]at PT;rw[m9]
     cases MA:okN l l.length 0 with
     | false=>
      rw[s9];repeat' ((conv=>whnf);first|apply Wx|apply W6|apply oi|apply fi|intro h|refine cl hF ?_|refine⟨0,x0.tr,rfl,ab QL,?_⟩|exact Y5|refine e_ rfl ?_)
      all_goals try(exfalso;simp_all[kP];done)
      conv=>whnf
      refine⟨{k:Nat//k<=l.length/\okN l (l.length-k) k=false},fun q=>⟨[(0,vP l),(3,tI .i64 (q.1:Int))],[],[]⟩,fun q=>l.length-q.1,⟨0,o_,by rw[y0];exact MA⟩,?_,?_⟩
      ·exact Z2
      intro⟨k,hk,hr⟩;dsimp only at hk hr⊢;by_cases My:k<l.length
      ·obtain⟨x,hx⟩:=ae My;rw[zT hx,ok1]at hr;have hL:=oy x (hs x (c9 hx));have hN:=dK l x.J8 hl
       have Wg:(lQ l x.J8==(k:Int))=nameFirst l k:=by exact V89
       generalize lQ l x.J8=ff at *
       generalize cZ x=lo at *
       generalize nameFirst l k=nf at *
       by_cases h0:x.J1=0
       ·rw[c7 h0]at hr;exact V34
       ·rw[b8 h0,Bool.and_true]at hr;exact V34
      ·rw[show l.length-k=0 by omega]at hr
       cases hr
     | true=>
      rw[m9];obtain⟨R,hR⟩:∃R,bK (lL l) l l.length 0=R:=⟨_,rfl⟩;rw[hR];have Qt:=(yG (l:=l) l.length 0 o_);rw[y0]at Qt;have Qt:=Qt.1 MA;repeat' ((conv=>whnf);first|apply Wx|apply W6|apply oi|apply fi|intro h|refine cl hF ?_|refine⟨0,x0.tr,rfl,ab QL,?_⟩|exact Y5|refine e_ rfl ?_)
      all_goals try(exfalso;simp_all[kP];done)
      conv=>whnf
      refine⟨{k:Nat//k<=l.length},fun q=>⟨[(0,vP l),(3,tI .i64 (q.1:Int))],[],[]⟩,fun q=>l.length-q.1,⟨0,o_⟩,?_,?_⟩
      ·exact Z2
      intro⟨k,hk⟩;dsimp only at hk⊢;by_cases My:k<l.length
      ·obtain⟨x,hx⟩:=ae My;have hr:=Qt k x o_ hx;rw[ok1]at hr;have hL:=oy x (hs x (c9 hx));have hN:=dK l x.J8 hl
       have Wg:(lQ l x.J8==(k:Int))=nameFirst l k:=by exact V89
       clear Qt MA
       generalize lQ l x.J8=ff at *
       generalize cZ x=lo at *
       generalize nameFirst l k=nf at *
       by_cases h0:x.J1=0
       ·rw[c7 h0]at hr;exact V35
       ·rw[b8 h0,Bool.and_true]at hr;exact V35
      ·repeat' ((conv=>whnf);first|apply Wx|apply W6|apply oi|apply fi|intro h|exact Y5|refine e_ rfl ?_)
       conv=>whnf
       refine⟨{k:Nat//k<=l.length/\bK (lL l) l (l.length-k) k=R},fun q=>⟨[(0,vP l),(4,tI .i64 (q.1:Int))],[],[]⟩,fun q=>l.length-q.1,⟨0,o_,by rw[y0];exact hR⟩,?_,?_⟩
       ·exact Z2
       intro⟨k,hk,hr⟩;dsimp only at hk hr⊢;by_cases My:k<l.length
       ·obtain⟨x,hx⟩:=ae My;rw[mC hx (d8 _)]at hr;have hE:=cU l (k:Int) hl
        cases he:endAt l k with
        | none=>
         rw[cw,rt he]at hE;rw[he]at hr;subst hr;repeat' ((conv=>whnf);first|apply Wx|apply W6|apply oi|apply fi|intro h|refine cl hE ?_|refine⟨k,x.tr,rfl,ab hx,?_⟩|exact Y5|refine e_ rfl ?_)
         all_goals try exact Q5
        | some e=>
         obtain⟨_,_,_,_,ND,M6⟩:=aN he;rw[cw,bR he]at hE;rw[he]at hr;dsimp only at hr;have hK:=wE l k e c1 hs he
         generalize lL l k e=fb at *
         by_cases hc:x.J1=0/\fb=true
         ·rw[c7 hc]at hr;obtain⟨d1,d2⟩:=hc;subst d2;repeat' ((conv=>whnf);first|apply Wx|apply W6|apply oi|apply fi|intro h|refine cl hE ?_|refine cl hK ?_|refine⟨k,x.tr,rfl,ab hx,?_⟩|exact Y5|refine e_ rfl ?_)
          all_goals try exact Q5
          conv=>whnf
          refine⟨⟨e+1,o_,hr⟩,?_,KD⟩;exact Z5
         ·rw[b8 hc]at hr;subst hr;repeat' ((conv=>whnf);first|apply Wx|apply W6|apply oi|apply fi|intro h|refine cl hE ?_|refine cl hK ?_|refine⟨k,x.tr,rfl,ab hx,?_⟩|exact Y5|refine e_ rfl ?_)
          all_goals try exact Q5
       ·rw[show l.length-k=0 by omega,bK,q9 o_]at hr;subst hr;exact Z7
   ·rw[D5 c2,s9];exact V57
  ·have Wi:l=[]:=A3.1 o_;subst Wi;rw[show headOk ([]:List LO)=false from rfl,s9,C9];repeat' ((conv=>whnf);first|apply Wx|apply W6|apply oi|apply fi|intro h|refine cl hF ?_|exact Y5|refine e_ rfl ?_)
 ·rw[D5 c1,s9];repeat' ((conv=>whnf);first|apply Wx|apply W6|apply oi|apply fi|intro h|refine cl hF ?_|exact Y5|refine e_ rfl ?_)
  all_goals try exact Q5
theorem nQ {l:List LY}{p:Nat}{e:Ex}(h:kp l p e):p+e.toks.length<=l.length:=by obtain⟨r,h⟩:=h;have h1:=congrArg List.length h;rw[t9,c8]at h1;have:=e.toks_pos;omega
theorem Q1{p:Prop}(h:p:=by exact⟨⟨by simp<;>omega,by simp<;>omega⟩⟩):p:=h
theorem Q4{p:Prop}(h:p:=by exfalso;simp at h;first|done|fail):p:=h
theorem tx (l:List LY)(p:Nat)(t:LY)(es:List Ex)(hl:l.length<=1048576)(hn:jj l)(ho:(Ex.node t es).ok)(hs:kp l p (.node t es)):Sim.Spec prog 258 [tvL 3 (l.map LY.tr),tvI p] (rL 1 ((pN (p+1) es).map nR)):=by
 refine bv hΓ aG func258 rfl d_ rfl ?_;have Mv:(l.map LY.tr).length=l.length:=s_;have MY:=nQ hs;obtain⟨ht,Uh⟩:=oz hs;have hX:=jz l p hl hn;rw[pk hs ho]at hX;have ZC:=hn t (c9 ht);have hA:=lB t ZC;obtain⟨e1,e2⟩:=xZ ho.1;have M6:es.length=ar t:=ho.2.1;rw[e1,<-M6]at hA;obtain⟨R,hR⟩:∃R,pN (p+1) es=R:=⟨_,rfl⟩;rw[hR]
 have Pc:p<l.length:=by have:=(Ex.node t es).toks_pos;omega
 generalize p+(Ex.node t es).toks.length=pe at *
 repeat' ((conv=>whnf);first|apply Wx|apply W6|apply oi|apply fi|intro h|refine cl hX ?_|refine⟨p,t.tr,rfl,ab ht,?_⟩|refine cl hA ?_|exact Y5|refine e_ rfl ?_)
 conv=>whnf
 refine⟨{q:Nat×List Nat×List Ex//q.2.1++pN q.1 q.2.2=R/\kJ l q.1 q.2.2/\iT q.2.2/\q.2.1.length+q.2.2.length<=4/\q.1<=1048577},fun q=>⟨[(0,.r (.c (.t (.lst 3 (l.map LY.tr))))),(5,.r (.c (.own (5,0,0)))),(6,tI .i64 (q.1.1:Int)),(7,tI .i64 (q.1.2.2.length:Int))],[((5,0,0),some (.arr true 1 (q.1.2.1.map nR)))],[5]⟩,fun q=>q.1.2.2.length,⟨(p+1,[],es),hR,Uh,ho.2.2,by simp;omega,g_⟩,?_,?_⟩
 ·exact Z5
 intro⟨⟨q,acc,fs⟩,h1,h2,h3,h4,h5⟩;dsimp only at h1 h2 h3 h4 h5⊢
 cases fs with
 | nil=>
  rw[pN,m6]at h1;subst h1;repeat' ((conv=>whnf);first|apply Wx|apply W6|apply oi|apply fi|intro h|exact Y5|refine e_ rfl ?_)
  all_goals try exact Q4
 | cons a fs=>
  obtain⟨g1,g2⟩:=fA h2;have XI:=jz l q hl hn;rw[pk g1 h3.1]at XI;have TA:=nQ g1;have MM:(a::fs).length=fs.length+1:=rfl;repeat' ((conv=>whnf);first|apply Wx|apply W6|apply oi|apply fi|intro h|refine cl XI ?_|exact Y5|refine e_ rfl ?_)
  all_goals try exact Q4
  all_goals try exact Q1
  conv=>whnf
  refine⟨⟨(q+a.toks.length,acc++[q],fs),by dsimp only;rw[<-h1,pN];simp,g2,h3.2,by simp only[c8,d5,i8]at *;omega,g_⟩,?_,by dsimp only;simp⟩;repeat' ((conv=>whnf);first|apply Wx|apply W6|apply oi|apply fi|intro h|exact Y7|refine e_ rfl ?_)
  all_goals try exact⟨by dsimp only;rw[MM,c6 _ o_];congr 1;omega⟩
  all_goals exact⟨by simp[aa]⟩
def w32 (n:Int):Int:=IntKind.i32.wrap n
theorem xE (n:Int):IntKind.i32.wrap n=if n%4294967296≥2147483648 then n%4294967296-4294967296 else n%4294967296:=by simp[IntKind.wrap,IntKind.bits,IntKind.signed]
theorem ru (n:Int):-2147483648<=w32 n/\w32 n<=2147483647:=by unfold w32;rw[xE];split<;>omega
theorem GX (n:Int):((BitVec.ofInt IntKind.i64.bits n &&& BitVec.ofInt IntKind.i64.bits 4294967295).toNat:Int)=n%4294967296:=by show((BitVec.ofInt 64 n &&& BitVec.ofInt 64 4294967295).toNat:Int)=_;have e:(BitVec.ofInt 64 4294967295).toNat=2^32-1:=d_;rw[I3,e,D0,B9];have:((2^64:Nat):Int)=18446744073709551616:=d_;omega
theorem AQ (n:Int):Sim.Spec prog 246 [tvI n] (rI (w32 n)):=by
 refine ak hΓ aG func246 rfl d_ rfl ?_
 have P4:IntKind.i64.wrap ((BitVec.ofInt IntKind.i64.bits n &&& BitVec.ofInt IntKind.i64.bits 4294967295).toNat:Int)=n%4294967296:=by rw[GX,c6 _ o_]
 unfold w32;rw[xE];repeat' ((conv=>whnf);first|refine Or.inl ?_|apply oi|apply fi|intro h|exact Y1|refine e_ rfl ?_)
 all_goals(refine⟨congrArg (Tr.int _) ?_⟩;rw[P4]at h⊢)
 ·have h':=f0 h;rw[c7 o_,c6 _ o_]
 ·have h':=f9 h;rw[b8 o_]
theorem Fo {x y:Int}(hx:-2147483648<=x/\x<=2147483647)(hy:-2147483648<=y/\y<=2147483647):-4611686018427387904<=x*y/\x*y<=4611686018427387904:=by
 have h:(x*y).natAbs<=2147483648*2147483648:=by rw[Int.natAbs_mul];exact A4 o_ o_
 omega
def dY (k a b:Int):Int:=
 if k=2 then w32 (w32 a+w32 b)else if k=3 then w32 (w32 a-w32 b)else if k=4 then w32 (w32 a*w32 b)
 else if(k=5/\w32 a<w32 b)\/(k=6/\w32 a=w32 b)then 1 else 0
theorem pM (k a b:Int):Sim.Spec prog 206 [tvI k,tvI a,tvI b] (rI (dY k a b)):=by
 refine ak hΓ aG func206 rfl d_ rfl ?_;have ha:=ru a;have hb:=ru b;have hm:=Fo ha hb;have e1:IntKind.i64.wrap (w32 a+w32 b)=w32 a+w32 b:=c6 _ o_;have e2:IntKind.i64.wrap (w32 a-w32 b)=w32 a-w32 b:=c6 _ o_;have e3:IntKind.i64.wrap (w32 a*w32 b)=w32 a*w32 b:=c6 _ o_;unfold dY;repeat' ((conv=>whnf);first|refine Or.inl ?_|apply oi|apply fi|intro h|refine ci (AQ _) (ai rfl trivial) ?_|exact Y1|refine e_ rfl ?_)
 all_goals(refine⟨congrArg (Tr.int _) ?_⟩;simp_all;try omega)
def Dg (n:Int):Ex:= .node ⟨0,n,[]⟩ []
def GL (t a b:LY):Prop:=af t.J1 2 6=true/\a.J1=0/\b.J1=0/\af (dY t.J1 a.Mb b.Mb) 0 999=true
instance (t a b:LY):Decidable (GL t a b):=by unfold GL;infer_instance
def xe (t:LY):List Ex->Ex
 | [.node a [],.node b []]=>if GL t a b then Dg (dY t.J1 a.Mb b.Mb)else .node t [.node a [],.node b []]
 | fs=> .node t fs
mutual
def Ex.fold:Ex->Ex
 | .node t es=>xe t (bU es)
def bU:List Ex->List Ex
 | []=>[]
 | a::es=>a.fold::bU es
end
theorem aT (l:List LY):flat (l.map LY.tr):=mT _ (by intro x c hc sz rs e;subst e;simp[LY.tr]at hc)
theorem pq:∀es:List Ex,(bU es).length=es.length
 | []=>rfl
 | a::es=>by rw[bU,d5,pq,d5]
theorem sH:∀(es:List Ex) (j:Nat),(bU es).take j=bU (es.take j)
 | [],j=>by simp[bU]
 | a::es,0=>by rw[H5,H5,bU]
 | a::es,j+1=>by rw[bU,q8,q8,bU,sH es j]
theorem vU:∀{es:List Ex} {j:Nat} {a:Ex},es[j]?=some a->bU (es.take (j+1))=bU (es.take j)++[a.fold]
 | [],_,_,h=>by simp at h
 | b::es,0,a,h=>by
  rw[e8]at h;injection h with h;subst h
  rfl
 | b::es,j+1,a,h=>by
  rw[j8]at h;rw[q8,bU,q8,bU,vU h,u3]
theorem vT (a:Ex):au [a]=a.toks:=by rw[au,au,m6]
theorem EA {f:Ex}(h:f.toks.length=1):∃a,f= .node a []:=by
 cases f with
 | node a es=>
  rw[Ex.toks,d5]at h
  cases es with
  | nil=>exact⟨a,rfl⟩
  | cons b es=>rw[au,c8]at h;have:=b.toks_pos;omega
theorem ux {t:LY}{fs:List Ex}(h:(au fs).length≠2\/af t.J1 2 6=false):xe t fs= .node t fs:=by
 unfold xe;split
 ·rename_i a b;rw[b8];intro hc;rcases h with h|h
  ·exact h (by simp[au,Ex.toks])
  ·rw[hc.1]at h;cases h
 ·rfl
theorem Hf (t a b:LY):xe t [.node a [],.node b []]=if GL t a b then Dg (dY t.J1 a.Mb b.Mb)else .node t [.node a [],.node b []]:=rfl
theorem Jy (t:LY)(fs:List Ex):(xe t fs).toks.length<=1+(au fs).length:=by
 unfold xe;split
 ·split
  ·simp[Dg,Ex.toks,au]
  ·simp[Ex.toks,au]
 ·rw[Ex.toks,d5];omega
mutual
theorem Ex.fold_le:∀e:Ex,e.fold.toks.length<=e.toks.length
 | .node t es=>by
  rw[Ex.fold,Ex.toks,d5];have h1:=Jy t (bU es);have h2:=rY es;omega
theorem rY:∀es:List Ex,(au (bU es)).length<=(au es).length
 | []=>d8 _
 | a::es=>by
  rw[bU,au,au,c8,c8];have h1:=Ex.fold_le a;have h2:=rY es;omega
end
theorem gx:∀(es:List Ex) (j:Nat),(au (es.take j)).length<=(au es).length
 | [],j=>by rw[List.take_nil];omega
 | a::es,0=>by rw[H5,au];simp
 | a::es,j+1=>by
  have:=gx es j;rw[q8,au,au,c8,c8];omega
theorem oO:∀{es:List Ex} {j:Nat} {a:Ex},es[j]?=some a->a.toks.length<=(au es).length
 | [],_,_,h=>by simp at h
 | b::es,0,a,h=>by
  rw[e8]at h;injection h with h;subst h
  rw[au,c8];omega
 | b::es,j+1,a,h=>by
  rw[j8]at h;have:=oO h;rw[au,c8];omega
theorem qU:∀{es:List Ex} {j:Nat} {a:Ex},iT es->es[j]?=some a->a.ok
 | [],_,_,_,h=>by simp at h
 | b::es,0,a,ho,h=>by
  rw[e8]at h;injection h with h;subst h
  exact ho.1
 | b::es,j+1,a,ho,h=>by
  rw[j8]at h;exact qU ho.2 h
theorem Kq {t:LY}(ho:fw t=true)(hk:af t.J1 2 6=true):ar t=2:=by have:=within_iff.1 hk;unfold ar mG;rw[b8 aag,b8 o_,b8 o_];rfl
theorem Kl {α:Type}{l:List α}(h:l.length=2):∃a b,l=[a,b]:=by
 match l,h with
 | [a,b],_=>exact⟨a,b,rfl⟩
theorem V24{p:Prop}(h:p:=by
 generalize dY t.J1 a.Mb b.Mb=ap at *
 repeat' ((conv=>whnf);first|apply Wx|apply W6|apply oi|apply fi|intro h|refine⟨p,t.tr,rfl,ab ht,?_⟩|refine cl hB ?_|refine⟨1,rfl,X5,?_⟩|refine⟨2,rfl,XC,?_⟩|refine⟨a.tr,rfl,?_⟩|refine⟨b.tr,rfl,?_⟩|refine cl Yb ?_|refine cl UG ?_|exact Y5|refine e_ rfl ?_)
 all_goals try exact⟨⟨rfl,aT _⟩⟩
 all_goals try(exfalso;simp_all;done)):p:=h
theorem mP:∀(n:Nat) (e:Ex),e.toks.length<=n->∀(l:List LY) (p:Nat),l.length<=1048576->jj l->e.ok->kp l p e->Sim.Spec prog 240 [tvL 3 (l.map LY.tr),tvI p] (rL 3 (e.fold.toks.map LY.tr))
 | 0,e,hn,_,_,_,_,_,_=>by have:=e.toks_pos;omega
 | n+1,.node t es,hn,l,p,hl,PB,ho,hs=>by
  refine bv hΓ aG func240 rfl d_ rfl ?_;have Mv:(l.map LY.tr).length=l.length:=s_;have MY:=nQ hs;obtain⟨ht,Uh⟩:=oz hs;have hO:=tx l p t es hl PB ho hs;have Pc:((pN (p+1) es).map nR).length=es.length:=by rw[e7,Ay]
  rw[Ex.toks,d5]at hn MY;rw[Ex.fold];have Yo:=rY es;obtain⟨e1,e2⟩:=xZ ho.1;have M6:es.length=ar t:=ho.2.1;repeat' ((conv=>whnf);first|apply Wx|apply W6|apply oi|apply fi|intro h|refine cl hO ?_|refine⟨p,t.tr,rfl,ab ht,?_⟩|exact Y7|refine e_ rfl ?_)
  conv=>whnf
  refine⟨{j:Nat//j<=es.length},fun q=>⟨[(0,.r (.c (.t (.lst 3 (l.map LY.tr))))),(1,tI .i64 (p:Int)),(5,.r (.c (.own (5,0,0)))),(6,.r (.c (.own (6,0,0)))),(7,tI .i64 (q.1:Int))],[((5,0,0),some (.arr false 3 ((t::au (bU (es.take q.1))).map LY.tr))),((6,0,0),some (.arr true 1 ((pN (p+1) es).map nR)))],[5,6]⟩,fun q=>es.length-q.1,⟨0,o_⟩,?_,?_⟩
  ·repeat' ((conv=>whnf);first|apply Wx|apply W6|apply oi|apply fi|intro h|exact Y7|refine e_ rfl ?_)
   all_goals try exact⟨by simp[bU,au];rfl⟩
  intro⟨j,hj⟩;dsimp only at hj⊢;by_cases My:j<es.length
  ·obtain⟨a,ha⟩:=ae My;obtain⟨q,hq,Zb⟩:=EG Uh ha;have M4:=oO ha;have hR:=mP n a o_ l q hl PB (qU ho.2.2 ha) Zb;have NM:j<((pN (p+1) es).map nR).length:=(by rw[Pc];exact My);have TK:=a.fold_le;have TC:=gx (bU es) j;rw[sH]at TC;have UE:((t::au (bU (es.take j))).map LY.tr).length=1+(au (bU (es.take j))).length:=(by simp;omega);have Qu:(a.fold.toks.map LY.tr).length=a.fold.toks.length:=s_;repeat' ((conv=>whnf);first|apply Wx|apply W6|apply oi|apply fi|intro h|refine cl hR ?_|refine⟨j,rfl,NM,?_⟩|refine⟨(nR q),(ab hq),?_⟩|exact Y5|refine e_ rfl ?_)
   all_goals try exact⟨⟨by rw[UE,Qu];(try dsimp only);omega,by rw[UE,Qu];(try dsimp only);omega⟩⟩
   conv=>whnf
   refine⟨⟨j+1,o_⟩,?_,KD⟩;repeat' ((conv=>whnf);first|apply Wx|apply W6|apply oi|apply fi|intro h|exact Y6|refine e_ rfl ?_)
   all_goals exact⟨by rw[vU ha,iq,vT];simp⟩
  ·have S3:j=es.length:=o_;subst S3;rw[G1];have hB:=aP t.J1 2 6;have hFl:=pq es;have Wp:((t::au (bU es)).map LY.tr).length=1+(au (bU es)).length:=by simp;omega
   generalize bU es=F at *
   cases hk:af t.J1 2 6 with
   | false=>
    rw[hk]at hB;rw[ux (.inr hk),Ex.toks];repeat' ((conv=>whnf);first|apply Wx|apply W6|apply oi|apply fi|intro h|refine⟨p,t.tr,rfl,ab ht,?_⟩|refine cl hB ?_|exact Y5|refine e_ rfl ?_)
    all_goals exact⟨⟨rfl,aT _⟩⟩
   | true=>
    rw[hk]at hB;by_cases h2:(au F).length=2
    ·obtain⟨f1,f2,rfl⟩:=Kl (hFl.trans (M6.trans (Kq ho.1 hk)));rw[au,vT,c8]at h2;have p1:=f1.toks_pos;have p2:=f2.toks_pos;obtain⟨a,rfl⟩:=EA (f:=f1) o_;obtain⟨b,rfl⟩:=EA (f:=f2) o_;have e3:t::au [Ex.node a [],Ex.node b []]=[t,a,b]:=(by simp[au,Ex.toks]);have e4:(Ex.node t [Ex.node a [],Ex.node b []]).toks=[t,a,b]:=(by rw[Ex.toks];exact e3);rw[e3];have X5:1<([t,a,b].map LY.tr).length:=s_;have XC:2<([t,a,b].map LY.tr).length:=s_;have Yb:=pM t.J1 a.Mb b.Mb;have UG:=aP (dY t.J1 a.Mb b.Mb) 0 999;rw[Hf];by_cases hc:GL t a b
     ·rw[c7 hc];obtain⟨_,c1,c2,c3⟩:=hc;rw[c3]at UG;have e5:(Dg (dY t.J1 a.Mb b.Mb)).toks=[⟨0,dY t.J1 a.Mb b.Mb,[]⟩]:=(by simp[Dg,Ex.toks,au]);rw[e5]
      generalize dY t.J1 a.Mb b.Mb=ap at *
      repeat' ((conv=>whnf);first|apply Wx|apply W6|apply oi|apply fi|intro h|refine⟨p,t.tr,rfl,ab ht,?_⟩|refine cl hB ?_|refine⟨1,rfl,X5,?_⟩|refine⟨2,rfl,XC,?_⟩|refine⟨a.tr,rfl,?_⟩|refine⟨b.tr,rfl,?_⟩|refine cl Yb ?_|refine cl UG ?_|exact Y5|refine e_ rfl ?_)
      all_goals try exact Q5
     ·rw[b8 hc,e4];have Oo:∀w,af (dY t.J1 a.Mb b.Mb) 0 999=w->a.J1=0->b.J1=0->w=true->False:=fun w h1 h2 h3 h4=>hc ⟨hk,h2,h3,h1.trans h4⟩
      cases hw:af (dY t.J1 a.Mb b.Mb) 0 999 with
      | true=>
       rw[hw]at UG;have YS:=Oo true hw
       exact V24
      | false=>rw[hw]at UG;exact V24
    ·rw[ux (.inl h2),Ex.toks];repeat' ((conv=>whnf);first|apply Wx|apply W6|apply oi|apply fi|intro h|refine⟨p,t.tr,rfl,ab ht,?_⟩|refine cl hB ?_|exact Y5|refine e_ rfl ?_)
     all_goals try exact⟨⟨rfl,aT _⟩⟩
     all_goals try(exfalso;rw[Wp]at *;simp at *;omega)
end Go.Proofs.P
namespace Go.Proofs.P
open Go.Sim Tryz
structure Grow (n:Nat) (s s':Gs):Prop where
 ge:s.I7.length<=s'.I7.length
 le:s'.I7.length<=s.I7.length+n
 J3:s.J3<=s'.J3
 cap:s.J3<=1000->s'.J3<=1000
theorem Grow.refl (s:Gs):Grow 0 s s:=⟨d8 _,d8 _,v2 _,id⟩
theorem Grow.trans {n m:Nat}{a b c:Gs}(h:Grow n a b)(h':Grow m b c):Grow (n+m) a c:=⟨v5 h.ge h'.ge,by have:=h.le;have:=h'.le;omega,D4 h.J3 h'.J3,fun x=>h'.cap (h.cap x)⟩
theorem Grow.mono {n m:Nat}{a b:Gs}(h:Grow n a b)(hn:n<=m):Grow m a b:=⟨h.ge,by have:=h.le;omega,h.J3,h.cap⟩
theorem bk (C:Cx)(s:Gs)(d code arg line:Int)(chain:List Int):Grow 1 s (aC C s d code arg line chain):=⟨by simp[aC],by simp[aC],v2 _,id⟩
theorem bO (l:List LN)(j v:Int):(bV l j v).length=l.length:=by
 unfold bV;split
 ·split
  ·rw[q7]
  ·rfl
 ·rfl
theorem gQ (v:Int):∀(js:List Int) (l:List LN),(patchL l v js).length=l.length
 | [],_=>rfl
 | j::js,l=>by rw[patchL,gQ v js,bO]
def dh:Nat->Nat
 | 0=>1
 | n+1=>30+9*(20*dh n+3)
theorem BE:∀n,1<=dh n
 | 0=>d8 _
 | n+1=>by rw[dh];omega
theorem Jp:∀{n m:Nat},n<=m->dh n<=dh m:=by
 intro n m h
 induction h with
 | refl=>exact d8 _
 | step _ ih=>rw[dh];omega
theorem Cl {n:Nat}(h:n<=3):dh n<=8679837:=v5 (Jp h) (by simp[dh])
def bS (C:Cx)(g:Nat):Prop:=∃ln,C.p[g]?=some ln/\ln.J1=0
section
variable {C:Cx} {x:Sc} {ins:List Nat} {rep:Sc->List Nat->Nat->Nat->Int->Gs->Gs} {line:Nat} {lev:Nat}
theorem pI (y:Sc)(chain:List Int)(line:Int):∀(n:Nat) (d:Int) (s:Gs),Grow n s (cD C y chain line n d s)
 | 0,d,s=>Grow.refl s
 | n+1,d,s=>by
  rw[cD];exact((bk C s d _ _ _ _).trans (pI y chain line n (d-1) _)).mono o_
theorem tc (y:Sc)(chain:List Int)(line d:Int):∀(n i:Nat) (s:Gs),Grow (2*n) s (dD C y chain line d n i s)
 | 0,i,s=>Grow.refl s
 | n+1,i,s=>by
  rw[dD];exact(((bk C s d _ _ _ _).trans (bk C _ (d+1) _ _ _ _)).trans (tc y chain line d n (i+1) _)).mono o_
theorem Gk (Mz:∀g d s,bS C g->cL C ins g s.I7.length=true->Grow (dh lev) s (rep x ins line g d s))(t:LY)(d:Int)(s:Gs):Grow (dh lev) s (ma C rep x ins line t d s):=by
 have hp:=BE lev;unfold ma;split
 ·exact(bk ..).mono hp
 ·split
  ·exact(bk ..).mono hp
  ·split
   ·split
    ·rename_i g hg;split
     ·rename_i hr;obtain⟨_,ln,h1,h2,_⟩:=gY hg;exact Mz g d s ⟨ln,h1,h2⟩ hr
     ·exact(bk ..).mono hp
    ·exact(Grow.refl s).mono o_
   ·exact(bk ..).mono hp
mutual
theorem xP (Mz:∀g d s,bS C g->cL C ins g s.I7.length=true->Grow (dh lev) s (rep x ins line g d s)):∀(e:Ex) (d:Int) (s:Gs),Grow (e.toks.length*dh lev) s (eA C rep x ins line e d s)
 | .node t es,d,s=>by
  rw[eA,Ex.toks,d5];exact((pi Mz es d s).trans (Gk Mz t _ _)).mono (by rw[p8];omega)
theorem pi (Mz:∀g d s,bS C g->cL C ins g s.I7.length=true->Grow (dh lev) s (rep x ins line g d s)):∀(es:List Ex) (d:Int) (s:Gs),Grow ((au es).length*dh lev) s (cW C rep x ins line es d s)
 | [],d,s=>by rw[cW,au];exact(Grow.refl s).mono o_
 | a::es,d,s=>by
  rw[cW,au,c8,p8];exact(xP Mz a d s).trans (pi Mz es (d+1) _)
end
theorem wu (C:Cx)(rep:Sc->List Nat->Nat->Nat->Int->Gs->Gs)(x:Sc)(ins:List Nat)(line:Nat):∀{es:List Ex} {j:Nat} {a:Ex} (d:Int) (s:Gs),es[j]?=some a->cW C rep x ins line (es.take (j+1)) d s=eA C rep x ins line a (d+j) (cW C rep x ins line (es.take j) d s)
 | [],_,_,_,_,h=>by simp at h
 | b::es,0,a,d,s,h=>by
  rw[e8]at h;injection h with h;subst h
  simp[cW]
 | b::es,j+1,a,d,s,h=>by
  rw[j8]at h;rw[q8,cW,wu C rep x ins line (d+1) _ h,q8,cW];congr 1;omega
theorem lV:∀{es:List Ex} {j:Nat} {a:Ex},es[j]?=some a->(au (es.take (j+1))).length=(au (es.take j)).length+a.toks.length
 | [],_,_,h=>by simp at h
 | b::es,0,a,h=>by
  rw[e8]at h;injection h with h;subst h
  simp[au]
 | b::es,j+1,a,h=>by
  rw[j8]at h;rw[q8,au,c8,lV h,q8,au,c8];omega
theorem jT (hC:CxOk C)(hx:ScOk C x ins)(line:Nat){g:Nat}(hg:bS C g):ScOk C (cf C x line g) (ins++[g]):=by
 obtain⟨e,_,_,_,_,h8⟩:=hx.endE hC;have MY:=hx.argLe hC;refine⟨hg,rfl,?_,?_,?_,?_,by simp[cf]⟩
 ·simp only[cf,ck,c8,d5,i8];have:=hx.first;split
  ·rename_i ho;rw[hx.args ho];omega
  ·omega
 ·simp only[cf,c8,d5,i8];have:=hx.J0;omega
 ·simp[cf]
 ·simp[cf]
theorem uI (hC:CxOk C)(hx:ScOk C x ins):0<=ck C x/\ck C x<=8*ins.length+8:=by
 obtain⟨e,_,_,_,_,h8⟩:=hx.endE hC;have MY:=hx.argLe hC;have:=hx.first;unfold ck;split
 ·rename_i ho;rw[hx.args ho];omega
 ·omega
theorem dx (hC:CxOk C){g:Nat}(hg:bS C g):(localsOf C.p (g:Int)).length<=8/\argsN C.p g<=(localsOf C.p (g:Int)).length:=by obtain⟨ln,h1,h2⟩:=hg;obtain⟨e,h3,h4,h5,_⟩:=hC.fn _ _ h1 h2;rw[argsN,h1];exact⟨h4,h5⟩
theorem xh (hC:CxOk C)(hx:ScOk C x ins)(hi:ins.length<=10)(line:Nat){g:Nat}(hg:bS C g)(d:Int)(s:Gs):Grow 16 s (fU C x line g d s):=by obtain⟨h1,h2⟩:=dx hC hg;have ht:=uI hC hx;have h0:Grow 0 s ⟨s.I7,max s.J3 (ck C x+(localsOf C.p (g:Int)).length),s.start⟩:=⟨d8 _,d8 _,g_,fun h=>g_⟩;unfold fU;exact((h0.trans (pI _ _ _ _ _ _)).trans (tc _ _ _ _ _ _ _)).mono o_
theorem sN (x:Sc)(line:Nat)(d:Int)(s:Gs):Grow 1 s (dc C x line d s):=by
 unfold dc;split
 ·exact bk ..
 ·exact(Grow.refl s).mono o_
theorem na (x:Sc)(k:Nat)(last:Bool)(d:Int)(L:Ls):Grow 1 L.g (be C x k last d L).g:=by
 unfold be;split
 ·split
  ·exact bk ..
  ·exact bk ..
 ·split
  ·exact(Grow.refl _).mono o_
  ·exact bk ..
theorem Grow.set {n:Nat}{a b:Gs}{l:List LN}(h:Grow n a b)(hl:l.length=b.I7.length):Grow n a ⟨l,b.J3,b.start⟩:=⟨by have:=h.ge;simp only[hl];omega,by have:=h.le;simp only[hl];omega,h.J3,h.cap⟩
theorem oW (Mz:∀g d s,bS C g->cL C ins g s.I7.length=true->Grow (dh lev) s (rep x ins line g d s))(hC:CxOk C){k:Nat}{ln:LO}(hk:C.p[k]?=some ln)(he:br ln.K9=true)(d:Int)(s:Gs):Grow (20*dh lev) s (eA C rep x ins line (exL ln.K9) d s):=by have h1:=(qX he).2;have h2:=(hC.line _ _ hk).2.2.2.1;rw[h1]at h2;exact(xP Mz _ d s).mono (l9 _ h2)
theorem oD (Mz:∀line g d s,bS C g->cL C ins g s.I7.length=true->Grow (dh lev) s (rep x ins line g d s))(hC:CxOk C){k:Nat}{ln:LO}(hk:C.p[k]?=some ln)(h0:ln.J1≠0)(base:Int)(L:Ls):Grow (20*dh lev+2) L.g (bI C rep x ins base k ln L).g:=by
 unfold bI;split
 ·exact((bk ..).set (bO _ _ _)).mono o_
 ·split
  ·split
   ·refine Grow.mono (n:=1+1) ?_ o_;exact(bk ..).trans (na x k true (base+1) {L with g:=aC C L.g base 0 0 k x.J0})
   ·split
    ·exact(bk ..).mono o_
    ·exact(Grow.refl _).mono o_
  ·rename_i h4 h7;have hl:=hC.line _ _ hk
   have NY:Grow (20*dh lev) L.g (eA C rep x ins k (exL ln.K9) base ⟨L.g.I7,L.g.J3,true⟩):=by have:=oW (fun g d s=>Mz k g d s) hC hk (hl.2.2.2.2 o_) base ⟨L.g.I7,L.g.J3,true⟩;exact⟨this.ge,this.le,this.J3,this.cap⟩
   split
   ·exact(NY.trans (bk ..)).mono o_
   ·split
    ·exact(NY.trans (bk ..)).mono o_
    ·split
     ·refine Grow.mono (n:=20*dh lev+1) ?_ o_;exact NY.trans (na x k false (base+1) {L with g:=eA C rep x ins k (exL ln.K9) base ⟨L.g.I7,L.g.J3,true⟩,J4:=L.J4.set k L.g.I7.length})
     ·exact(NY.trans (bk ..)).mono o_
theorem uz (k:Nat)(ln:LO)(L:Ls):Grow 0 L.g (bB C x k ln L).g:=by
 unfold bB;split
 ·exact(Grow.refl _).set (bO _ _ _)
 ·exact Grow.refl _
theorem yp (Mz:∀line g d s,bS C g->cL C ins g s.I7.length=true->Grow (dh lev) s (rep x ins line g d s))(hC:CxOk C)(base:Int):∀(n k:Nat) (L:Ls),(∀i y,k<=i->i<k+n->C.p[i]?=some y->y.J1≠0)->Grow (n*(20*dh lev+3)) L.g (dI C rep x ins base n k L).g
 | 0,k,L,_=>(Grow.refl _).mono o_
 | n+1,k,L,h=>by
  rw[dI];split
  ·rename_i ln hk;exact(((oD Mz hC hk (h k ln (d8 _) o_ hk) base L).trans (uz k ln _)).trans (yp Mz hC base n (k+1) _ fun i y h1 h2 hy=>h i y o_ o_ hy)).mono (by rw[p8];omega)
  ·exact(Grow.refl _).mono o_
theorem V84{p:Prop}(h:p:=by
 by_cases Od:i=e
 ·subst Od;obtain⟨z,hz,h7⟩:=bL h3;rw[hy]at hz;injection hz with hz;subst hz;omega
 ·exact(h4 i y o_ o_ hy).1):p:=h
theorem np (Mz:∀line g d s,bS C g->cL C ins g s.I7.length=true->Grow (dh lev) s (rep x ins line g d s))(hC:CxOk C)(hx:ScOk C x ins)(base:Int)(s:Gs):Grow ((kQ C.p x.f-x.f)*(20*dh lev+3)) s (bq C rep x ins base s).1:=by unfold bq;obtain⟨ln,h1,h2⟩:=hx.fn;obtain⟨e,h3,_,_,h4⟩:=hC.fn _ _ h1 h2;obtain⟨e',g3,_,_,g5,_⟩:=hx.endE hC;rw[h3]at g3;injection g3 with g3;subst g3;rw[g5];refine yp Mz hC base (e-x.f) (x.f+1) (cu C s) fun i y k1 k2 hy=>?_;exact V84
end
theorem fN {C:Cx}{ins:List Nat}{g n:Nat}(h:cL C ins g n=true):(ins.length:Int)<=C.b.Mc/\ct C.p (g:Int)-g<=9/\n<200/\g∉ins:=by unfold cL at h;simp only[b9,j5,u9,List.contains_eq_mem,p9]at h;exact⟨h.1,h.2.1,h.2.2.1,h.2.2.2⟩
theorem ia {C:Cx}(hC:CxOk C):∀(lev:Nat) {x:Sc} {ins:List Nat} (line g:Nat) (d:Int) (s:Gs),ScOk C x ins->bS C g->cL C ins g s.I7.length=true->Grow (dh lev) s (cK C lev x ins line g d s)
 | 0,x,ins,line,g,d,s,hx,hg,hr=>(Grow.refl s).mono o_
 | lev+1,x,ins,line,g,d,s,hx,hg,hr=>by
  obtain⟨r1,r2,_,_⟩:=fN hr;have hin:=hC.inl;have hy:=jT hC hx line hg;have h1:=xh hC hx o_ line hg d s;have h2:=sN (C:=C) x line (d-argsN C.p g) (fU C x line g d s);have h3:=np (lev:=lev) (rep:=cK C lev) (fun line g d s hg hr=>ia hC lev line g d s hy hg hr) hC hy (d-argsN C.p g) (dc C x line (d-argsN C.p g) (fU C x line g d s));obtain⟨e,e1,e2,e3,e4,_⟩:=hy.endE hC;have e5:ct C.p (g:Int)=(e:Int):=by rw[cw];exact bR e1
  have e6:kQ C.p (cf C x line g).f-(cf C x line g).f<=9:=by rw[e4];show e-g<=9;omega
  have h4:=((h1.trans h2).trans h3).mono (m:=dh (lev+1)) (by
   rw[dh];have:=l9 (20*dh lev+3) e6
   omega)
  show Grow _ s (lT C (bq C (cK C lev)) x ins line g d s);unfold lT;exact h4.set (gQ _ _ _)
def lvOk (L:Ls):Prop:=L.lv.length<=L.g.I7.length/\∀j∈L.lv,0<=j/\j<L.g.I7.length
section
variable {C:Cx} {x:Sc} {ins:List Nat} {rep:Sc->List Nat->Nat->Nat->Int->Gs->Gs} {lev:Nat}
theorem lvOk.grow {n:Nat}{L L':Ls}(h:lvOk L)(hl:L'.lv=L.lv)(hg:Grow n L.g L'.g):lvOk L':=⟨by rw[hl];exact v5 h.1 hg.ge,fun j hj=>by
 rw[hl]at hj;have:=h.2 j hj;have:=hg.ge
 omega⟩
theorem xY {L:Ls}(h:lvOk L)(k:Nat)(last:Bool)(d:Int):lvOk (be C x k last d L):=by
 have hg:=na (C:=C) x k last d L;unfold be at hg⊢;split
 ·rename_i ho;rw[c7 ho]at hg;split
  ·rename_i hf;rw[c7 hf]at hg;exact h.grow rfl hg
  ·rename_i hf;rw[b8 hf]at hg;exact h.grow rfl hg
 ·split
  ·exact h
  ·refine⟨by have:=h.1;simp only[aC,c8,d5,i8];omega,?_⟩;intro j hj;simp only[d9,d6,l4,or_false]at hj;simp only[aC,c8,d5,i8];rcases hj with hj|rfl
   ·have:=h.2 j hj;omega
   ·omega
theorem Bn (Mz:∀line g d s,bS C g->cL C ins g s.I7.length=true->Grow (dh lev) s (rep x ins line g d s))(hC:CxOk C){k:Nat}{ln:LO}(hk:C.p[k]?=some ln)(h0:ln.J1≠0)(base:Int){L:Ls}(h:lvOk L):lvOk (bI C rep x ins base k ln L):=by
 have hg:=oD (x:=x) (ins:=ins) (rep:=rep) (lev:=lev) Mz hC hk h0 base L;unfold bI at hg⊢;split
 ·rename_i h4;rw[c7 h4]at hg;exact h.grow rfl hg
 ·rename_i h4;rw[b8 h4]at hg;split
  ·rename_i h7;rw[c7 h7]at hg;split
   ·exact xY (h.grow (L':={L with g:=aC C L.g base 0 0 k x.J0}) rfl (bk ..)) _ _ _
   ·rename_i ho;rw[b8 ho]at hg;split
    ·rename_i h5;rw[c7 h5]at hg;exact h.grow rfl hg
    ·exact h
  ·rename_i h7;have hl:=hC.line _ _ hk;have NY:=oW (x:=x) (ins:=ins) (rep:=rep) (line:=k) (lev:=lev) (fun g d s=>Mz k g d s) hC hk (hl.2.2.2.2 o_) base ⟨L.g.I7,L.g.J3,true⟩;have QR:lvOk {L with g:=eA C rep x ins k (exL ln.K9) base ⟨L.g.I7,L.g.J3,true⟩,J4:=L.J4.set k L.g.I7.length}:=h.grow rfl ⟨NY.ge,NY.le,NY.J3,NY.cap⟩;split
   ·exact QR.grow rfl (bk ..)
   ·split
    ·exact QR.grow rfl (bk ..)
    ·split
     ·exact xY QR _ _ _
     ·exact QR.grow rfl (bk ..)
theorem Cf (k:Nat)(ln:LO){L:Ls}(h:lvOk L):lvOk (bB C x k ln L):=by
 have hg:=uz (C:=C) (x:=x) k ln L;unfold bB at hg⊢;split
 ·rename_i h1;rw[c7 h1]at hg;exact h.grow rfl hg
 ·exact h
theorem DM (Mz:∀line g d s,bS C g->cL C ins g s.I7.length=true->Grow (dh lev) s (rep x ins line g d s))(hC:CxOk C)(base:Int):∀(n k:Nat) (L:Ls),(∀i y,k<=i->i<k+n->C.p[i]?=some y->y.J1≠0)->lvOk L->lvOk (dI C rep x ins base n k L)
 | 0,k,L,_,h=>h
 | n+1,k,L,hf,h=>by
  rw[dI];split
  ·rename_i ln hk;exact DM Mz hC base n (k+1) _ (fun i y h1 h2 hy=>hf i y o_ o_ hy) (Cf k ln (Bn Mz hC hk (hf k ln (d8 _) o_ hk) base h))
  ·exact h
theorem ke (hC:CxOk C)(hx:ScOk C x ins){e:Nat}(he:endAt C.p x.f=some e){i:Nat}{y:LO}(h1:x.f+1<=i)(h2:i<=e)(hy:C.p[i]?=some y):y.J1≠0:=by
 obtain⟨ln,g1,g2⟩:=hx.fn;obtain⟨e',h3,_,_,h4⟩:=hC.fn _ _ g1 g2;rw[he]at h3;injection h3 with h3;subst h3;by_cases Od:i=e
 ·subst Od;obtain⟨z,hz,h7⟩:=bL he;rw[hy]at hz;injection hz with hz;subst hz;omega
 ·exact(h4 i y o_ o_ hy).1
theorem Gi (Mz:∀line g d s,bS C g->cL C ins g s.I7.length=true->Grow (dh lev) s (rep x ins line g d s))(hC:CxOk C)(hx:ScOk C x ins)(base:Int)(s:Gs):(bq C rep x ins base s).2.length<=(bq C rep x ins base s).1.I7.length/\∀j∈(bq C rep x ins base s).2,0<=j/\j<((bq C rep x ins base s).1.I7.length:Int):=by unfold bq;obtain⟨e,g3,g4,_,g5,_⟩:=hx.endE hC;rw[g5];exact DM Mz hC base (e-x.f) (x.f+1) (cu C s) (fun i y k1 k2 hy=>ke hC hx g3 k1 o_ hy) ⟨by simp[cu],by intro j hj;simp[cu]at hj⟩
end
theorem sJ (v j:Int):∀(js:List Int) (l:List LN),patchL l v (js++[j])=bV (patchL l v js) j v
 | [],l=>by rw[t6,patchL,patchL,patchL]
 | a::js,l=>by rw[u3,patchL,sJ v j js,patchL]
end Go.Proofs.P
namespace Go.Proofs.P
open Go.Sim Tryz
def db (l:List LN)(v to:Int):List (Int×Int)->List LN
 | []=>l
 | e::r=>db (if e.1=to then bV l e.2 v else l) v to r
theorem wg (v to:Int):∀(E:List (Int×Int)) (l:List LN),(db l v to E).length=l.length
 | [],l=>rfl
 | e::r,l=>by
  rw[db,wg v to r];split
  ·rw[bO]
  ·rfl
theorem kl (v to:Int):∀(A B:List (Int×Int)) (l:List LN),db l v to (A++B)=db (db l v to A) v to B
 | [],B,l=>rfl
 | a::A,B,l=>by rw[u3,db,kl v to A B,db]
theorem Ae (v to:Int)(e:Int×Int)(E:List (Int×Int))(l:List LN):db l v to (E++[e])=if e.1=to then bV (db l v to E) e.2 v else db l v to E:=by rw[kl];rfl
def jumps (p:List LO)(i:Nat):Prop:=kindAt p i=3\/kindAt p i=4\/kindAt p i=5
instance (p:List LO) (i:Nat):Decidable (jumps p i):=by unfold jumps;infer_instance
def fo (p:List LO)(i:Nat):Int:=if kindAt p i=4 then ct p (ownOf p i:Int)+1 else if kindAt p i=3/\0<=cB p (i:Int)then-cB p (i:Int)else ct p (i:Int)+1
def entry (p:List LO)(pos:List Int)(i:Nat):List (Int×Int):=if jumps p i then [(fo p i,atL pos i)]else []
def bm (p:List LO)(pos:List Int)(f:Nat):Nat->List (Int×Int)
 | 0=>[]
 | n+1=>bm p pos f n++entry p pos (f+n)
theorem oF (p:List LO)(pos:List Int)(f:Nat):∀n,(bm p pos f n).length<=n
 | 0=>d8 _
 | n+1=>by
  have:=oF p pos f n;rw[bm,c8,entry];split<;>simp<;>omega
theorem fW {l:List Int}{k i:Nat}{v:Int}(h:i≠k):atL (l.set k v) i=atL l i:=by unfold atL;rw[C6 (fun e=>h e.symm)]
theorem fv {l:List Int}{k:Nat}{v:Int}(h:k<l.length):atL (l.set k v) k=v:=by unfold atL;rw[x6 h];rfl
theorem uU (p:List LO)(pos:List Int)(f k:Nat)(v:Int):∀n,f+n<=k->bm p (pos.set k v) f n=bm p pos f n
 | 0,_=>rfl
 | n+1,h=>by
  rw[bm,bm,uU p pos f k v n o_,entry,entry,fW o_]
theorem lA {p:List LO}{pos:List Int}{f k:Nat}(h:f+1<=k)(hj:¬jumps p k):bm p pos (f+1) (k+1-(f+1))=bm p pos (f+1) (k-(f+1)):=by rw[show k+1-(f+1)=(k-(f+1))+1 by omega,bm,show f+1+(k-(f+1))=k by omega,entry,b8 hj,m6]
theorem uM {p:List LO}{pos:List Int}{f k:Nat}(h:f+1<=k)(hj:jumps p k)(hk:k<pos.length)(v:Int):bm p pos (f+1) (k-(f+1))++[(fo p k,v)]=bm p (pos.set k v) (f+1) (k+1-(f+1)):=by rw[show k+1-(f+1)=(k-(f+1))+1 by omega,bm,uU _ _ _ _ _ _ o_,show f+1+(k-(f+1))=k by omega,entry,c7 hj,fv hk]
theorem lq {p:List LO}{pos:List Int}{f:Nat}:∀{n:Nat} {e:Int×Int},e∈bm p pos f n->∃i,f<=i/\i<f+n/\jumps p i/\e=(fo p i,atL pos i)
 | 0,e,h=>by simp[bm]at h
 | n+1,e,h=>by
  rw[bm,d9]at h;rcases h with h|h
  ·obtain⟨i,h1,h2,h3⟩:=lq h;exact⟨i,h1,o_,h3⟩
  ·rw[entry]at h;split at h
   ·rename_i hj;simp only[d6,l4,or_false]at h;exact⟨f+n,o_,o_,hj,h⟩
   ·cases h
theorem jQ {v to:Int}:∀{E:List (Int×Int)} {l:List LN},(∀e∈E,e.1≠to)->db l v to E=l
 | [],_,_=>rfl
 | e::r,l,h=>by rw[db,b8 (h e s_),jQ fun x hx=>h x aat]
theorem ri {p:List LO}{pos:List Int}{f i0:Nat}{v to:Int}(hj:jumps p i0)(ht:fo p i0=to):∀{n:Nat} {l:List LN},f<=i0->i0<f+n->(∀i,f<=i->i<f+n->jumps p i->fo p i=to->i=i0)->db l v to (bm p pos f n)=bV l (atL pos i0) v
 | 0,l,h1,h2,_=>o_
 | n+1,l,h1,h2,hu=>by
  rw[bm,kl];by_cases h:i0=f+n
  ·subst h
   rw[jQ (E:=bm p pos f n) (fun e he=>by
    obtain⟨i,k1,k2,k3,rfl⟩:=lq he;intro hh;have:=hu i k1 o_ k3 hh
    omega)]
   rw[entry,c7 hj];show(if(fo p (f+n),atL pos (f+n)).1=to then _ else _)=_;rw[c7 ht]
  ·rw[ri hj ht h1 o_ fun i k1 k2 k3 k4=>hu i k1 o_ k3 k4];refine jQ fun e he=>?_;rw[entry]at he;split at he
   ·rename_i PP;simp only[d6,l4,or_false]at he;subst he;intro hh;exact h (hu (f+n) o_ o_ PP hh).symm
   ·cases he
theorem bc {p:List LO}{k:Nat}{ln:LO}(h:p[k]?=some ln):kindAt p k=ln.J1:=by rw[kindAt,h]
theorem pu {p:List LO}{i:Nat}{m:Int}(h:ct p (i:Int)=m)(h0:0<=m):endAt p i=some m.toNat:=by
 rw[cw]at h
 cases he:endAt p i with|none=>rw[he]at h;simp only[cO]at h;omega|some e=>rw[he]at h;simp only[cO]at h;congr 1;omega
theorem jp (p:List LO)(i:Nat):-1<=ct p (i:Int)/\ct p (i:Int)<=p.length:=by
 rw[cw]
 cases he:endAt p i with|none=>simp only[cO];omega|some e=>obtain⟨_,_,_,_,_,h⟩:=aN he;simp only[cO];omega
theorem dq {p:List LO}{i:Nat}:cB p (i:Int)=cO (elseAt p i):=by rw[cB,c7 o_,d7]
theorem Co {p:List LO}{i:Nat}(h:kindAt p i≠3):elseAt p i=none:=by
 cases he:elseAt p i with
 | none=>rfl
 | some j=>obtain⟨y,_,hy,h3,_⟩:=bt he;exact absurd (by rw[bc hy];exact h3) h
section
variable {C:Cx} {x:Sc} {ins:List Nat}
theorem pB (hC:CxOk C)(hx:ScOk C x ins){e:Nat}(he:endAt C.p x.f=some e){k i:Nat}(h1:x.f+1<=i)(h2:i<k)(h3:k<=e)(hj:jumps C.p i)(ht:fo C.p i=(k:Int)):kindAt C.p (k-1)=7/\ownOf C.p (k-1)≠x.f/\iN C.p (k-1)=i:=by
 have Nz:i<C.p.length:=by obtain⟨_,_,_,_,_,h⟩:=aN he;omega
 obtain⟨y,hy⟩:=ae Nz;have Sk:=bc hy;unfold fo at ht;by_cases h4:kindAt C.p i=4
 ·rw[c7 h4]at ht;obtain⟨o1,o2,o3,o4⟩:=hx.own4 hC he o_ o_ hy (by rw[<-Sk];exact h4);have NL:=pu (show ct C.p (ownOf C.p i:Int)=((k-1:Nat):Int) by omega) o_;rw[d7]at NL;obtain⟨z,hz,h7⟩:=bL NL;rw[jZ NL,bc hz];refine⟨h7,o_,?_⟩;rw[iN,jZ NL,o1]
 ·rw[b8 h4]at ht;split at ht
  ·omega
  ·rename_i hn;have NL:=pu (show ct C.p (i:Int)=((k-1:Nat):Int) by omega) o_;rw[d7]at NL;obtain⟨z,hz,h7⟩:=bL NL;rw[jZ NL,bc hz];refine⟨h7,o_,?_⟩;rw[iN,jZ NL]
   have:elseAt C.p i=none:=by
    by_cases PH:kindAt C.p i=3
    ·cases M6:elseAt C.p i with|none=>rfl|some j=>exact absurd ⟨PH,by rw[dq,M6];simp[cO]⟩ hn
    ·exact Co PH
   rw[this]
theorem yH (hC:CxOk C)(hx:ScOk C x ins){e:Nat}(he:endAt C.p x.f=some e){j:Nat}{ln:LO}(h1:x.f<j)(h2:j<e)(hl:C.p[j]?=some ln)(h7:ln.J1=7):x.f+1<=iN C.p j/\iN C.p j<j/\jumps C.p (iN C.p j)/\fo C.p (iN C.p j)=((j+1:Nat):Int)/\ownOf C.p j≠x.f:=by
 obtain⟨o1,o2⟩:=hx.own7 hC he h1 o_ hl h7;rcases o2 with⟨o2,_⟩|⟨_,o3,o4,y,hy,ho⟩
 ·omega
 have Sk:=bc hy;have Py:ct C.p (ownOf C.p j:Int)=(j:Int):=by rw[cw];exact bR o1
 unfold iN
 cases M6:elseAt C.p (ownOf C.p j)with
 | none=>
  dsimp only;refine⟨o_,o4,by unfold jumps;omega,?_,o_⟩;unfold fo;rw[b8 o_,b8 (by rw[dq,M6];simp[cO]),Py]
  omega
 | some m=>obtain⟨z,m1,hz,z3,RF,k1,k2,w,hw,w4⟩:=bt M6;rw[o1]at RF;injection RF with RF;have hkw:=bc hw;refine⟨g_,g_,by unfold jumps;dsimp only;omega,?_,o_⟩;unfold fo;dsimp only;rw[c7 o_,vl M6,Py];omega
structure LInv (C:Cx) (lev:Nat) (x:Sc) (ins:List Nat) (d:Int) (e:Nat) (R:Ls) (k:Nat) (L:Ls):Prop where
 lo:x.f+1<=k
 hi:k<=e+1
 J4:L.J4.length=C.p.length
 pos:L.pos.length=C.p.length
 at_:∀i,x.f<i->i<k->jumps C.p i->0<=atL L.pos i/\atL L.pos i<L.g.I7.length
 lv:lvOk L
 room:L.g.I7.length+(e+1-k)*(20*dh lev+3)<=68719476736
 fin:dI C (cK C lev) x ins d (e+1-k) k L=R
theorem Cn (rep:Sc->List Nat->Nat->Nat->Int->Gs->Gs)(base:Int)(k:Nat)(ln:LO)(L:Ls):(bI C rep x ins base k ln L).J4.length=L.J4.length/\(bI C rep x ins base k ln L).pos.length=L.pos.length:=by
 unfold bI be;repeat' split
 all_goals simp
theorem uK (k:Nat)(ln:LO)(L:Ls):(bB C x k ln L).J4=L.J4/\(bB C x k ln L).pos=L.pos/\(bB C x k ln L).lv=L.lv/\(bB C x k ln L).g.I7.length=L.g.I7.length/\(bB C x k ln L).g.J3=L.g.J3/\(bB C x k ln L).g.start=L.g.start:=by
 unfold bB;split
 ·exact⟨rfl,rfl,rfl,bO _ _ _,rfl,rfl⟩
 ·exact⟨rfl,rfl,rfl,rfl,rfl,rfl⟩
theorem Ie (rep:Sc->List Nat->Nat->Nat->Int->Gs->Gs)(base:Int)(k:Nat)(ln:LO)(L:Ls)(hp:k<L.pos.length)(i:Nat):
  (i≠k->atL (bI C rep x ins base k ln L).pos i=atL L.pos i)/\((ln.J1=3\/ln.J1=4\/ln.J1=5)->0<=atL (bI C rep x ins base k ln L).pos k/\atL (bI C rep x ins base k ln L).pos k<(bI C rep x ins base k ln L).g.I7.length):=by
 unfold bI;by_cases h4:ln.J1=4
 ·rw[c7 h4];refine⟨fun hi=>fW hi,fun _=>?_⟩;simp only[fv hp,bO,aC,c8,d5,i8];omega
 ·rw[b8 h4];by_cases h7:ln.J1=7
  ·rw[c7 h7];refine⟨fun _=>?_,fun h=>o_⟩;unfold be;repeat' split
   all_goals rfl
  ·rw[b8 h7];by_cases h1:ln.J1=1
   ·rw[c7 h1];exact⟨fun _=>rfl,fun h=>o_⟩
   ·rw[b8 h1];by_cases h2:ln.J1=2
    ·rw[c7 h2];exact⟨fun _=>rfl,fun h=>o_⟩
    ·rw[b8 h2];by_cases h6:ln.J1=6
     ·rw[c7 h6];refine⟨fun _=>?_,fun h=>o_⟩;unfold be;repeat' split
      all_goals rfl
     ·rw[b8 h6];refine⟨fun hi=>fW hi,fun _=>?_⟩;simp only[fv hp,aC,c8,d5,i8];omega
theorem LInv.next (hC:CxOk C)(hx:ScOk C x ins){lev e k:Nat}{d:Int}{R L:Ls}{ln:LO}(he:endAt C.p x.f=some e)(h:LInv C lev x ins d e R k L)(hk:k<=e)(hl:C.p[k]?=some ln):LInv C lev x ins d e R (k+1) (bB C x k ln (bI C (cK C lev) x ins d k ln L)):=by
 have h0:=ke hC hx he h.lo hk hl;have Mz:∀line g d s,bS C g->cL C ins g s.I7.length=true->Grow (dh lev) s (cK C lev x ins line g d s):=fun line g d s hg hr=>ia hC lev line g d s hx hg hr;have hA:=oD (lev:=lev) (rep:=cK C lev) Mz hC hl h0 d L;obtain⟨b1,b2,b3,b4,b5,b6⟩:=uK (C:=C) (x:=x) k ln (bI C (cK C lev) x ins d k ln L);obtain⟨a1,a2⟩:=Cn (C:=C) (x:=x) (ins:=ins) (cK C lev) d k ln L;have MS:=hA.ge;have MY:=hA.le;have hr:=h.room;refine⟨by have:=h.lo;omega,o_,by rw[b1,a1];exact h.J4,by rw[b2,a2];exact h.pos,fun i h1 h2 hj=>?_,Cf k ln (Bn (lev:=lev) Mz hC hl h0 d h.lv),?_,?_⟩
 ·rw[b2,b4];obtain⟨p1,p2⟩:=Ie (C:=C) (x:=x) (ins:=ins) (cK C lev) d k ln L (by rw[h.pos];exact aH hl) i;by_cases Ou:i=k
  ·subst Ou;refine p2 ?_;unfold jumps at hj;rw[bc hl]at hj;exact hj
  ·rw[p1 Ou];have:=h.at_ i h1 o_ hj;omega
 ·rw[b4];obtain⟨n,hn⟩:∃n,e+1-k=n+1:=⟨e-k,o_⟩;rw[hn,p8]at hr;rw[show e+1-(k+1)=n by omega];omega
 ·have hf:=h.fin;obtain⟨n,hn⟩:∃n,e+1-k=n+1:=⟨e-k,o_⟩;rw[hn,dI,hl]at hf;rw[show e+1-(k+1)=n by omega];exact hf
theorem CP (hC:CxOk C)(hx:ScOk C x ins){e k:Nat}{ln:LO}(he:endAt C.p x.f=some e)(h1:x.f+1<=k)(hk:k<=e)(hl:C.p[k]?=some ln)(A:Ls):
  (k+1<=e->db A.g.I7 A.g.I7.length ((k+1:Nat):Int) (bm C.p A.pos (x.f+1) (k+1-(x.f+1)))=(bB C x k ln A).g.I7)/\(k=e->A.g.I7=(bB C x k ln A).g.I7):=by
 constructor
 ·intro ND;unfold bB;by_cases h7:ln.J1=7
  ·obtain⟨q1,q2,q3,q4,q5⟩:=yH hC hx he o_ o_ hl h7;rw[c7 ⟨h7,q5⟩];refine ri q3 q4 q1 o_ fun i k1 k2 k3 k4=>?_;obtain⟨_,_,t3⟩:=pB hC hx he (k:=k+1) k1 o_ ND k3 k4;rw[Nat.add_sub_cancel]at t3;exact t3.symm
  ·rw[b8 o_];refine jQ fun z hz=>?_;obtain⟨i,k1,k2,k3,rfl⟩:=lq hz;intro hh;obtain⟨t1,_⟩:=pB hC hx he (k:=k+1) k1 o_ ND k3 hh;rw[Nat.add_sub_cancel,bc hl]at t1;exact h7 t1
 ·rintro rfl;unfold bB;rw[b8];rintro⟨_,h⟩;exact h (jZ he)
theorem Dk (hC:CxOk C)(hx:ScOk C x ins){e k:Nat}{ln:LO}(he:endAt C.p x.f=some e)(h1:x.f+1<=k)(hk:k<=e)(hl:C.p[k]?=some ln)(h4:ln.J1=4)(pos:List Int)(l:List LN)(v:Int):
  db l v (-(k:Int)) (bm C.p pos (x.f+1) (k+1-(x.f+1)))=bV l (atL pos (ownOf C.p k)) v:=by
 obtain⟨o1,o2,o3,o4⟩:=hx.own4 hC he h1 hk hl h4;obtain⟨y,m,hy,y3,hm,_,_,_⟩:=bt o1;have Sk:=bc hy;have M6:cB C.p (ownOf C.p k:Int)=(k:Int):=by rw[dq];exact bR o1
 refine ri (by unfold jumps;omega) (by unfold fo;rw[b8 o_,c7 ⟨o_,o_⟩,M6]) o_ o_ fun i k1 k2 k3 k4=>?_;unfold fo at k4;by_cases X0:kindAt C.p i=4
 ·rw[c7 X0]at k4;have:=jp C.p (ownOf C.p i);omega
 ·rw[b8 X0]at k4;split at k4
  ·rename_i h3;have Ph:cB C.p (i:Int)=(k:Int):=o_;rw[dq]at Ph
   cases Od:elseAt C.p i with
   | none=>rw[Od]at Ph;simp only[cO]at Ph;omega
   | some j=>rw[Od]at Ph;simp only[cO]at Ph;have:j=k:=o_;subst this;exact pt Od o1
  ·have:=jp C.p i;omega
end
theorem pj (l:List LY)(hl:l.length<=1048576):Sim.Spec prog 257 [tvL 3 (l.map LY.tr)] (rL 3 (l.map LY.tr)):=by
 refine bv hΓ aG func257 rfl d_ rfl ?_;repeat' ((conv=>whnf);first|apply Wx|apply W6|apply oi|apply fi|intro h|exact Y7|refine e_ rfl ?_)
 all_goals try exact Q1
 all_goals try exact⟨⟨rfl,aT _⟩⟩
theorem vX (x:LO)(hs:aF 1048576 x.tr):Sim.Spec prog 239 [.agg x.tr] (.r (.agg (x.tr.map tM))):=by
 refine bv hΓ aG func239 rfl d_ rfl ?_;obtain⟨h1,h2,h3,h4,h5⟩:=fO hs;have hT:=pj x.K9 h4;repeat' ((conv=>whnf);first|apply Wx|apply W6|apply oi|apply fi|intro h|refine cl hT ?_|exact Y7|refine e_ rfl ?_)
 all_goals try exact Q1
 all_goals try exact⟨⟨rfl,kF _⟩⟩
theorem Bh {α β:Type}(f:α->β)(l:List α)(k:Nat)(x:α)(hx:l[k]?=some x):(l.take (k+1)).map f=(l.take k).map f++[f x]:=by rw[B2,hx,u4];rfl
theorem Q14{p:Prop}(h:p:=by exact⟨aT _⟩):p:=h
theorem qy (l:List LO)(hs:aw 1048576 (.lst 4 (l.map LO.tr))):bA prog 195 [vP l] [] (.r (.c (.own (1,0,0)))) [((1,0,0),.dar 4 (aK (l.map LO.tr)) none)]:=by
 refine az hΓ aG func195 rfl d_ rfl rfl ?_;have hl:=bE hs;have Mv:(l.map LO.tr).length=l.length:=s_;repeat' ((conv=>whnf);first|apply Wx|apply W6|apply oi|apply fi|intro h|exact Y7|refine e_ rfl ?_)
 conv=>whnf
 refine⟨{k:Nat//k<=l.length},fun q=>⟨[(0,vP l),(3,.r (.c (.own (3,0,0)))),(4,tI .i64 (q.1:Int))],[((3,0,0),some (.dar 4 (aK ((l.take q.1).map LO.tr)) none))],[3,0]⟩,fun q=>l.length-q.1,⟨0,o_⟩,?_,?_⟩
 ·exact Z2
 intro⟨k,hk⟩;dsimp only at hk⊢;by_cases My:k<l.length
 ·obtain⟨x,hx⟩:=ae My;have QN:(aK ((l.take k).map LO.tr)).length=k:=by rw[iI,e7,l6];omega
  have hC:=vX x (bf hs (c9 hx));repeat' ((conv=>whnf);first|apply Wx|apply W6|apply oi|apply fi|intro h|refine⟨k,x.tr,rfl,ab hx,?_⟩|refine cl hC ?_|exact Y5|refine e_ rfl ?_)
  all_goals try exact Q14
  all_goals try exact⟨kF _⟩
  all_goals try exact⟨⟨by rw[QN];(try dsimp only);simp<;>omega,by rw[QN];(try dsimp only);simp<;>omega⟩⟩
  repeat' ((conv=>whnf);first|apply Wx|apply W6|apply oi|apply fi|intro h|exact Y7|refine e_ rfl ?_)
  conv=>whnf
  refine⟨⟨k+1,o_⟩,?_,KD⟩;repeat' ((conv=>whnf);first|apply Wx|apply W6|apply oi|apply fi|intro h|exact Y6|refine e_ rfl ?_)
  all_goals exact⟨by rw[Bh LO.tr l k x hx];simp[aK,LO.tr]⟩
 ·repeat' ((conv=>whnf);first|apply Wx|apply W6|apply oi|apply fi|intro h|exact Y5|refine e_ rfl ?_)
  all_goals exact⟨by rw[gt o_]⟩
noncomputable def lK (l:List LY):List LY:=if h:br l=true then(Classical.choose (jf h)).fold.toks else []
theorem uO {l:List LY}(h:br l=true):∃e:Ex,e.ok/\l=e.toks/\lK l=e.fold.toks:=by have hc:=l8 (jf h);exact⟨_,hc.1,hc.2,by rw[lK,dif_pos h]⟩
theorem wo {l:List LY}(h:br l=false):lK l=[]:=by rw[lK,dif_neg aaI]
theorem xQ (l:List LY):(lK l).length<=l.length:=by
 cases h:br l with
 | false=>rw[wo h];simp
 | true=>obtain⟨e,_,h1,h2⟩:=uO h;rw[h2,h1];exact e.fold_le
theorem tK (l:List LY)(hl:l.length<=1048576)(hn:jj l):Sim.Spec prog 196 [tvL 3 (l.map LY.tr)] (rL 3 ((lK l).map LY.tr)):=by
 refine bv hΓ aG func196 rfl d_ rfl ?_;have hE:=ot l hl hn
 cases h:br l with
 | false=>
  rw[h]at hE;rw[wo h]
  repeat' ((conv=>whnf);first|apply Wx|apply W6|apply oi|apply fi|intro h|refine cl hE ?_|exact Y5|refine e_ rfl ?_)
 | true=>
  rw[h]at hE;obtain⟨e,h1,h2,h3⟩:=uO h;have hF:=mP e.toks.length e (d8 _) l 0 hl hn h1 ⟨[],by rw[B8,m6];exact h2⟩;rw[h3]
  generalize e.fold.toks=r at *
  repeat' ((conv=>whnf);first|apply Wx|apply W6|apply oi|apply fi|intro h|refine cl hE ?_|refine cl hF ?_|exact Y5|refine e_ rfl ?_)
noncomputable def aO (x:LO):LO:=if 0<x.K9.length then⟨x.J1,x.J8,x.L5,lK x.K9⟩else x
noncomputable def fJ (l:List LO) (k:Nat):List LO:=(l.take k).map aO++l.drop k
theorem Aw (l:List LO)(k:Nat):(fJ l k).length=l.length:=by simp[fJ];omega
theorem ni {l:List LO}{k:Nat}{x:LO}(hx:l[k]?=some x):(fJ l k)[k]?=some x:=by
 have hk:k<l.length:=by exact V109
 rw[fJ,m5 aab];simp only[e7,l6];rw[y6 o_,w9,v7];exact hx
theorem qK {l:List LO}{k:Nat}{x:LO}(hx:l[k]?=some x):fJ l (k+1)=(fJ l k).set k (aO x):=by
 have hk:k<l.length:=by exact V109
 rw[fJ,fJ,Bh aO l k x hx,cF hx,D6 _ _ aab];simp only[e7,l6];rw[y6 o_,w9,D2,j9];rfl
noncomputable def jq (l:List LO):List LO:=if ah l=true then l.map aO else []
theorem pr (l:List LO)(hs:aw 1048576 (.lst 4 (l.map LO.tr))):Sim.Spec prog 132 [tvP l] (rL 4 ((jq l).map LO.tr)):=by
 refine bv hΓ aG func132 rfl d_ rfl ?_;have hl:=bE hs;have hP:=dM l hs;have hC:=qy l hs
 cases SU:ah l with
 | false=>
  rw[SU]at hP;have:jq l=[]:=by rw[jq,b8 (by simp[SU])]
  rw[this]
  repeat' ((conv=>whnf);first|apply Wx|apply W6|apply oi|apply fi|intro h|refine cl hP ?_|exact Y5|refine e_ rfl ?_)
 | true=>
  rw[SU]at hP;have:jq l=l.map aO:=by rw[jq,c7 SU]
  rw[this];repeat' ((conv=>whnf);first|apply Wx|apply W6|refine cg hC ?_|apply oi|apply fi|intro h|refine cl hP ?_|exact Y5|refine e_ rfl ?_)
  conv=>whnf
  refine⟨{k:Nat//k<=l.length},fun q=>⟨[(3,.r (.c (.own (3,0,0)))),(4,tI .i64 (q.1:Int))],[((3,0,0),some (.dar 4 (aK ((fJ l q.1).map LO.tr)) none))],[3]⟩,fun q=>l.length-q.1,⟨0,o_⟩,?_,?_⟩
  ·exact Z2
  intro⟨k,hk⟩;dsimp only at hk⊢;have QN:(aK ((fJ l k).map LO.tr)).length=l.length:=by rw[iI,e7,Aw]
  by_cases My:k<l.length
  ·obtain⟨x,hx⟩:=ae My;obtain⟨h1,h2,h3,h4,h5⟩:=fO (bf hs (c9 hx));have hF:=tK x.K9 h4 (fun y hy=>by have:=h5 y hy;omega);have Ne:k<(aK ((fJ l k).map LO.tr)).length:=(by rw[QN];exact My);have Rc:(x.K9.map LY.tr).length=x.K9.length:=s_;by_cases M9:0<x.K9.length
   ·have MM:aO x=⟨x.J1,x.J8,x.L5,lK x.K9⟩:=(by rw[aO,c7 M9]);repeat' ((conv=>whnf);first|apply Wx|apply W6|apply oi|apply fi|intro h|refine⟨k,rfl,Ne,?_⟩|refine⟨k,rfl,aaC,?_⟩|refine⟨_,jh (ab (ni hx)),?_⟩|refine⟨_,(x6 aaC),?_⟩|refine cl hF ?_|exact Y7|refine e_ rfl ?_)
    all_goals try exact Q14
    all_goals try(exfalso;have h':=f9 h;rw[QN]at h';omega)
    all_goals try(exfalso;have h':=f9 h;rw[Rc]at h';omega)
    conv=>whnf
    refine⟨⟨k+1,o_⟩,?_,KD⟩;repeat' ((conv=>whnf);first|apply Wx|apply W6|apply oi|apply fi|intro h|exact Y7|refine e_ rfl ?_)
    all_goals try exact Q14
    all_goals try exact⟨K1⟩
    all_goals(refine⟨?_⟩;(try dsimp only);rw[qK hx,F6,<-qq,MM];simp[LO.tr])
   ·have MM:aO x=x:=(by rw[aO,b8 M9]);repeat' ((conv=>whnf);first|apply Wx|apply W6|apply oi|apply fi|intro h|refine⟨k,rfl,Ne,?_⟩|refine⟨k,rfl,aaC,?_⟩|refine⟨_,jh (ab (ni hx)),?_⟩|refine⟨_,(x6 aaC),?_⟩|refine cl hF ?_|exact Y7|refine e_ rfl ?_)
    all_goals try exact Q14
    all_goals try(exfalso;have h':=f9 h;rw[QN]at h';omega)
    all_goals try(exfalso;have h':=f0 h;rw[Rc]at h';omega)
    conv=>whnf
    refine⟨⟨k+1,o_⟩,?_,KD⟩;repeat' ((conv=>whnf);first|apply Wx|apply W6|apply oi|apply fi|intro h|refine⟨k,rfl,Ne,?_⟩|refine⟨k,rfl,aaC,?_⟩|refine⟨_,jh (ab (ni hx)),?_⟩|refine⟨_,(x6 aaC),?_⟩|exact Y7|refine e_ rfl ?_)
    all_goals try exact Q14
    all_goals try exact⟨K1⟩
    all_goals(refine⟨?_⟩;(try dsimp only);rw[qK hx,F6,<-qq,MM];simp[LO.tr])
  ·repeat' ((conv=>whnf);first|apply Wx|apply W6|apply oi|apply fi|intro h|exact Y5|refine e_ rfl ?_)
   all_goals exact⟨by rw[fJ,gt o_,n9 o_,m6]⟩
structure PgOk (p:List LO):Prop where
 len:p.length<=60
 small:aw 1048576 (.lst 4 (p.map LO.tr))
 line:∀(k:Nat) (ln:LO),p[k]?=some ln->0<=ln.J1/\ln.J1<=7/\ln.L5.length<=4/\ln.K9.length<=20/\((ln.J1=1\/ln.J1=2\/ln.J1=3\/ln.J1=5\/ln.J1=6)->br ln.K9=true)
 fn:∀(g:Nat) (ln:LO),p[g]?=some ln->ln.J1=0->∃e,endAt p g=some e/\(localsOf p (g:Int)).length<=8/\ln.L5.length<=(localsOf p (g:Int)).length/\∀(k:Nat) (y:LO),g<k->k<e->p[k]?=some y->y.J1≠0/\(∀t∈y.K9,t.J1=7->∃f,findN p 0 t.J8=some f/\(argsN p f:Int)=t.Mb)/\(y.J1=4->∃i,g<=i/\i<k/\elseAt p i=some k)
theorem PgOk.cx {p:List LO}(h:PgOk p){b:LF}{framed:Bool}{words args:Int}(ha:0<=args/\args<=4)(hw:0<=words/\words<=1000)(hi:0<=b.Mc/\b.Mc<=3):CxOk ⟨p,b,framed,words,args⟩:=
 ⟨h.len,h.small,h.line,h.fn,ha,hw,hi⟩
theorem oP {F:Nat->Nat->Bool}{l:List LO}(hF:∀k e,endAt l k=some e->F k e=true->∀i x,k<i->i<e->l[i]?=some x->x.J1≠0):∀(n k:Nat),bK F l n k=true->∀g x,k<=g->l[g]?=some x->x.J1=0->∃e,endAt l g=some e/\F g e=true
 | 0,k,h,g,x,hk,hg,_=>by
  rw[bK,j5]at h;have:=aH hg
  omega
 | n+1,k,h,g,x,hk,hg,h0=>by
  rw[bK,c7 (by have:=aH hg;omega)]at h;split at h
  ·rename_i y e hy he;split at h
   ·rename_i hc;by_cases ZF:g=k
    ·subst ZF;exact⟨e,he,hc.2⟩
    ·by_cases MS:g<=e
     ·by_cases Vy:g=e
      ·subst Vy;obtain⟨z,hz,h7⟩:=bL he;rw[hg]at hz;injection hz with hz;subst hz;omega
      ·exact absurd h0 (hF k e he hc.2 g x o_ o_ hg)
     ·exact oP hF n (e+1) h g x o_ hg h0
   ·cases h
  ·cases h
theorem pp {l:List LO}{locals:List (List UInt8)}{e:Nat}:∀(n i d:Nat),e-i<=n->e<=l.length->mH l locals e n i d=true->∀j x,i<=j->j<e->l[j]?=some x->eC l locals x.K9=true
 | 0,i,d,hn,_,_,j,x,h1,h2,_=>o_
 | n+1,i,d,hn,he,hb,j,x,h1,h2,hx=>by
  rw[mH,c7 o_]at hb;obtain⟨y,hy⟩:=ae (l:=l) (k:=i) o_;rw[hy]at hb;dsimp only at hb;split at hb
  ·cases hb
  ·split at hb
   ·rename_i hk;by_cases hj:j=i
    ·subst hj;rw[hy]at hx;injection hx with hx;subst hx;exact hk.2
    ·exact pp n (i+1) _ o_ he hb j x o_ h2 hx
   ·cases hb
theorem CX (acc:List (List UInt8))(s:List UInt8):acc.length<=(gj acc s).length:=by unfold gj;split<;>simp
theorem Er {l:List LO}{e:Nat}:∀(n i:Nat) (acc:List (List UInt8)),acc.length<=(locN l e n i acc).length
 | 0,_,_=>by simp[locN]
 | n+1,i,acc=>by
  rw[locN];split
  ·split
   ·refine v5 ?_ (Er n _ _);split
    ·exact CX _ _
    ·exact d8 _
   ·exact d8 _
  ·exact d8 _
theorem hasExpr_iff {k:Int}:iW k=true↔(k=1\/k=2\/k=3\/k=5\/k=6):=by unfold iW;simp
theorem zg {x:LO}(h:cZ x=true):0<=x.J1/\x.J1<=7/\x.L5.length<=4/\x.K9.length<=20/\((x.J1=1\/x.J1=2\/x.J1=3\/x.J1=5\/x.J1=6)->br x.K9=true):=by
 have h4:x.L5.length<=4:=by
  rcases m7 4 x.L5.length with h'|h'
  ·rw[sT h']at h;cases h
  ·exact h'
 unfold cZ at h;simp only[b9,within_iff]at h;obtain⟨⟨h1,h2⟩,_,_,h3⟩:=h;refine⟨h1,h2,h4,?_,fun hk=>by rw[c7 (hasExpr_iff.2 hk)]at h3;exact h3⟩;split at h3
 ·unfold br at h3;simp only[b9,j5]at h3;exact h3.1
 ·have:=B7 h3;omega
theorem zi {p:List LO}(hs:aw 1048576 (.lst 4 (p.map LO.tr)))(h:ah p=true):PgOk p:=by
 unfold ah at h;simp only[b9,j5]at h;obtain⟨h1,_,h2,_,_,h3,h4⟩:=h;have hS:=oY p;rw[h3,h4]at hS;have Sa:∀(k:Nat) (ln:LO),p[k]?=some ln->0<=ln.J1/\ln.J1<=7/\ln.L5.length<=4/\ln.K9.length<=20/\((ln.J1=1\/ln.J1=2\/ln.J1=3\/ln.J1=5\/ln.J1=6)->br ln.K9=true):=fun k ln hk=>zg (o8.1 h2 ln (c9 hk));have My:∀k e,endAt p k=some e->e<=p.length:=fun k e he=>by obtain⟨_,_,_,_,_,h⟩:=aN he;omega
 have hF:∀k e,endAt p k=some e->lL p k e=true->∀i x,k<i->i<e->p[i]?=some x->x.J1≠0:=fun k e he hf=>by
  rw[mA,b9]at hf;exact uw hf.1 (My k e he)
 refine⟨h1,hs,Sa,fun g ln hg h0=>?_⟩;obtain⟨e,he,hf⟩:=oP hF p.length 0 hS g ln (w6 _) hg h0;have Ov:=hf;rw[mA,b9]at Ov;obtain⟨RS,SG⟩:=Ov;have T8:=RS;rw[tF,b9,j5]at T8;obtain⟨ZI,Tx⟩:=T8;refine⟨e,he,ZI,?_,fun k y hk1 MN hy=>⟨hF g e he hf k y hk1 MN hy,fun t ht h7=>?_,fun QU=>?_⟩⟩
 ·unfold localsOf;rw[c7 o_,d7,hg,he];dsimp only;rw[c7 h0];exact Er _ _ _
 ·have OM:=pp (e-(g+1)) (g+1) 0 (d8 _) (My g e he) Tx k y o_ MN hy;unfold eC at OM;have:=o8.1 OM t ht;unfold cH at this;rw[b8 o_,c7 h7]at this;split at this
  ·rename_i f UN;refine⟨f,UN,?_⟩;unfold argsN;split at this
   ·rename_i x hx
    (try rw[hx])
    exact B7 this
   ·cases this
  ·cases this
 ·have:=(iA (d8 _)).1 SG k y o_ MN hy QU;rw[qo]at this;obtain⟨i,i1,i2,i3⟩:=this;exact⟨i,i1,o_,i3⟩
def alike (p q:List LO):Prop:=p.map (fun x=>(x.J1,x.J8,x.L5))=q.map (fun x=>(x.J1,x.J8,x.L5))
theorem alike.len {p q:List LO}(h:alike p q):p.length=q.length:=by simpa using congrArg List.length h
theorem alike.get {p q:List LO}(h:alike p q){k:Nat}{x:LO}(hx:p[k]?=some x):∃y,q[k]?=some y/\x.J1=y.J1/\x.J8=y.J8/\x.L5=y.L5:=by
 have:=congrArg (·[k]?) h;simp only[p6,hx,x7]at this
 cases hy:q[k]? with
 | none=>rw[hy]at this;cases this
 | some y=>rw[hy]at this;simp only[x7,Option.some.injEq,Prod.mk.injEq]at this;exact⟨y,rfl,this.1,this.2.1,this.2.2⟩
theorem alike.none {p q:List LO}(h:alike p q){k:Nat}(hx:p[k]?=none):q[k]?=none:=by rw[List.getElem?_eq_none_iff]at hx⊢;have:=h.len;omega
theorem alike.symm {p q:List LO}(h:alike p q):alike q p:=Eq.symm h
theorem alike.drop {p q:List LO}(h:alike p q)(n:Nat):alike (p.drop n) (q.drop n):=by
 unfold alike at *
 rw[A9,A9,h]
theorem alike.endN:∀{p q:List LO},alike p q->∀(i o:Nat),endN p i o=endN q i o
 | [],[],_,_,_=>rfl
 | x::p,y::q,h,i,o=>by
  simp only[alike,p7,List.cons.injEq,Prod.mk.injEq]at h;have ih:=alike.endN (p:=p) (q:=q) h.2
  rw[Go.Proofs.P.endN,Go.Proofs.P.endN,h.1.1,ih,ih,ih]
 | [],_::_,h,_,_=>by simp[alike]at h
 | _::_,[],h,_,_=>by simp[alike]at h
theorem alike.endAt {p q:List LO}(h:alike p q)(k:Nat):endAt p k=endAt q k:=by
 unfold Go.Proofs.P.endAt
 cases hx:p[k]? with
 | none=>rw[h.none hx]
 | some x=>obtain⟨y,hy,e1,_⟩:=h.get hx;rw[hy];dsimp only;rw[e1,(h.drop (k+1)).endN]
theorem alike.elseN {p q:List LO}(h:alike p q){e:Nat}:∀(n i:Nat),elseN p e n i=elseN q e n i
 | 0,_=>rfl
 | n+1,i=>by
  rw[Go.Proofs.P.elseN,Go.Proofs.P.elseN]
  cases hx:p[i]? with
  | none=>rw[h.none hx]
  | some x=>
   obtain⟨y,hy,e1,_⟩:=h.get hx;rw[hy];dsimp only;rw[e1,h.endAt i]
   cases Go.Proofs.P.endAt q i with|none=>dsimp only;rw[alike.elseN h n]|some m=>dsimp only;rw[alike.elseN h n,alike.elseN h n]
theorem alike.elseAt {p q:List LO}(h:alike p q)(k:Nat):elseAt p k=elseAt q k:=by
 unfold Go.Proofs.P.elseAt;rw[h.endAt k]
 cases hx:p[k]? with
 | none=>rw[h.none hx]
 | some x=>
  obtain⟨y,hy,e1,_⟩:=h.get hx;rw[hy]
  cases Go.Proofs.P.endAt q k with|none=>rfl|some e=>dsimp only;rw[e1,h.elseN]
theorem alike.findN:∀{p q:List LO},alike p q->∀(i:Nat) (s:List UInt8),findN p i s=findN q i s
 | [],[],_,_,_=>rfl
 | x::p,y::q,h,i,s=>by
  simp only[alike,p7,List.cons.injEq,Prod.mk.injEq]at h;have ih:=alike.findN (p:=p) (q:=q) h.2
  rw[Go.Proofs.P.findN,Go.Proofs.P.findN,h.1.1,h.1.2.1,ih]
 | [],_::_,h,_,_=>by simp[alike]at h
 | _::_,[],h,_,_=>by simp[alike]at h
theorem alike.locN {p q:List LO}(h:alike p q){e:Nat}:∀(n i:Nat) (acc:List (List UInt8)),locN p e n i acc=locN q e n i acc
 | 0,_,_=>rfl
 | n+1,i,acc=>by
  rw[Go.Proofs.P.locN,Go.Proofs.P.locN]
  cases hx:p[i]? with
  | none=>rw[h.none hx]
  | some x=>obtain⟨y,hy,e1,e2,_⟩:=h.get hx;rw[hy];dsimp only;rw[e1,e2,alike.locN h n]
theorem alike.localsOf {p q:List LO}(h:alike p q)(k:Int):localsOf p k=localsOf q k:=by
 unfold Go.Proofs.P.localsOf;rw[h.endAt]
 cases hx:p[k.toNat]? with
 | none=>rw[h.none hx]
 | some x=>
  obtain⟨y,hy,e1,_,e3⟩:=h.get hx;rw[hy]
  cases Go.Proofs.P.endAt q k.toNat with|none=>rfl|some e=>dsimp only;rw[e1,e3,h.locN]
theorem alike.argsN {p q:List LO}(h:alike p q)(g:Nat):argsN p g=argsN q g:=by
 unfold Go.Proofs.P.argsN
 cases hx:p[g]? with
 | none=>rw[h.none hx]
 | some x=>obtain⟨y,hy,_,_,e3⟩:=h.get hx;rw[hy];dsimp only;rw[e3]
theorem eV (p:List LO):alike (p.map aO) p:=by unfold alike;rw[G6];refine List.map_congr_left fun x _=>?_;simp only[Function.comp,aO];split<;>rfl
theorem KZ (v:Int):ar ⟨0,v,[]⟩=0:=by unfold ar mG;split<;>simp
theorem IX {v:Int}(h:af v 0 999=true):(Dg v).ok:=⟨by simp[fw,h],by rw[KZ];rfl,trivial⟩
theorem ID {t:LY}{fs:List Ex}(h1:fw t=true)(h2:fs.length=ar t)(h3:iT fs):(xe t fs).ok:=by
 unfold xe;split
 ·split
  ·rename_i hc;exact IX hc.2.2.2
  ·exact⟨h1,h2,h3⟩
 ·exact⟨h1,h2,h3⟩
mutual
theorem Ex.fold_ok:∀e:Ex,e.ok->e.fold.ok
 | .node t es,h=>by rw[Ex.fold];exact ID h.1 (by rw[pq];exact h.2.1) (yv es h.2.2)
theorem yv:∀es:List Ex,iT es->iT (bU es)
 | [],_=>by rw[bU];trivial
 | a::es,h=>by rw[bU];exact⟨a.fold_ok h.1,yv es h.2⟩
end
theorem Hj {t:LY}{fs:List Ex}{z:LY}(h:z∈(xe t fs).toks):z=t\/z∈au fs\/∃n,z=⟨0,n,[]⟩:=by
 unfold xe at h;split at h
 ·split at h
  ·simp only[Dg,Ex.toks,au,d6,l4,or_false]at h;exact .inr (.inr ⟨_,h⟩)
  ·rw[Ex.toks,d6]at h;exact h.imp id .inl
 ·rw[Ex.toks,d6]at h;exact h.imp id .inl
mutual
theorem Ex.fold_mem:∀(e:Ex) {z:LY},z∈e.fold.toks->z∈e.toks\/∃n,z=⟨0,n,[]⟩
 | .node t es,z,h=>by
  rw[Ex.fold]at h;rw[Ex.toks,d6];rcases Hj h with h|h|h
  ·exact .inl (.inl h)
  ·rcases wM es h with h|h
   ·exact .inl (.inr h)
   ·exact .inr h
  ·exact .inr h
theorem wM:∀(es:List Ex) {z:LY},z∈au (bU es)->z∈au es\/∃n,z=⟨0,n,[]⟩
 | [],z,h=>by rw[bU]at h;exact .inl h
 | a::es,z,h=>by
  rw[bU,au,d9]at h;rw[au,d9];rcases h with h|h
  ·exact(a.fold_mem h).imp .inl id
  ·exact(wM es h).imp .inr id
end
theorem FR {e:Ex}(ho:e.ok)(hl:e.toks.length<=20):br e.toks=true:=by have h:=pk (l:=e.toks) (p:=0) ⟨[],by rw[B8,m6]⟩ ho;have hp:=e.toks_pos;unfold br;rw[q9 hl,q9 hp,show gv e.toks 0=_ from h];simp
theorem jV {l:List LY}(h:br l=true):br (lK l)=true/\∀z∈lK l,z∈l\/∃n,z=⟨0,n,[]⟩:=by
 obtain⟨e,h1,h2,h3⟩:=uO h;have hl:=xQ l
 have NY:l.length<=20:=by unfold br at h;simp only[b9,j5]at h;exact h.1
 rw[h3]at hl⊢;refine⟨FR (e.fold_ok h1) o_,fun z hz=>?_⟩;rw[h2];exact e.fold_mem hz
theorem mn {L:Int}:∀{rows:List (List Tr)},(∀r∈rows,aF L r)->eG L rows
 | [],_=>by rw[eG];trivial
 | r::rs,h=>by rw[eG];exact⟨h r s_,mn fun x hx=>h x aat⟩
theorem vm {x:LO}(hs:aF 1048576 x.tr)(he:(x.J1=1\/x.J1=2\/x.J1=3\/x.J1=5\/x.J1=6)->br x.K9=true)(NY:x.K9.length<=20):
  (aO x).J1=x.J1/\(aO x).L5=x.L5/\(aO x).K9.length<=20/\((x.J1=1\/x.J1=2\/x.J1=3\/x.J1=5\/x.J1=6)->br (aO x).K9=true)/\(∀z∈(aO x).K9,z∈x.K9\/∃n,z=⟨0,n,[]⟩)/\aF 1048576 (aO x).tr:=by
 unfold aO;split
 ·rename_i M9;have hl:=xQ x.K9
  have hz:∀z∈lK x.K9,z∈x.K9\/∃n,z=⟨0,n,[]⟩:=by
   cases hx:br x.K9 with
   | true=>exact(jV hx).2
   | false=>rw[wo hx];intro z hz;cases hz
  refine⟨rfl,rfl,g_,fun hk=>(jV (he hk)).1,hz,?_⟩;simp only[LO.tr,aF]at hs⊢;obtain⟨q0,q1,q2,q3,q4⟩:=hs;refine⟨q0,q1,q2,?_,q4⟩;have N8:=nO q3;rw[aw];refine⟨by rw[e7];omega,mn fun r hr=>?_⟩;obtain⟨z,UU,rfl⟩:=n7.1 hr;rcases hz z UU with h|⟨n,rfl⟩
  ·exact bf q3 h
  ·simp[LY.tr,aF,aw]
 ·exact⟨rfl,rfl,NY,he,fun z hz=> .inl hz,hs⟩
theorem PgOk.fold {p:List LO}(h:PgOk p):PgOk (p.map aO):=by
 have ha:=eV p
 have cj:∀{k:Nat} {y:LO},(p.map aO)[k]?=some y->∃x,p[k]?=some x/\y=aO x:=fun{k y} hy=>by
  rw[p6]at hy
  cases hx:p[k]? with
  | none=>rw[hx]at hy;cases hy
  | some x=>rw[hx]at hy;injection hy with hy;exact⟨x,rfl,hy.symm⟩
 have hf:∀{k:Nat} {x:LO},p[k]?=some x->_:=fun{k x} hx=>vm (bf h.small (c9 hx)) (h.line k x hx).2.2.2.2 (h.line k x hx).2.2.2.1;refine⟨by rw[e7];exact h.len,?_,fun k y hy=>?_,fun g y hy h0=>?_⟩
 ·rw[aw];refine⟨by have:=h.len;simp;omega,mn fun r hr=>?_⟩;obtain⟨y,hy,rfl⟩:=n7.1 hr;obtain⟨x,hx,rfl⟩:=n7.1 hy;obtain⟨k,hk,Sw⟩:=List.mem_iff_getElem.1 hx;exact(hf (k:=k) (x:=x) (by rw[i7 hk,Sw])).2.2.2.2.2
 ·obtain⟨x,hx,rfl⟩:=cj hy;obtain⟨f1,f2,f3,f4,_⟩:=hf hx;obtain⟨l1,l2,l3,_⟩:=h.line k x hx;rw[f1,f2];exact⟨l1,l2,l3,f3,f4⟩
 ·obtain⟨x,hx,rfl⟩:=cj hy;obtain⟨f1,f2,_⟩:=hf hx;rw[f1]at h0;obtain⟨e,he,q1,q2,q3⟩:=h.fn g x hx h0;refine⟨e,by rw[ha.endAt];exact he,by rw[ha.localsOf];exact q1,by rw[ha.localsOf,f2];exact q2,fun k y hk1 MN hy=>?_⟩;obtain⟨z,hz,rfl⟩:=cj hy;obtain⟨g1,_,_,_,g5,_⟩:=hf hz;obtain⟨r1,r2,r3⟩:=q3 k z hk1 MN hz;refine⟨by rw[g1];exact r1,fun t ht h7=>?_,fun h4=>?_⟩
  ·rcases g5 t ht with h'|⟨n,rfl⟩
   ·obtain⟨f,RS,SG⟩:=r2 t h' h7;exact⟨f,by rw[ha.findN];exact RS,by rw[ha.argsN];exact SG⟩
   ·exact absurd h7 (show ¬(0:Int)=7 by decide)
  ·rw[g1]at h4;obtain⟨i,i1,i2,i3⟩:=r3 h4;exact⟨i,i1,i2,by rw[ha.elseAt];exact i3⟩
end Go.Proofs.P
namespace Go.Proofs.P
open Go.Sim Tryz
abbrev kz (x:Sc)(lv:List Int):List DC:=[.d (.int .i64 (x.f:Int)),.t (.lst 1 (x.J0.map aa)),.t (.lst 1 (x.J9.map ao)),.d (.int .i64 x.first),.d (.bool x.L2),.d (.lst (if x.L2=true then 0 else 1) (lv.map aa))]
abbrev scV (x:Sc):AV:= .r (.agg [.t (.int .i64 (x.f:Int)),.t (.lst 1 (x.J0.map aa)),.t (.lst 1 (x.J9.map ao)),.t (.int .i64 x.first),.t (.bool x.L2),.opq])
abbrev yn (l:List Int):AV:= .r (.c (.t (.lst 1 (l.map aa))))
abbrev itR (l:List LN):List (List DC):=aK (l.map LN.tr)
abbrev pm (C:Cx)(s:Gs)(d:Int)(i1 i2:Sim.Id):AO:= .box [.t (.lst 4 (C.p.map LO.tr)),.t (.int .i64 C.b.Mn),.t (.int .i64 C.b.Mc),.t (.bool C.b.Mu),.t (.bool C.b.Mr),.t (.bool C.J6),.t (.int .i64 C.I8),.t (.int .i64 s.J3),.t (.int .i64 C.args),.t (.int .i64 d),.own i1,.own i2,.t (.bool s.start)]
abbrev gR (i1 i2:Sim.Id)(C:Cx)(s:Gs)(d:Int)(S:List (List DC)):List (Sim.Id×AO):=[((0,0,0),pm C s d i1 i2),(i1,.dar 7 (itR s.I7) none),(i2,.dar 6 S none)]
abbrev gU:AV:= .r (.c (.ptr (0,0,0) 0))
theorem jO (l:List LN):(itR l).length=l.length:=by rw[itR,iI,e7]
theorem GI (l:List LN)(x:LN):itR (l++[x])=itR l++[x.tr.map .d]:=by simp[itR,aK]
def dN (s:Gs):Prop:=s.I7.length<=68719476736
theorem bN (C:Cx)(s:Gs)(d:Int)(S:List (List DC))(code arg line:Int)(chain:List Int)(h1:dN s)(h2:chain.length<=100):bA prog 197 [gU,tI .i64 code,tI .i64 arg,tI .i64 line,yn chain] (gR (0,0,1) (0,0,2) C s d S) (.tup []) (gR (1,0,1) (0,0,2) C (aC C s d code arg line chain) d S):=by
 refine az hΓ aG func197 rfl d_ rfl rfl ?_;unfold dN at h1;have Mv:=jO s.I7;have MT:(chain.map aa).length=chain.length:=s_;have MM:=ca chain;repeat' ((conv=>whnf);first|apply Wx|apply W6|apply oi|apply fi|intro h|exact Y7|refine e_ rfl ?_)
 all_goals try exact⟨⟨by rw[Mv];(try dsimp only);omega,by rw[Mv];(try dsimp only);omega⟩⟩
 all_goals try exact Q1
 all_goals try exact⟨by simpa using MM⟩
 all_goals(refine⟨?_⟩;(try rw[Mv]at *);rw[aC,GI];congr 1;simp_all[bM,LN.tr])
theorem pA (C:Cx)(hC:CxOk C)(s:Gs)(d:Int)(S:List (List DC))(x:Sc)(i:Int)(store:Bool)(hd:-2000<=d/\d<=2000)(hx:0<=x.first/\x.first<=1000)(hi:-2<=i/\i<=100):bA prog 262 [gU,scV x,tI .i64 i,tB store] (gR (0,0,1) (0,0,2) C s d S) (.tup [.c (.t (.int .i64 (cy C store))),.c (.t (.int .i64 (fq C x d i)))]) (gR (0,0,1) (0,0,2) C s d S):=by
 refine az hΓ aG func262 rfl d_ rfl rfl ?_;obtain⟨a1,a2⟩:=hC.args;repeat' ((conv=>whnf);first|apply Wx|apply W6|apply oi|apply fi|intro h|exact Y7|refine e_ rfl ?_)
 all_goals try exact Q5
 all_goals(refine⟨congrArg (Tr.int _) ?_⟩;(try unfold cy);(try unfold fq Ca ng);(try simp(disch:=omega)only[c6]);simp_all<;>omega)
theorem V39{p:Prop}(h:p:=by
 repeat' ((conv=>whnf);first|apply Wx|apply W6|apply oi|apply fi|intro h|exact Y7|refine e_ rfl ?_)
 refine cg (g1) ?_;repeat' ((conv=>whnf);first|apply Wx|apply W6|apply oi|apply fi|intro h|exact Y7|refine e_ rfl ?_)
 refine cg (g2) ?_
 exact Z6):p:=h
theorem BI (C:Cx)(hC:CxOk C)(s:Gs)(d:Int)(S:List (List DC))(x:Sc)(i line:Int)(h1:dN s)(h2:x.J0.length<=100)(hd:-1000<=d/\d<=1999)(hx:0<=x.first/\x.first<=1000)(hi:-2<=i/\i<=100):bA prog 259 [gU,scV x,tI .i64 i,tI .i64 line] (gR (0,0,1) (0,0,2) C s d S) (.tup []) (gR (1,0,1) (0,0,2) C (Ek C x s d i line) (d+1) S):=by refine az hΓ aG func259 rfl d_ rfl rfl ?_;have g1:=pA C hC s d S x i false o_ hx hi;have g2:=bN C s d S (cy C false) (fq C x d i) line x.J0 h1 h2;exact V39
theorem lr (C:Cx)(hC:CxOk C)(s:Gs)(d:Int)(S:List (List DC))(x:Sc)(i line:Int)(chain:List Int)(h1:dN s)(h2:chain.length<=100)(hd:-1000<=d/\d<=2000)(hx:0<=x.first/\x.first<=1000)(hi:-2<=i/\i<=100):bA prog 245 [gU,scV x,tI .i64 i,tI .i64 line,yn chain] (gR (0,0,1) (0,0,2) C s d S) (.tup []) (gR (1,0,1) (0,0,2) C (fQ C x s d i line chain) (d-1) S):=by refine az hΓ aG func245 rfl d_ rfl rfl ?_;have g1:=pA C hC s d S x i true o_ hx hi;have g2:=bN C s d S (cy C true) (fq C x d i) line chain h1 h2;exact V39
theorem ko (C:Cx)(s:Gs)(d:Int)(S:List (List DC))(v line:Int)(chain:List Int)(h1:dN s)(h2:chain.length<=100)(hd:-1000<=d/\d<=1999):bA prog 242 [gU,tI .i64 v,tI .i64 line,yn chain] (gR (0,0,1) (0,0,2) C s d S) (.tup []) (gR (1,0,1) (0,0,2) C (aC C s d 0 v line chain) (d+1) S):=by
 refine az hΓ aG func242 rfl d_ rfl rfl ?_;have g2:=bN C s d S 0 v line chain h1 h2;repeat' ((conv=>whnf);first|apply Wx|apply W6|apply oi|apply fi|intro h|exact Y7|refine e_ rfl ?_)
 refine cg (g2) ?_;exact Z6
abbrev scH (l:List (Sc×List Int)):List (List DC):=l.map fun y=>kz y.1 y.2
theorem Q17{p:Prop}(h:p:=by exact⟨KW⟩):p:=h
theorem qs (C:Cx)(hC:CxOk C)(s:Gs)(d:Int)(S:List (Sc×List Int))(x:Sc)(lv:List Int)(k:Nat)(last:Bool)(h1:dN s)(h2:x.J0.length<=100)(hd:-1000<=d/\d<=2000)(hS:S.length<=100)(XH:lv.length<=68719476736)(hd p:List Int):
  bA prog 243 [gU,tI .i64 (k:Int),tB last] (gR (0,0,1) (0,0,2) C s d (scH (S++[(x,lv)]))) (.tup []) (gR (1,0,1) (1,0,2) C (be C x k last d ⟨s,hd,p,lv⟩).g (d-1) (scH (S++[(x,(be C x k last d ⟨s,hd,p,lv⟩).lv)]))):=by
 refine az hΓ aG func243 rfl d_ rfl rfl ?_;obtain⟨f,chain,locals,first,outer⟩:=x;have Mv:=jO s.I7;have N8:(scH (S++[(⟨f,chain,locals,first,outer⟩,lv)])).length=S.length+1:=s_;have MI:(scH (S++[(⟨f,chain,locals,first,outer⟩,lv)]))[S.length]?=some (kz ⟨f,chain,locals,first,outer⟩ lv):=s_;have hw:IntKind.i64.wrap (((scH (S++[(⟨f,chain,locals,first,outer⟩,lv)])).length:Int)-1)=(S.length:Int):=by rw[N8,c6 _ o_];omega
 have MM:=ca lv;have Qu:=ca (lv++[(s.I7.length:Int)]);have My:S.length<(scH (S++[(⟨f,chain,locals,first,outer⟩,lv)])).length:=o_;have Oj:(lv.map aa).length=lv.length:=s_;unfold dN at h1
 cases outer with
 | false=>
  cases last with
  | true=>
   have e:be C ⟨f,chain,locals,first,false⟩ k true d ⟨s,hd,p,lv⟩=⟨s,hd,p,lv⟩:=(by simp[be]);rw[e];repeat' ((conv=>whnf);first|apply Wx|apply W6|apply oi|apply fi|intro h|refine⟨S.length,hw,My,?_⟩|refine⟨_,MI,?_⟩|exact Y8|refine e_ rfl ?_)
   all_goals(exfalso;simp_all;done)
  | false=>
   have e:be C ⟨f,chain,locals,first,false⟩ k false d ⟨s,hd,p,lv⟩=⟨aC C s d 10 0 k chain,hd,p,lv++[(s.I7.length:Int)]⟩:=(by simp[be]);rw[e];have g:=bN C s d ((scH (S++[(⟨f,chain,locals,first,false⟩,lv)])).set S.length [.d (.int .i64 (f:Int)),.t (.lst 1 (chain.map aa)),.t (.lst 1 (locals.map ao)),.d (.int .i64 first),.d (.bool false),.d (.lst 1 (lv.map aa++[[.int .i64 ((itR s.I7).length:Int)]]))]) 10 0 k chain h1 h2;repeat' ((conv=>whnf);first|apply Wx|apply W6|refine cg g ?_|apply oi|apply fi|intro h|refine⟨S.length,hw,My,?_⟩|refine⟨_,MI,?_⟩|refine⟨_,(x6 My),?_⟩|exact Y7|refine e_ rfl ?_)
   all_goals try exact⟨MM⟩
   all_goals try exact⟨⟨by rw[Oj];(try dsimp only);simp<;>omega,by rw[Oj];(try dsimp only);simp<;>omega⟩⟩
   all_goals try exact⟨by rw[Mv];first|(simp[aa];done)|simpa [aa]using Qu⟩
   all_goals try exact Q17
   all_goals try exact Q5
   all_goals(refine⟨?_⟩;rw[Mv];simp[List.set_append,aa])
 | true=>
  have g1:=bN C s d (scH (S++[(⟨f,chain,locals,first,true⟩,lv)])) 14 C.args k chain h1 h2;have g2:=bN C s d (scH (S++[(⟨f,chain,locals,first,true⟩,lv)])) 16 (C.args+16*C.I8) k chain h1 h2;obtain⟨a1,a2⟩:=hC.args;obtain⟨a3,a4⟩:=hC.I8;have e2:IntKind.i64.wrap (C.args+IntKind.i64.wrap (16*C.I8))=C.args+16*C.I8:=by simp(disch:=omega)only[c6]
  rw[<-e2]at g2
  cases hf:C.J6 with
  | true=>
   have e:be C ⟨f,chain,locals,first,true⟩ k last d ⟨s,hd,p,lv⟩=⟨aC C s d 14 C.args k chain,hd,p,lv⟩:=(by simp[be,hf]);rw[e];repeat' ((conv=>whnf);first|apply Wx|apply W6|refine cg g1 ?_|apply oi|apply fi|intro h|refine⟨S.length,hw,My,?_⟩|refine⟨_,MI,?_⟩|exact Y8|refine e_ rfl ?_)
   all_goals(exfalso;simp_all;done)
  | false=>
   have e:be C ⟨f,chain,locals,first,true⟩ k last d ⟨s,hd,p,lv⟩=⟨aC C s d 16 (IntKind.i64.wrap (C.args+IntKind.i64.wrap (16*C.I8))) k chain,hd,p,lv⟩:=(by simp[be,hf,e2]);rw[e];repeat' ((conv=>whnf);first|apply Wx|apply W6|refine cg g2 ?_|apply oi|apply fi|intro h|refine⟨S.length,hw,My,?_⟩|refine⟨_,MI,?_⟩|exact Y8|refine e_ rfl ?_)
   all_goals(exfalso;simp_all;done)
abbrev mX (e:Int×Int):List Tr:=[.int .i64 e.1,.int .i64 e.2]
theorem Fr {l:List LN}{j:Nat}{x:LN}(h:l[j]?=some x)(v:Int):bV l (j:Int) v=l.set j ⟨⟨x.J2.I9,v⟩,x.Mh,x.L4,x.Ml,x.Md,x.Mm⟩:=by rw[bV,c7 o_,d7,h]
theorem uA {l:List LN}{j:Nat}{x:LN}(h:l[j]?=some x)(v:Int):itR (bV l (j:Int) v)=(itR l).set j [.d (.int .i64 x.J2.I9),.d (.int .i64 v),.d (.int .i64 x.Mh),.d (.bool x.L4),.d (.lst 1 (x.Ml.map aa)),.d (.int .i64 x.Md),.d (.bool x.Mm)]:=by rw[Fr h];simp[aK,F6,LN.tr]
theorem DG {l:List LN}{j:Nat}{x:LN}(h:l[j]?=some x):(itR l)[j]?=some (x.tr.map .d):=jh (ab h)
theorem pJ (C:Cx)(s:Gs)(d:Int)(S:List (List DC))(E:List (Int×Int))(to:Int)(h1:dN s)(hE:E.length<=100)(hin:∀e∈E,0<=e.2/\e.2<s.I7.length):
  bA prog 241 [gU,.r (.c (.own (0,1,0))),tI .i64 to] (gR (0,0,1) (0,0,2) C s d S++[((0,1,0),.arr false 2 (E.map mX))]) (.tup []) (gR (0,0,1) (0,0,2) C ⟨db s.I7 s.I7.length to E,s.J3,s.start⟩ d S++[((0,1,0),.arr false 2 (E.map mX))]):=by
 refine az hΓ aG func241 rfl d_ rfl rfl ?_;have Vk:(E.map mX).length=E.length:=s_;unfold dN at h1;repeat' ((conv=>whnf);first|apply Wx|apply W6|apply oi|apply fi|intro h|exact Y7|refine e_ rfl ?_)
 conv=>whnf
 refine⟨{k:Nat//k<=E.length},fun q=>⟨[(0,gU),(1,.r (.c (.own (0,1,0)))),(2,tI .i64 to),(6,tI .i64 (q.1:Int))],[((0,0,0),some (pm C s d (0,0,1) (0,0,2))),((0,0,1),some (.dar 7 (itR (db s.I7 s.I7.length to (E.take q.1))) none)),((0,0,2),some (.dar 6 S none)),((0,1,0),some (.arr false 2 (E.map mX)))],[0]⟩,fun q=>E.length-q.1,⟨0,o_⟩,?_,?_⟩
 ·exact Z2
 intro⟨k,hk⟩;dsimp only at hk⊢;have Pc:=wg s.I7.length to (E.take k) s.I7;have Nz:(itR (db s.I7 s.I7.length to (E.take k))).length=s.I7.length:=by rw[jO,Pc]
 by_cases My:k<E.length
 ·obtain⟨e,he⟩:=ae My;obtain⟨i1,i2⟩:=hin e (c9 he);obtain⟨j,hj⟩:=j6 i1;have NM:j<(itR (db s.I7 s.I7.length to (E.take k))).length:=by rw[Nz];omega
  obtain⟨x,hx⟩:=ae (l:=db s.I7 s.I7.length to (E.take k)) (k:=j) (by rw[Pc];omega);have Ne:k<(E.map mX).length:=by rw[Vk];exact My
  have Ng:E.take (k+1)=E.take k++[e]:=by rw[B2,he];rfl
  have S9:=Ae s.I7.length to e (E.take k) s.I7;repeat' ((conv=>whnf);first|apply Wx|apply W6|apply oi|apply fi|intro h|refine⟨k,rfl,Ne,?_⟩|refine⟨mX e,(ab he),?_⟩|refine⟨j,hj,NM,?_⟩|refine⟨_,(DG hx),?_⟩|exact Y5|refine e_ rfl ?_)
  all_goals(conv=>whnf)
  all_goals(refine⟨⟨k+1,o_⟩,?_,KD⟩)
  repeat' ((conv=>whnf);first|apply Wx|apply W6|apply oi|apply fi|intro h|exact Y8|refine e_ rfl ?_)
  all_goals(refine⟨?_⟩;(try rw[Nz]);rw[Ng,S9])
  ·rw[c7 aae,hj,uA hx];rfl
  ·rw[b8 aae]
 ·repeat' ((conv=>whnf);first|apply Wx|apply W6|apply oi|apply fi|intro h|exact Y5|refine e_ rfl ?_)
  all_goals(refine⟨?_⟩;rw[gt o_])
abbrev bT (S:List (Sc×List Int)):List Nat:=S.map fun y=>y.1.f
theorem tz (C:Cx)(hC:CxOk C)(s:Gs)(d:Int)(S:List (Sc×List Int))(g:Nat)(h1:dN s)(hS:1<=S.length/\S.length<=100)(hg:g<C.p.length):
  bA prog 260 [gU,tI .i64 (g:Int)] (gR (0,0,1) (0,0,2) C s d (scH S)) (tB (cL C (bT S) g s.I7.length)) (gR (0,0,1) (0,0,2) C s d (scH S)):=by
 refine az hΓ aG func260 rfl d_ rfl rfl ?_;unfold dN at h1;have Mv:=jO s.I7;have N8:(scH S).length=S.length:=s_;have Pc:(C.p.map LO.tr).length=C.p.length:=s_;have hE:=cU C.p (g:Int) (by have:=hC.len;omega);have Nz:(bT S).length=S.length:=s_;have QM:=hC.len;have hin:=hC.inl
 have NL:-1<=ct C.p (g:Int)/\ct C.p (g:Int)<=60:=by
  rw[cw]
  cases he:endAt C.p g with|none=>simp[cO]|some e=>have:=aN he;obtain⟨_,_,_,_,_,h⟩:=this;simp only[cO];omega
 unfold cL;rw[Nz]
 generalize ct C.p (g:Int)=eg at *
 have Nk:IntKind.i64.wrap (((scH S).length:Int)-1)=(S.length:Int)-1:=by rw[N8,c6 _ o_]
 have NS:IntKind.i64.wrap (eg-(g:Int))=eg-g:=by rw[c6 _ o_]
 repeat' ((conv=>whnf);first|apply Wx|apply W6|apply oi|apply fi|intro h|refine cl hE ?_|exact Y7|refine e_ rfl ?_)
 all_goals try(refine⟨congrArg Tr.bool ?_⟩;(try rw[Nk]at h);(try rw[NS]at h);(try rw[Mv]at h);simp only[j5]at h;symm;simp only[A8,p9];omega)
 conv=>whnf
 refine⟨{k:Nat//k<=S.length/\((bT S).take k).contains g=false},fun q=>⟨[(0,gU),(1,tI .i64 (g:Int)),(5,tI .i64 (q.1:Int))],(gR (0,0,1) (0,0,2) C s d (scH S)).map (fun p=>(p.1,some p.2)),[0]⟩,fun q=>S.length-q.1,⟨0,o_,s_⟩,?_,?_⟩
 ·exact Z2
 rename_i ha hb;rw[Nk]at ha;rw[NS]at hb;rw[Mv]at h;simp only[p9]at ha hb h
 have Nf:∀c:Bool,(decide ((S.length:Int)<=C.b.Mc)&&(decide (eg-(g:Int)<=9)&&(decide (s.I7.length<200)&&!c)))= !c:=fun c=>by
  rw[q9 o_,q9 o_,q9 o_];rfl
 rw[Nf];clear Nf;intro⟨k,hk,MQ⟩;dsimp only at hk MQ⊢;by_cases My:k<S.length
 ·obtain⟨y,hy⟩:=ae My;have UI:(scH S)[k]?=some (kz y.1 y.2):=by simp[hy]
  have Ne:k<(scH S).length:=o_;have Ng:(bT S).take (k+1)=(bT S).take k++[y.1.f]:=by rw[B2,p6,hy];rfl
  have Pz:y.1.f∈bT S:=n7.2 ⟨y,c9 hy,rfl⟩;repeat' ((conv=>whnf);first|apply Wx|apply W6|apply oi|apply fi|intro h|refine⟨k,rfl,Ne,?_⟩|refine⟨_,UI,?_⟩|exact Y5|refine e_ rfl ?_)
  ·refine⟨congrArg Tr.bool ?_⟩;have e:y.1.f=g:=(by have:=B7 h;omega);rw[<-e,D9.2 Pz];rfl
  ·conv=>whnf
   refine⟨⟨k+1,o_,?_⟩,?_,KD⟩
   ·have e:g≠y.1.f:=fun e=>by rw[<-e]at h;simp at h
    rw[Ng,List.contains_eq_any_beq,List.any_append,<-List.contains_eq_any_beq,MQ];simp[e]
   exact Z6
 ·repeat' ((conv=>whnf);first|apply Wx|apply W6|apply oi|apply fi|intro h|exact Y5|refine e_ rfl ?_)
  rw[gt o_]at MQ;exact⟨by rw[MQ];rfl⟩
def yy (C:Cx)(l:List LY):Prop:=∀t∈l,t.J1=7->∃f,findN C.p 0 t.J8=some f/\(argsN C.p f:Int)=t.Mb
structure Rm (C:Cx) (lev n:Nat) (S:Nat) (s:Gs) (d:Int):Prop where
 room:s.I7.length+n*dh lev<=68719476736
 depth:((lev+S:Nat):Int)=C.b.Mc
 low:0<=d
 high:d+(n:Int)+100*(lev:Int)<=1900
def Ll (C:Cx)(lev:Nat):Prop:=∀(e:Ex) (x:Sc) (S:List (Sc×List Int)) (lv:List Int) (k p:Nat) (ln:LO) (s:Gs) (d:Int),e.ok->ScOk C x (bT (S++[(x,lv)]))->C.p[k]?=some ln->kp ln.K9 p e->yy C ln.K9->Rm C lev e.toks.length S.length s d->
 bA prog 244 [gU,tI .i64 (k:Int),tI .i64 (p:Int)] (gR (0,0,1) (0,0,2) C s d (scH (S++[(x,lv)]))) (tI .i64 ((p+e.toks.length:Nat):Int)) (gR (1,0,1) (1,0,2) C (eA C (cK C lev) x (bT (S++[(x,lv)])) k e d s) (d+1) (scH (S++[(x,lv)])))
def HE (C:Cx)(lev:Nat):Prop:=∀(x:Sc) (S:List (Sc×List Int)) (lv:List Int) (k g:Nat) (s:Gs) (d:Int),ScOk C x (bT (S++[(x,lv)]))->k<C.p.length->bS C g->cL C (bT (S++[(x,lv)])) g s.I7.length=true->Rm C lev 1 S.length s (d-argsN C.p g)->
 bA prog 261 [gU,tI .i64 (g:Int),tI .i64 (k:Int),scV x] (gR (0,0,1) (0,0,2) C s d (scH (S++[(x,lv)]))) (.tup []) (gR (1,0,1) (1,0,2) C (cK C lev x (bT (S++[(x,lv)])) k g d s) (d-argsN C.p g+1) (scH (S++[(x,lv)])))
theorem qt {α:Type}[BEq α](l:List α)(s:α):-1<=dG l s/\dG l s<=l.length:=by
 unfold dG
 cases h:iF l 0 s with|none=>simp only[cO];omega|some k=>have:=nz h;simp only[cO];omega
theorem uE {C:Cx}(hC:CxOk C){k:Nat}{ln:LO}(hk:C.p[k]?=some ln):jj ln.K9/\ln.J8.length<=1048576:=by obtain⟨h1,_,_,_,h5⟩:=fO (bf hC.small (c9 hk));exact⟨fun t ht=>by have:=h5 t ht;omega,h1⟩
theorem Aq (p:List LO)(g:Nat):kI p g<=g:=by unfold kI;have h1:=F8 (fun x:LO=>x.J1==0) (p.take g);have h2:=List.length_take_le g p;omega
theorem CM {p:List LO}{i:Nat}{x:LO}(hx:p[i]?=some x):kI p (i+1)=kI p i+if x.J1=0 then 1 else 0:=by
 unfold kI;rw[B2,hx,List.filter_append,c8];by_cases h:x.J1=0
 ·simp[h]
 ·simp[h]
theorem V98{p:Prop}(h:p:=by
 repeat' ((conv=>whnf);first|apply Wx|apply W6|refine cg g1 ?_|apply oi|apply fi|intro h|exact Y9|refine e_ rfl ?_)):p:=h
theorem AM {C:Cx}(hC:CxOk C){lev:Nat}(hR:HE C lev):∀(n:Nat) (e:Ex),e.toks.length<=n->∀(x:Sc) (S:List (Sc×List Int)) (lv:List Int) (k p:Nat) (ln:LO) (s:Gs) (d:Int),e.ok->ScOk C x (bT (S++[(x,lv)]))->C.p[k]?=some ln->kp ln.K9 p e->yy C ln.K9->Rm C lev e.toks.length S.length s d->
  bA prog 244 [gU,tI .i64 (k:Int),tI .i64 (p:Int)] (gR (0,0,1) (0,0,2) C s d (scH (S++[(x,lv)]))) (tI .i64 ((p+e.toks.length:Nat):Int)) (gR (1,0,1) (1,0,2) C (eA C (cK C lev) x (bT (S++[(x,lv)])) k e d s) (d+1) (scH (S++[(x,lv)])))
 | 0,e,hn,_,_,_,_,_,_,_,_,_,_,_,_,_,_=>by have:=e.toks_pos;omega
 | n+1,.node t es,hn,x,S,lv,k,p,ln,s,d,ho,hx,hk,hs,hca,hr=>by
  refine az hΓ aG func244 rfl d_ rfl rfl ?_;obtain⟨PB,N6⟩:=uE hC hk;have MY:=nQ hs;obtain⟨ht,Uh⟩:=oz hs;obtain⟨e1,e2⟩:=xZ ho.1;have M6:es.length=ar t:=ho.2.1;have hA:=lB t (PB t (c9 ht));rw[e1,<-M6]at hA;have QM:=hC.len;have NY:=(hC.line _ _ hk).2.2.2.1;have N8:(scH (S++[(x,lv)])).length=S.length+1:=s_;have MI:(scH (S++[(x,lv)]))[S.length]?=some (kz x lv):=s_;have My:S.length<(scH (S++[(x,lv)])).length:=o_;have NN:=hr.room;have M7:=hr.depth;have hr3:=hr.low;have YD:=hr.high;have hin:=hC.inl;have hw:IntKind.i64.wrap (((scH (S++[(x,lv)])).length:Int)-1)=(S.length:Int):=by rw[N8,c6 _ o_];omega
  have htp:=BE lev;rw[Ex.toks,d5]at hn MY NN YD;rw[eA];repeat' ((conv=>whnf);first|apply Wx|apply W6|apply oi|apply fi|intro h|refine⟨S.length,hw,My,?_⟩|refine⟨_,MI,?_⟩|refine⟨k,ln.tr,rfl,ab hk,?_⟩|refine⟨p,t.tr,rfl,ab ht,?_⟩|refine cl hA ?_|exact Y7|refine e_ rfl ?_)
  conv=>whnf
  refine⟨{j:Nat//j<=es.length},fun q=>⟨[(0,gU),(1,tI .i64 (k:Int)),(2,tI .i64 ((p+1+(au (es.take q.1)).length:Nat):Int)),(9,tI .i64 ((es.length-q.1:Nat):Int)),(7,.r (.c (.ptr (7,0,0) 0))),(8,.r (.c (.ptr (8,0,0) 0)))],
   [(
    (0,0,0),some (pm C (cW C (cK C lev) x (bT (S++[(x,lv)])) k (es.take q.1) d s) (d+q.1) (7,0,1) (7,0,2))),((7,0,1),some (.dar 7 (itR (cW C (cK C lev) x (bT (S++[(x,lv)])) k (es.take q.1) d s).I7) none)),((7,0,2),some (.dar 6 (scH (S++[(x,lv)])) none)),
    ((7,0,0),some (.box [.t (.int .i64 (x.f:Int)),.t (.lst 1 (x.J0.map aa)),.t (.lst 1 (x.J9.map ao)),.t (.int .i64 x.first),.t (.bool x.L2),.opq])),((8,0,0),some (.box (t.tr.map .t)))],[8,7,0]⟩,fun q=>es.length-q.1,⟨0,o_⟩,?_,?_⟩
  ·repeat' ((conv=>whnf);first|apply Wx|apply W6|apply oi|apply fi|intro h|exact Y7|refine e_ rfl ?_)
   ·exact⟨congrArg (Tr.int _) (by rw[c6 _ o_];simp[au])⟩
   ·exact⟨congrArg (Tr.int _) s_⟩
  intro⟨j,hj⟩;dsimp only at hj⊢;have U4:=pi (C:=C) (x:=x) (ins:=bT (S++[(x,lv)])) (line:=k) (lev:=lev) (fun g d s hg hr=>ia hC lev k g d s hx hg hr) (es.take j) d s;have UY:=U4.le;have Yz:=gx es j;obtain⟨s1,SP⟩:∃s1,cW C (cK C lev) x (bT (S++[(x,lv)])) k (es.take j) d s=s1:=⟨_,rfl⟩;rw[SP]at U4 UY⊢;by_cases YW:j<es.length
  ·obtain⟨a,ha⟩:=ae YW;have hta:=lV ha;have ZG:=gx es (j+1);have M4:=oO ha
   have hjt:j<=(au (es.take j)).length:=by
    have:∀(l:List Ex),l.length<=(au l).length:=by
     intro l
     induction l with
     | nil=>simp
     | cons b l ih=>have:=b.toks_pos;rw[au,c8,d5];omega
    have h2:=this (es.take j);rw[l6]at h2;omega
   have hm:=l9 (dh lev) (show(au (es.take j)).length+a.toks.length<=(au es).length+1 by omega);rw[p8]at hm;have hI:=AM hC hR n a o_ x S lv k (p+1+(au (es.take j)).length) ln s1 (d+j) (qU ho.2.2 ha) hx hk (sl Uh ha) hca ⟨o_,M7,o_,o_⟩;have Ng:=wu C (cK C lev) x (bT (S++[(x,lv)])) k d s ha;rw[SP]at Ng;repeat' ((conv=>whnf);first|apply Wx|apply W6|apply oi|apply fi|intro h|exact Y5|refine e_ rfl ?_)
   refine cg (hI) ?_;repeat' ((conv=>whnf);first|apply Wx|apply W6|apply oi|apply fi|intro h|exact Y7|refine e_ rfl ?_)
   conv=>whnf
   refine⟨⟨j+1,o_⟩,?_,KD⟩;repeat' ((conv=>whnf);first|apply Wx|apply W6|apply oi|apply fi|intro h|exact Y7|refine e_ rfl ?_)
   all_goals try exact⟨by dsimp only;rw[Ng]⟩
   all_goals try exact Q17
  ·have S3:j=es.length:=o_;subst S3;rw[G1]at SP UY Yz⊢;have hT:(Ex.node t es).toks.length=(au es).length+1:=(by rw[Ex.toks,d5]);rw[SP]
   have Ni:s1.I7.length+dh lev<=68719476736:=by have:((au es).length+1)*dh lev=(au es).length*dh lev+dh lev:=(by rw[p8];omega);omega
   have NG:x.J0.length<=100:=by have:=hx.J0;rw[show(bT (S++[(x,lv)])).length=S.length+1 by simp]at this;omega
   have PG:dN s1:=(by unfold dN;omega);obtain⟨k1,k2,k3⟩:=Js ho.1;have WP:=PB t (c9 ht)
   have TY:0<=x.first/\x.first<=1000:=by have:=hx.first;rw[show(bT (S++[(x,lv)])).length=S.length+1 by simp]at this;omega
   obtain⟨ee,_,_,_,_,Oj⟩:=hx.endE hC;rcases Ga ho.1 with N1|hk1|QB|TR
   ·have g1:=ko C s1 (d+es.length) (scH (S++[(x,lv)])) t.Mb k x.J0 PG NG o_;have hz:=k1 (.inl N1);unfold ma;rw[c7 N1];exact V98
   ·have g1:=BI C hC s1 (d+es.length) (scH (S++[(x,lv)])) x (dG x.J9 t.J8) k PG NG o_ TY (by have:=qt x.J9 t.J8;omega);have gI:=fH x.J9 t.J8 o_;have hz:=k1 (.inr hk1);unfold ma;rw[b8 o_,c7 hk1]
    generalize dG x.J9 t.J8=ix at *
    repeat' ((conv=>whnf);first|apply Wx|apply W6|refine cg g1 ?_|apply oi|apply fi|intro h|refine cl gI ?_|exact Y9|refine e_ rfl ?_)
   ·obtain⟨f,hf,TK⟩:=hca t (c9 ht) QB;obtain⟨MM,y,hy,Oq,_⟩:=gY hf;have VP:bS C f:=⟨y,hy,Oq⟩;have Qy:=k2 QB;have gF:=dK C.p t.J8 o_;rw[show lQ C.p t.J8=(f:Int) from bR hf]at gF;have g1:=tz C hC s1 (d+es.length) (S++[(x,lv)]) f PG aab MM;unfold ma;rw[b8 o_,b8 o_,c7 QB,hf];dsimp only
    cases SK:cL C (bT (S++[(x,lv)])) f s1.I7.length with
    | true=>
     have g2:=hR x S lv k f s1 (d+es.length) hx (aH hk) VP SK ⟨o_,M7,o_,o_⟩;rw[SK]at g1;rw[c7 rfl]
     repeat' ((conv=>whnf);first|apply Wx|apply W6|refine cg g1 ?_|refine cg g2 ?_|apply oi|apply fi|intro h|refine cl gF ?_|exact Y9|refine e_ rfl ?_)
    | false=>
     rw[SK]at g1;rw[b8 s_];have g2:=bN C s1 (d+es.length) (scH (S++[(x,lv)])) 12 (kI C.p f) k x.J0 PG NG;repeat' ((conv=>whnf);first|apply Wx|apply W6|refine cg g1 ?_|apply oi|apply fi|intro h|refine cl gF ?_|exact Y10|refine e_ rfl ?_)
     conv=>whnf
     refine⟨{i:Nat//i<=f},fun q=>⟨[(0,gU),(1,tI .i64 (k:Int)),(2,tI .i64 ((p+1+(au es).length:Nat):Int)),(10,tI .i64 (f:Int)),(11,tI .i64 (kI C.p q.1:Int)),(12,tI .i64 (q.1:Int)),(7,.r (.c (.ptr (7,0,0) 0))),(8,.r (.c (.ptr (8,0,0) 0)))],
      [(
       (0,0,0),some (pm C s1 (d+es.length) (7,0,1) (7,0,2))),((7,0,1),some (.dar 7 (itR s1.I7) none)),((7,0,2),some (.dar 6 (scH (S++[(x,lv)])) none)),
       ((7,0,0),some (.box [.t (.int .i64 (x.f:Int)),.t (.lst 1 (x.J0.map aa)),.t (.lst 1 (x.J9.map ao)),.t (.int .i64 x.first),.t (.bool x.L2),.opq])),((8,0,0),some (.box (t.tr.map .t)))],[8,7,0]⟩,fun q=>f-q.1,⟨0,o_⟩,?_,?_⟩
     ·exact Z2
     intro⟨i,hi⟩;dsimp only at hi⊢;have N2:=Aq C.p i;by_cases hif:i<f
     ·obtain⟨z,hz⟩:=ae (l:=C.p) (k:=i) o_;have RX:=CM hz;repeat' ((conv=>whnf);first|apply Wx|apply W6|apply oi|apply fi|intro h|refine⟨i,z.tr,rfl,ab hz,?_⟩|exact Y5|refine e_ rfl ?_)
      all_goals(conv=>whnf)
      all_goals(refine⟨⟨i+1,o_⟩,?_,KD⟩)
      repeat' ((conv=>whnf);first|apply Wx|apply W6|apply oi|apply fi|intro h|exact Y8|refine e_ rfl ?_)
      ·rw[c7 aae]at RX;all_goals try exact Q17
      ·rw[b8 aae]at RX;all_goals try exact Q17
     ·have Od:i=f:=o_;subst Od;repeat' ((conv=>whnf);first|apply Wx|apply W6|refine cg g2 ?_|apply oi|apply fi|intro h|exact Y11|refine e_ rfl ?_)
   ·have g1:=bN C s1 (d+es.length) (scH (S++[(x,lv)])) (5+t.J1-2) 0 k x.J0 PG NG;have Ya:IntKind.i64.wrap (IntKind.i64.wrap (5+t.J1)-2)=5+t.J1-2:=(by simp(disch:=omega)only[c6]);rw[<-Ya]at g1;have hz:=k3 TR.1 TR.2;unfold ma;rw[b8 o_,b8 o_,b8 o_,<-Ya];exact V98
def yF (C:Cx)(lev:Nat):Prop:=∀(x:Sc) (S:List (Sc×List Int)) (s:Gs) (d:Int),ScOk C x (bT (S++[(x,[])]))->s.I7.length+(kQ C.p x.f-x.f)*(20*dh lev+3)<=68719476736->((lev+S.length:Nat):Int)=C.b.Mc->0<=d->d+30+100*(lev:Int)<=1900->
 bA prog 198 [gU] (gR (0,0,1) (0,0,2) C s d (scH (S++[(x,[])]))) (.tup []) (gR (1,0,1) (1,0,2) C (bq C (cK C lev) x (bT (S++[(x,[])])) d s).1 d (scH (S++[(x,(bq C (cK C lev) x (bT (S++[(x,[])])) d s).2)])))
theorem jv (S:List (Sc×List Int))(y:Sc×List Int):bT (S++[y])=bT S++[y.1.f]:=s_
theorem II {C:Cx}(hC:CxOk C){lev:Nat}(hL:yF C lev):HE C (lev+1):=by
 intro x S lv k g s d hx hk hg SK hr;refine az hΓ aG func261 rfl d_ rfl rfl ?_;obtain⟨r1,r2,r3,r4⟩:=fN SK;obtain⟨y,hy,Oq⟩:=hg;have QM:=hC.len;have hin:=hC.inl;have Nx:=dx hC ⟨y,hy,Oq⟩;have hA:argsN C.p g=y.L5.length:=by rw[argsN,hy]
 have Za:=iS C.p (g:Int) o_ (fun z hz=>bf hC.small hz);have Nv:=uI hC hx;have Nz:(bT (S++[(x,lv)])).length=S.length+1:=s_;rw[Nz]at Nv r1;have Qr:x.J9.length<=8:=by obtain⟨_,_,_,_,_,h⟩:=hx.endE hC;exact h
 have TY:=hx.first;rw[Nz]at TY;have ha:=hC.args;have NG:=hx.J0;rw[Nz]at NG;obtain⟨q1,q2,q3,q4⟩:=hr;have MM:=ca (x.J0++[(k:Int)]);have Tg:(y.L5.map ao).length=y.L5.length:=s_;have WJ:(x.J9.map ao).length=x.J9.length:=s_;have MT:(x.J0.map aa).length=x.J0.length:=s_;have e1:IntKind.i64.wrap ((x.J9.length:Int)-C.args)=(x.J9.length:Int)-C.args:=by rw[c6 _ o_]
 have e2:IntKind.i64.wrap (x.first+(x.J9.length:Int))=x.first+x.J9.length:=by rw[c6 _ o_]
 repeat' ((conv=>whnf);first|(with_reducible apply W1;fail_if_success (with_reducible show Wo _ _ _ _ (Code.seq (Code.region 3 _ _) _) _ _))|(with_reducible first|apply W2|apply W3|apply W4|apply W5|apply W6|apply W7|apply W8|apply W9)|apply aB|apply oi|apply fi|intro h|refine⟨g,y.tr,rfl,ab hy,?_⟩|exact Y7|refine e_ rfl ?_)
 refine nt Unit (fun _=>⟨[(0,gU),(1,tI .i64 (g:Int)),(2,tI .i64 (k:Int)),(7,.r (.c (.ptr (7,0,0) 0))),(8,tI .i64 (argsN C.p g:Int)),(9,tI .i64 (ck C x))],
  [(
   (0,0,0),some (pm C s d (0,0,1) (0,0,2))),((0,0,1),some (.dar 7 (itR s.I7) none)),((0,0,2),some (.dar 6 (scH (S++[(x,lv)])) none)),
   ((7,0,0),some (.box [.t (.int .i64 (x.f:Int)),.t (.lst 1 (x.J0.map aa)),.t (.lst 1 (x.J9.map ao)),.t (.int .i64 x.first),.t (.bool x.L2),.opq]))],[7,0]⟩) ?_ ?_
 ·repeat' ((conv=>whnf);first|apply Wx|apply W6|apply oi|apply fi|intro h|exact Y7|refine e_ rfl ?_)
  all_goals(conv=>whnf)
  all_goals(refine⟨(),?_⟩)
  repeat' ((conv=>whnf);first|apply Wx|apply W6|apply oi|apply fi|intro h|exact Y7|refine e_ rfl ?_)
  all_goals(refine⟨congrArg (Tr.int _) ?_⟩)
  all_goals try(rw[Tg,hA];done)
  all_goals(unfold ck;rw[WJ])
  all_goals first|(rw[c7 aaj];exact e1)|(rw[b8 (by simp_all)];exact e2)
 intro _;repeat' ((conv=>whnf);first|(with_reducible apply W1;fail_if_success (with_reducible show Wo _ _ _ _ (Code.region 7 _ _) _ _))|(with_reducible first|apply W2|apply W3|apply W4|apply W5|apply W6|apply W7|apply W8|apply W9)|apply aB|apply oi|apply fi|intro h|refine cl Za ?_|exact Y7|refine e_ rfl ?_)
 all_goals try exact Q1
 conv=>whnf
 refine fM ⟨[(0,gU),(1,tI .i64 (g:Int)),(2,tI .i64 (k:Int)),(7,.r (.c (.ptr (7,0,0) 0))),(8,tI .i64 (argsN C.p g:Int)),(9,tI .i64 (ck C x)),(10,.r (.c (.ptr (10,0,0) 0)))],
  [(
   (0,0,0),some (pm C s d (0,0,1) (0,0,2))),((0,0,1),some (.dar 7 (itR s.I7) none)),((0,0,2),some (.dar 6 (scH (S++[(x,lv)])) none)),
   ((7,0,0),some (.box [.t (.int .i64 (x.f:Int)),.t (.lst 1 (x.J0.map aa)),.t (.lst 1 (x.J9.map ao)),.t (.int .i64 x.first),.t (.bool x.L2),.opq])),
   ((10,0,0),some (.box [.t (.int .i64 (g:Int)),.t (.lst 1 ((x.J0++[(k:Int)]).map aa)),.t (.lst 1 ((localsOf C.p (g:Int)).map ao)),.t (.int .i64 (ck C x)),.t (.bool false),.nils 1]))],_⟩ ?_ ?_ rfl ?_
 ·exact⟨.inl rfl,.inl rfl,.inl rfl,.inl rfl,.inl rfl,.inl rfl,.inl rfl,trivial⟩
 ·refine⟨.inr (.inl rfl),.inr (.inl rfl),.inr (.inl rfl),.inr (.inl rfl),.inr (.inr (.inl ⟨_,_,rfl,rfl,.inl rfl,.inr (.inr ⟨_,rfl,?_,?_⟩),.inr (.inr ⟨_,rfl,rfl,?_⟩),.inl rfl,.inl rfl,.inr (.inl ⟨_,_,rfl,rfl⟩),trivial⟩)),trivial⟩
  ·show Tr.lst 1 _=Tr.lst 1 ([]++List.map aa x.J0++[[Tr.int .i64 (k:Int)]]);simp[aa]
  all_goals(intro q hq;simp only[AC.ids,d6,l4,or_false]at hq;subst hq;rfl)
 have Oj:((localsOf C.p (g:Int)).map ao).length=(localsOf C.p (g:Int)).length:=s_;have em:IntKind.i64.wrap (ck C x+(((localsOf C.p (g:Int)).map ao).length:Int))=ck C x+((localsOf C.p (g:Int)).length:Int):=by rw[Oj,c6 _ o_]
 obtain⟨s0,Qf⟩:∃s0:Gs,(⟨s.I7,max s.J3 (ck C x+(localsOf C.p (g:Int)).length),s.start⟩:Gs)=s0:=⟨_,rfl⟩;have z1:s.I7=s0.I7:=by rw[<-Qf]
 have z2:max s.J3 (ck C x+(localsOf C.p (g:Int)).length)=s0.J3:=by rw[<-Qf]
 have z3:s.start=s0.start:=by rw[<-Qf]
 obtain⟨Y,hY⟩:∃Y,cf C x k g=Y:=⟨_,rfl⟩;obtain⟨T1,Xq⟩:∃T1,cD C (cf C x k g) x.J0 k (argsN C.p g) d s0=T1:=⟨_,rfl⟩;repeat' ((conv=>whnf);first|apply Wx|apply W6|apply oi|apply fi|intro h|exact Y7|refine e_ rfl ?_)
 conv=>whnf
 refine⟨{q:Nat×Gs//q.1<=argsN C.p g/\cD C (cf C x k g) x.J0 k q.1 (d-((argsN C.p g-q.1:Nat):Int)) q.2=T1/\q.2.I7.length<=300-q.1},fun q=>⟨[(0,gU),(1,tI .i64 (g:Int)),(2,tI .i64 (k:Int)),(7,.r (.c (.ptr (7,0,0) 0))),(8,tI .i64 (argsN C.p g:Int)),(10,.r (.c (.ptr (10,0,0) 0))),(11,tI .i64 ((q.1.1:Int)-1))],
  [(
   (0,0,0),some (pm C q.1.2 (d-((argsN C.p g-q.1.1:Nat):Int)) (7,0,1) (7,0,2))),((7,0,1),some (.dar 7 (itR q.1.2.I7) none)),((7,0,2),some (.dar 6 (scH (S++[(x,lv)])) none)),
   ((7,0,0),some (.box [.t (.int .i64 (x.f:Int)),.t (.lst 1 (x.J0.map aa)),.t (.lst 1 (x.J9.map ao)),.t (.int .i64 x.first),.t (.bool x.L2),.opq])),
   ((10,0,0),some (.box [.t (.int .i64 (g:Int)),.t (.lst 1 ((x.J0++[(k:Int)]).map aa)),.t (.lst 1 ((localsOf C.p (g:Int)).map ao)),.t (.int .i64 (ck C x)),.t (.bool false),.nils 1]))],[10,7,0]⟩,fun q=>q.1.1,⟨(argsN C.p g,s0),g_,by rw[<-Xq];simp,by dsimp only;rw[<-z1];omega⟩,?_,?_⟩
 ·repeat' ((conv=>whnf);first|apply Wx|apply W6|apply oi|apply fi|intro h|exact Y7|refine e_ rfl ?_)
  all_goals try exact⟨by rw[z1]⟩
  all_goals try exact⟨by rw[z3]⟩
  all_goals try exact⟨congrArg itR z1⟩
  all_goals try exact⟨congrArg (Tr.int _) (by rw[em];exact z2)⟩
  all_goals try exact Q17
 intro⟨⟨m,t⟩,hm,ht,WP⟩;dsimp only at hm ht WP⊢
 cases m with
 | succ m=>
  have g1:=lr C hC t (d-((argsN C.p g-(m+1):Nat):Int)) (scH (S++[(x,lv)])) (cf C x k g) m k x.J0 aav o_ o_ (by show 0<=ck C x/\ck C x<=1000;omega) o_;rw[cD]at ht;rw[show((m+1:Nat):Int)-1=(m:Int) by omega];repeat' ((conv=>whnf);first|apply Wx|apply W6|refine cg g1 ?_|apply oi|apply fi|intro h|exact Y5|refine e_ rfl ?_)
  conv=>whnf
  refine⟨⟨(m,fQ C (cf C x k g) t (d-((argsN C.p g-(m+1):Nat):Int)) m k x.J0),g_,by rw[<-ht];dsimp only;congr 1;omega,by dsimp only;simp only[fQ,aC,c8,d5,i8];omega⟩,?_,KD⟩
  exact Z6
 | zero=>
  have e0:t=T1:=by rw[<-ht];rfl
  subst e0;have ed:d-((argsN C.p g-0:Nat):Int)=d-argsN C.p g:=by rw[y0]
  rw[ed];obtain⟨T2,XG⟩:∃T2,dD C (cf C x k g) x.J0 k (d-argsN C.p g) ((localsOf C.p (g:Int)).length-argsN C.p g) (argsN C.p g) t=T2:=⟨_,rfl⟩;repeat' ((conv=>whnf);first|apply Wx|apply W6|apply oi|apply fi|intro h|exact Y5|refine e_ rfl ?_)
  conv=>whnf
  refine⟨{q:Nat×Gs//q.1<=(localsOf C.p (g:Int)).length/\dD C (cf C x k g) x.J0 k (d-argsN C.p g) ((localsOf C.p (g:Int)).length-q.1) q.1 q.2=T2/\q.2.I7.length<=400-2*((localsOf C.p (g:Int)).length-q.1)},fun q=>⟨[(0,gU),(1,tI .i64 (g:Int)),(2,tI .i64 (k:Int)),(7,.r (.c (.ptr (7,0,0) 0))),(10,.r (.c (.ptr (10,0,0) 0))),(12,tI .i64 (q.1.1:Int))],
   [(
    (0,0,0),some (pm C q.1.2 (d-argsN C.p g) (7,0,1) (7,0,2))),((7,0,1),some (.dar 7 (itR q.1.2.I7) none)),((7,0,2),some (.dar 6 (scH (S++[(x,lv)])) none)),
    ((7,0,0),some (.box [.t (.int .i64 (x.f:Int)),.t (.lst 1 (x.J0.map aa)),.t (.lst 1 (x.J9.map ao)),.t (.int .i64 x.first),.t (.bool x.L2),.opq])),
    ((10,0,0),some (.box [.t (.int .i64 (g:Int)),.t (.lst 1 ((x.J0++[(k:Int)]).map aa)),.t (.lst 1 ((localsOf C.p (g:Int)).map ao)),.t (.int .i64 (ck C x)),.t (.bool false),.nils 1]))],[10,7,0]⟩,fun q=>(localsOf C.p (g:Int)).length-q.1.1,⟨(argsN C.p g,t),g_,XG,g_⟩,?_,?_⟩
  ·exact Z2
  intro⟨⟨i,u⟩,hi,hu,Ui⟩;dsimp only at hi hu Ui⊢;by_cases aao:i<(localsOf C.p (g:Int)).length
  ·obtain⟨c,hc⟩:∃c,(localsOf C.p (g:Int)).length-i=c+1:=⟨(localsOf C.p (g:Int)).length-i-1,o_⟩;rw[hc,dD]at hu;have g1:=ko C u (d-argsN C.p g) (scH (S++[(x,lv)])) 0 k x.J0 aav o_ o_;have g2:=lr C hC (aC C u (d-argsN C.p g) 0 0 k x.J0) (d-argsN C.p g+1) (scH (S++[(x,lv)])) (cf C x k g) i k x.J0 aax o_ o_ (by show 0<=ck C x/\ck C x<=1000;omega) o_;repeat' ((conv=>whnf);first|apply Wx|apply W6|refine cg g1 ?_|refine cg g2 ?_|apply oi|apply fi|intro h|exact Y5|refine e_ rfl ?_)
   conv=>whnf
   refine⟨⟨(i+1,fQ C (cf C x k g) (aC C u (d-argsN C.p g) 0 0 k x.J0) (d-argsN C.p g+1) i k x.J0),g_,by rw[<-hu];dsimp only;rw[show(localsOf C.p (g:Int)).length-(i+1)=c by omega],by dsimp only;simp only[fQ,aC,c8,d5,i8];omega⟩,?_,KD⟩;exact Z6
  ·have Od:i=(localsOf C.p (g:Int)).length:=o_;subst Od;rw[w9,dD]at hu;subst hu;have NQ:fU C x k g d s=u:=(by rw[fU,Qf,Xq,XG]);repeat' ((conv=>whnf);first|(with_reducible apply W1;fail_if_success (with_reducible show Wo _ _ _ _ (Code.seq (Code.region 17 _ _) _) _ _))|(with_reducible first|apply W2|apply W3|apply W4|apply W5|apply W6|apply W7|apply W8|apply W9)|apply aB|apply oi|apply fi|intro h|exact Y5|refine e_ rfl ?_)
   obtain⟨v,hv⟩:∃v,dc C x k (d-argsN C.p g) u=v:=⟨_,rfl⟩;have QO:v.I7.length<=500:=by rw[<-hv,dc];split<;>first|(simp[aC];omega)|omega
   refine nt Unit (fun _=>⟨[(0,gU),(1,tI .i64 (g:Int)),(2,tI .i64 (k:Int)),(7,.r (.c (.ptr (7,0,0) 0))),(10,.r (.c (.ptr (10,0,0) 0)))],
    [(
     (0,0,0),some (pm C v (d-argsN C.p g) (7,0,1) (7,0,2))),((7,0,1),some (.dar 7 (itR v.I7) none)),((7,0,2),some (.dar 6 (scH (S++[(x,lv)])) none)),
     ((10,0,0),some (.box [.t (.int .i64 (g:Int)),.t (.lst 1 ((x.J0++[(k:Int)]).map aa)),.t (.lst 1 ((localsOf C.p (g:Int)).map ao)),.t (.int .i64 (ck C x)),.t (.bool false),.own (10,0,1)])),((10,0,1),some (.arr true 1 []))],[10,7,0]⟩) ?_ ?_
   ·have g3:=bN C u (d-argsN C.p g) (scH (S++[(x,lv)])) 15 0 k x.J0 aav o_;unfold dc at hv
    cases M5:u.start with
    | true=>
     rw[c7 M5]at hv;subst hv;repeat' ((conv=>whnf);first|apply Wx|apply W6|refine cg g3 ?_|apply oi|apply fi|intro h|exact Y7|refine e_ rfl ?_)
     ·conv=>whnf
      refine⟨(),?_⟩;exact Z2
     ·exfalso;simp_all
    | false=>
     rw[b8 (by simp[M5])]at hv;subst hv;repeat' ((conv=>whnf);first|apply Wx|apply W6|refine cg g3 ?_|apply oi|apply fi|intro h|exact Y7|refine e_ rfl ?_)
     ·exfalso;simp_all
     ·conv=>whnf
      refine⟨(),?_⟩;exact Z2
   intro _;have S7:ScOk C (cf C x k g) (bT ((S++[(x,lv)])++[(cf C x k g,[])])):=(by rw[jv];exact jT hC hx k ⟨y,hy,Oq⟩);obtain⟨ye,ye1,ye2,ye3,ye4,_⟩:=S7.endE hC
   have X6:kQ C.p (cf C x k g).f-(cf C x k g).f<=9:=by rw[ye4];have:ct C.p (g:Int)=(ye:Int):=(by rw[cw];exact bR ye1);show ye-g<=9;omega
   have h3:=Cl (n:=lev) o_
   have Xp:=hL (cf C x k g) (S++[(x,lv)]) v (d-argsN C.p g) S7 (by
    have:=A4 X6 (show 20*dh lev+3<=20*8679837+3 by omega)
    omega) (by simp only[c8,d5,i8];omega) q3 o_
   have N8:(scH (S++[(x,lv)])).length=S.length+1:=s_;obtain⟨r,hr⟩:∃r,bq C (cK C lev) (cf C x k g) (bT ((S++[(x,lv)])++[(cf C x k g,[])])) (d-argsN C.p g) v=r:=⟨_,rfl⟩;rw[hr]at Xp;have Uj:(scH ((S++[(x,lv)])++[(cf C x k g,r.2)])).length=S.length+2:=s_;have NS:IntKind.i64.wrap (((scH ((S++[(x,lv)])++[(cf C x k g,r.2)])).length:Int)-1)=((S.length+1:Nat):Int):=(by rw[Uj,c6 _ o_];omega);have Pd:S.length+1<(scH ((S++[(x,lv)])++[(cf C x k g,r.2)])).length:=o_;have RP:(scH ((S++[(x,lv)])++[(cf C x k g,r.2)]))[S.length+1]?=some (kz (cf C x k g) r.2):=s_;have WN:=ca r.2;repeat' ((conv=>whnf);first|(with_reducible apply W1;fail_if_success (with_reducible show Wo _ _ _ _ (Code.region 23 _ _) _ _))|(with_reducible first|apply W2|apply W3|apply W4|apply W5|apply W6|apply W7|apply W8|apply W9)|apply aB|refine cg Xp ?_|apply oi|apply fi|intro h|refine⟨S.length+1,NS,Pd,?_⟩|refine⟨_,RP,?_⟩|exact Y7|refine e_ rfl ?_)
   all_goals try exact⟨⟨by rw[N8];simp<;>omega,by rw[N8];simp<;>omega⟩⟩
   all_goals try exact⟨WN⟩
   all_goals try exact⟨by simp[cf,aa]⟩
   conv=>whnf
   refine fM ⟨[(0,gU),(13,tI .i64 (d-argsN C.p g)),(14,.r (.c (.t (.lst 1 (r.2.map aa)))))],
    [((0,0,0),some (pm C r.1 (d-argsN C.p g) (127,0,1) (127,0,2))),((127,0,1),some (.dar 7 (itR r.1.I7) none)),((127,0,2),some (.dar 6 ((scH ((S++[(x,lv)])++[(cf C x k g,r.2)])).set (S.length+1) ((kz (cf C x k g) r.2).set 5 (.t (.lst 1 (r.2.map aa))))) none))],_⟩ ?_ ?_ rfl ?_
   ·refine⟨.inl rfl,.inl rfl,.inr (.inl ⟨_,_,rfl,rfl,.inr (.inr ⟨_,rfl,rfl,?_⟩)⟩),trivial⟩;intro q hq;simp only[AC.ids,d6,l4,or_false]at hq;subst hq;rfl
   ·exact⟨.inr (.inl rfl),.inr (.inl rfl),.inr (.inr (.inr ⟨_,_,_,_,_,_,_,rfl,RP,d_,rfl,rfl,rfl⟩)),trivial⟩
   have WT:((scH ((S++[(x,lv)])++[(cf C x k g,r.2)])).set (S.length+1) ((kz (cf C x k g) r.2).set 5 (.t (.lst 1 (r.2.map aa))))).length=S.length+2:=(by rw[q7];exact Uj);have Z9:IntKind.i64.wrap ((((scH ((S++[(x,lv)])++[(cf C x k g,r.2)])).set (S.length+1) ((kz (cf C x k g) r.2).set 5 (.t (.lst 1 (r.2.map aa))))).length:Int)-1)=((S.length+1:Nat):Int):=(by rw[WT,c6 _ o_];omega);have TG:S.length+1<=((scH ((S++[(x,lv)])++[(cf C x k g,r.2)])).set (S.length+1) ((kz (cf C x k g) r.2).set 5 (.t (.lst 1 (r.2.map aa))))).length:=o_
   have ML:((scH ((S++[(x,lv)])++[(cf C x k g,r.2)])).set (S.length+1) ((kz (cf C x k g) r.2).set 5 (.t (.lst 1 (r.2.map aa))))).take (S.length+1)=scH (S++[(x,lv)]):=by rw[G4 (d8 _),<-y8,List.take_left' s_]
   have Nm:(r.2.map aa).length=r.2.length:=s_;have PZ:=Gi (lev:=lev) (rep:=cK C lev) (fun line g d s hg hr=>ia hC lev line g d s S7 hg hr) hC S7 (d-argsN C.p g) v;have Un:=np (lev:=lev) (rep:=cK C lev) (fun line g d s hg hr=>ia hC lev line g d s S7 hg hr) hC S7 (d-argsN C.p g) v;rw[hr]at PZ Un;have Yl:=Un.le;obtain⟨Wc,PZ⟩:=PZ;have Sd:=A4 X6 (show 20*dh lev+3<=20*8679837+3 by omega);repeat' ((conv=>whnf);first|apply Wx|apply W6|apply oi|apply fi|intro h|refine⟨S.length+1,Z9,TG,?_⟩|exact Y7|refine e_ rfl ?_)
   conv=>whnf
   refine⟨{i:Nat//i<=r.2.length},fun q=>⟨[(0,gU),(13,tI .i64 (d-argsN C.p g)),(14,.r (.c (.t (.lst 1 (r.2.map aa))))),(15,tI .i64 (q.1:Int))],
    [((0,0,0),some (pm C r.1 (d-argsN C.p g) (127,0,1) (127,0,2))),((127,0,1),some (.dar 7 (itR (patchL r.1.I7 r.1.I7.length (r.2.take q.1))) none)),((127,0,2),some (.dar 6 (scH (S++[(x,lv)])) none))],[127,0]⟩,fun q=>r.2.length-q.1,⟨0,o_⟩,?_,?_⟩
   ·repeat' ((conv=>whnf);first|apply Wx|apply W6|apply oi|apply fi|intro h|exact Y7|refine e_ rfl ?_)
    all_goals first|exact⟨TG⟩|exact⟨ML⟩
   intro⟨i,Zp⟩;dsimp only at Zp⊢;have Pc:=gQ (r.1.I7.length:Int) (r.2.take i) r.1.I7;have Tq:(itR (patchL r.1.I7 r.1.I7.length (r.2.take i))).length=r.1.I7.length:=(by rw[jO,Pc]);by_cases SZ:i<r.2.length
   ·obtain⟨j,hj⟩:=ae SZ;obtain⟨j1,j2⟩:=PZ j (c9 hj);obtain⟨jn,rfl⟩:=j6 j1;have NM:jn<(itR (patchL r.1.I7 r.1.I7.length (r.2.take i))).length:=(by rw[Tq];omega);obtain⟨it,Nt⟩:=ae (l:=patchL r.1.I7 r.1.I7.length (r.2.take i)) (k:=jn) (by rw[Pc];omega);have Ng:r.2.take (i+1)=r.2.take i++[(jn:Int)]:=(by rw[B2,hj];rfl);have S9:=sJ r.1.I7.length (jn:Int) (r.2.take i) r.1.I7;repeat' ((conv=>whnf);first|apply Wx|apply W6|apply oi|apply fi|intro h|refine⟨i,(aa jn),rfl,ab hj,?_⟩|refine⟨jn,rfl,NM,?_⟩|refine⟨_,(DG Nt),?_⟩|exact Y5|refine e_ rfl ?_)
    conv=>whnf
    refine⟨⟨i+1,o_⟩,?_,KD⟩;repeat' ((conv=>whnf);first|apply Wx|apply W6|apply oi|apply fi|intro h|exact Y8|refine e_ rfl ?_)
    all_goals(refine⟨?_⟩;rw[Tq];dsimp only;rw[Ng,S9,uA Nt];rfl)
   ·have Od:i=r.2.length:=o_;subst Od;have Pu:bq C (cK C lev) (cf C x k g) (bT (S++[(x,lv)])++[g]) (d-argsN C.p g) v=r:=(congrArg (fun l=>bq C (cK C lev) (cf C x k g) l (d-argsN C.p g) v) (by simp[cf])).trans hr
    have Nf:cK C (lev+1) x (bT (S++[(x,lv)])) k g d s=⟨patchL r.1.I7 r.1.I7.length r.2,r.1.J3,r.1.start⟩:=by show lT C (bq C (cK C lev)) x (bT (S++[(x,lv)])) k g d s=_;unfold lT;rw[NQ,hv,Pu]
    rw[Nf];rw[G1];repeat' ((conv=>whnf);first|apply Wx|apply W6|apply oi|apply fi|intro h|exact Y5|refine e_ rfl ?_)
    all_goals try exact⟨congrArg (fun z:Gs=>Tr.bool z.start) Nf.symm⟩
    all_goals try exact⟨congrArg (fun z:Gs=>itR z.I7) Nf.symm⟩
    all_goals try exact⟨congrArg (fun z:Gs=>Tr.int .i64 z.J3) Nf.symm⟩
    all_goals try exact Q17
end Go.Proofs.P
