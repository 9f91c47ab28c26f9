import Derived.Test.YtoglejgmjeojoaaGreatGh
set_option maxRecDepth 100000
set_option maxHeartbeats 4000000
namespace Go.Proofs.P
open Go.Sim Tryz
abbrev Le (x:Int×Int):Res:= .tup [.c (.t (.int .i64 x.1)),.c (.t (.int .i64 x.2))]
theorem V37{p:Prop}(h:p:=by
 have:k=0\/k=1:=o_;rcases this with rfl|rfl
 ·exact⟨i0,b0,rfl,rfl,OY,Um,fun h=>by rw[<-hR,dF,c7 h];rfl,fun h=>⟨fun _=>h,fun h2=>o_⟩⟩
 ·exact⟨i1,b1,rfl,rfl,Nj,PN,fun h=>by rw[<-hR,dF,b8 (hk1 o_),c7 h];rfl,fun h=>⟨fun _=>hk1 o_,fun _=>h⟩⟩):p:=h
theorem V99{p:Prop}(h:p:=by
 have O6:k=2:=o_;subst O6;have PD:R=(-1,-1):=by rw[<-hR,dF,b8 (hk1 o_),b8 (MN o_)]
 subst PD
 exact Z1):p:=h
theorem nY (i0 i1:LK)(b0 b1 e:Int)(es:List Int)(OY:0<=b0/\b0<=1000000)(Nj:0<=b1/\b1<=1000000)(Um:i0.I9.length<=1048576)(PN:i1.I9.length<=1048576):Sim.Spec prog 137 [.agg (LW.mk [i0,i1] [b0,b1] es).tr,tvI e] (Le (dF i0 i1 b0 b1 e)):=by
 refine ak hΓ aG func137 rfl d_ rfl ?_;generalize hR:dF i0 i1 b0 b1 e=R;repeat' ((conv=>whnf);first|refine Or.inl ?_|apply oi|apply fi|intro h|exact Y1|refine e_ rfl ?_)
 conv=>whnf
 refine⟨{k:Nat//k<=2/\(1<=k->¬(b0<=e/\e<b0+i0.I9.length))/\(2<=k->¬(b1<=e/\e<b1+i1.I9.length))},fun k=>⟨[(1,tI .i64 e),(2,.r (.c (.ptr (2,0,0) 0))),(9,.r (.c (.t (.lst 2 [i0.tr,i1.tr])))),(10,tI .i64 2),(11,tI .i64 (k.1:Int))],[((2,0,0),some (.box (sW i0 i1 b0 b1 es)))],[2]⟩,fun k=>2-k.1,⟨0,o_,o_,o_⟩,?_,?_⟩
 ·exact Z1
 intro⟨k,hk,hk1,MN⟩;dsimp only;by_cases My:k<2
 ·obtain⟨i,b,hi,hb,Oa,Oj,OG,MQ⟩:∃(i:LK) (b:Int),([i0.tr,i1.tr]:List (List Tr))[k]?=some i.tr/\([aa b0,aa b1]:List (List Tr))[k]?=some (aa b)/\(0<=b/\b<=1000000)/\i.I9.length<=1048576/\
    (b<=e/\e<b+i.I9.length->R=((k:Int),e-b))/\(¬(b<=e/\e<b+i.I9.length)->(1<=k+1->¬(b0<=e/\e<b0+i0.I9.length))/\(2<=k+1->¬(b1<=e/\e<b1+i1.I9.length))):=by
   exact V37
  by_cases hin:b<=e/\e<b+i.I9.length
  ·have PD:=OG hin;have OO:IntKind.i64.wrap (e-b)=e-b:=c6 _ o_;have hB:=ba e b (b+i.I9.length-1);rw[within_iff.2 ⟨hin.1,o_⟩]at hB;subst PD;repeat' ((conv=>whnf);first|refine Or.inl ?_|apply oi|apply fi|intro h|refine⟨k,i.tr,rfl,hi,?_⟩|refine⟨k,aa b,rfl,hb,?_⟩|refine ci hB (ai rfl (ai rfl (ai KW trivial))) ?_|exact Y1|refine e_ rfl ?_)
   all_goals first
    |(exfalso;have h':=f9 h;omega)
    |(refine⟨congrArg (Tr.int _) ?_⟩;rw[OO])
  ·have hB:=ba e b (b+i.I9.length-1)
   have WU:af e b (b+i.I9.length-1)=false:=by cases hw:af e b (b+i.I9.length-1)with|false=>rfl|true=>have:=within_iff.1 hw;exact absurd ⟨this.1,o_⟩ hin
   rw[WU]at hB;repeat' ((conv=>whnf);first|refine Or.inl ?_|apply oi|apply fi|intro h|refine⟨k,i.tr,rfl,hi,?_⟩|refine⟨k,aa b,rfl,hb,?_⟩|refine ci hB (ai rfl (ai rfl (ai KW trivial))) ?_|exact Y1|refine e_ rfl ?_)
   all_goals try exact Q19
   all_goals conv=>whnf
   all_goals refine⟨⟨k+1,o_,MQ hin⟩,?_,KD⟩
   repeat' ((conv=>whnf);first|refine Or.inl ?_|apply oi|apply fi|intro h|exact Y1|refine e_ rfl ?_)
   all_goals exact Q3
 ·exact V99
theorem kT (i0 i1:LK)(b0 b1 e:Int)(es:List Int)(OY:0<=b0/\b0<=1000000)(Nj:0<=b1/\b1<=1000000)(Um:i0.I9.length<=1048576)(PN:i1.I9.length<=1048576):Sim.Spec prog 135 [.agg (LW.mk [i0,i1] [b0,b1] es).tr,tvI e] (Le (dF i0 i1 b0 b1 e)):=by
 refine ak hΓ aG func135 rfl d_ rfl ?_;have h2:([i0.tr,i1.tr]:List (List Tr)).length=2:=rfl;generalize hR:dF i0 i1 b0 b1 e=R;repeat' ((conv=>whnf);first|refine Or.inl ?_|apply oi|apply fi|intro h|exact Y1|refine e_ rfl ?_)
 conv=>whnf
 refine⟨{k:Nat//k<=2/\(1<=k->¬(b0<=e/\e<b0+i0.I9.length))/\(2<=k->¬(b1<=e/\e<b1+i1.I9.length))},fun k=>⟨[(1,tI .i64 e),(2,.r (.c (.ptr (2,0,0) 0))),(6,tI .i64 (k.1:Int))],[((2,0,0),some (.box (sW i0 i1 b0 b1 es)))],[2]⟩,fun k=>2-k.1,⟨0,o_,o_,o_⟩,?_,?_⟩
 ·exact Z1
 intro⟨k,hk,hk1,MN⟩;dsimp only;by_cases My:k<2
 ·obtain⟨i,b,hi,hb,Oa,Oj,OG,MQ⟩:∃(i:LK) (b:Int),([i0.tr,i1.tr]:List (List Tr))[k]?=some i.tr/\([aa b0,aa b1]:List (List Tr))[k]?=some (aa b)/\(0<=b/\b<=1000000)/\i.I9.length<=1048576/\
    (b<=e/\e<b+i.I9.length->R=((k:Int),e-b))/\(¬(b<=e/\e<b+i.I9.length)->(1<=k+1->¬(b0<=e/\e<b0+i0.I9.length))/\(2<=k+1->¬(b1<=e/\e<b1+i1.I9.length))):=by
   exact V37
  by_cases hin:b<=e/\e<b+i.I9.length
  ·have PD:=OG hin;have OO:IntKind.i64.wrap (e-b)=e-b:=c6 _ o_;have S1:IntKind.i64.wrap (b+(i.I9.length:Int))=b+i.I9.length:=c6 _ o_;subst PD;repeat' ((conv=>whnf);first|refine Or.inl ?_|apply oi|apply fi|intro h|refine⟨k,i.tr,rfl,hi,?_⟩|refine⟨k,aa b,rfl,hb,?_⟩|exact Y1|refine e_ rfl ?_)
   all_goals first
    |(exfalso;have h':=f9 h;(try rw[S1]at h');(try rw[h2]at h');omega)
    |(refine⟨congrArg (Tr.int _) ?_⟩;rw[OO])
  ·have S1:IntKind.i64.wrap (b+(i.I9.length:Int))=b+i.I9.length:=c6 _ o_;repeat' ((conv=>whnf);first|refine Or.inl ?_|apply oi|apply fi|intro h|refine⟨k,i.tr,rfl,hi,?_⟩|refine⟨k,aa b,rfl,hb,?_⟩|exact Y1|refine e_ rfl ?_)
   all_goals try(exfalso;first|(have h':=f9 h;rw[h2]at h';omega)|(rename_i a1;have c1:=f0 a1;have c2:=f0 h;rw[S1]at c2;exact hin ⟨c1,c2⟩))
   all_goals conv=>whnf
   all_goals refine⟨⟨k+1,o_,MQ hin⟩,?_,KD⟩
   repeat' ((conv=>whnf);first|refine Or.inl ?_|apply oi|apply fi|intro h|exact Y1|refine e_ rfl ?_)
   all_goals exact Q3
 ·exact V99
theorem mO {s:LW}:(∃i0 i1 b0 b1,s=⟨[i0,i1],[b0,b1],s.L9⟩)\/(ce s=false/\¬(s.Mo.length=2/\s.Mq.length=2)):=by
 obtain⟨im,bs,es⟩:=s
 match im,bs with|[i0,i1],[b0,b1]=>exact .inl ⟨i0,i1,b0,b1,rfl⟩|[],_=>exact .inr ⟨rfl,s_⟩|[_],_=>exact .inr ⟨rfl,s_⟩|_::_::_::_,_=>exact .inr ⟨rfl,s_⟩|[_,_],[]=>exact .inr ⟨rfl,s_⟩|[_,_],[_]=>exact .inr ⟨rfl,s_⟩|[_,_],_::_::_::_=>exact .inr ⟨rfl,s_⟩
theorem uJ (s:LW)(hs:aF 1048576 s.tr):Sim.Spec prog 89 [.agg s.tr] (rB (ce s)):=by
 rcases mO (s:=s)with⟨i0,i1,b0,b1,h⟩|⟨h,hn⟩
 ·rw[h]at hs⊢;exact tR i0 i1 b0 b1 s.L9 hs
 ·rw[h];have l1:(s.Mo.map LK.tr).length=s.Mo.length:=s_;have l2:(s.Mq.map aa).length=s.Mq.length:=s_;refine ak hΓ aG func89 rfl d_ rfl ?_;repeat' ((conv=>whnf);first|refine Or.inl ?_|apply oi|apply fi|intro h|refine ci (ba _ _ _) (ai rfl (ai rfl (ai rfl trivial))) ?_|exact Y1|refine e_ rfl ?_)
  all_goals(exfalso;apply hn;(simp_all)<;>(constructor<;>omega))
theorem Q12{p:Prop}(h:p:=by exfalso;first|(have h':=f9 h;rw[Mv]at h';omega)|(have h':=f0 h;omega)|(simp only[bne,Pe]at h;simp at h;done)):p:=h
theorem tN (i0 i1:LK)(b0 b1:Int)(es:List Int)(hs:aF 1048576 (LW.mk [i0,i1] [b0,b1] es).tr):Sim.Spec prog 65 [.agg (LW.mk [i0,i1] [b0,b1] es).tr] (rB (ew i0 i1 b0 b1 es)):=by
 refine ak hΓ aG func65 rfl d_ rfl ?_;have Mv:(es.map aa).length=es.length:=s_;have hE:=aP es.length 1 6;unfold ew
 cases hw:af es.length 1 6 with
 | false=>exact V52
 | true=>
  rw[hw]at hE;repeat' ((conv=>whnf);first|refine Or.inl ?_|apply oi|apply fi|intro h|refine ci hE (ai KW (ai rfl (ai rfl trivial))) ?_|exact Y1|refine e_ rfl ?_)
  all_goals try exact Q4
  have NB:=hs;simp only[LW.tr,aF]at NB;have TN:=NB.1;have Rx:aF 1048576 i0.tr:=bf TN s_;have Px:aF 1048576 i1.tr:=bf TN s_;have OP:i0.I9.length<=1048576:=by have:=Rx;simp only[LK.tr,aF,aw]at this;omega
  have N5:i1.I9.length<=1048576:=by have:=Px;simp only[LK.tr,aF,aw]at this;omega
  have SL:i0.L8.length<=1048576:=by have:=Rx;simp only[LK.tr,aF]at this;exact bE this.2.1
  have Sb:i1.L8.length<=1048576:=by have:=Px;simp only[LK.tr,aF]at this;exact bE this.2.1
  have M6:es.length<=1048576:=bE NB.2.2.1;rw[m9];generalize hR:(bp i0&&(af b0 1 1000000&&(bp i1&&(af b1 1 1000000&&(!(cT i0 i1 b0 b1)&&es.all fun e=>bx i0 b0 e||bx i1 b1 e)))))=R;conv=>whnf
  refine⟨{k:Nat//k<=2/\(1<=k->bp i0=true/\af b0 1 1000000=true)/\(2<=k->bp i1=true/\af b1 1 1000000=true)},fun k=>⟨[(1,.r (.c (.ptr (1,0,0) 0))),(3,tI .i64 (k.1:Int))],[((1,0,0),some (.box (sW i0 i1 b0 b1 es)))],[1]⟩,fun k=>2-k.1,⟨0,o_,o_,o_⟩,?_,?_⟩
  ·exact Z1
  intro⟨k,hk,hk1,MN⟩;dsimp only;by_cases My:k<2
  ·obtain⟨i,b,hi,hb,VX,Qz,PQ,OG⟩:∃(i:LK) (b:Int),([i0.tr,i1.tr]:List (List Tr))[k]?=some i.tr/\([aa b0,aa b1]:List (List Tr))[k]?=some (aa b)/\aF 1048576 i.tr/\
     (bp i=false->R=false)/\(af b 1 1000000=false->R=false)/\(bp i=true->af b 1 1000000=true->(1<=k+1->bp i0=true/\af b0 1 1000000=true)/\(2<=k+1->bp i1=true/\af b1 1 1000000=true)):=by
    exact V31
   have hI:=wK i VX;have hB:=aP b 1 1000000;exact V4
  ·have O6:k=2:=o_;subst O6;obtain⟨g0,w0⟩:=hk1 o_;obtain⟨g1,w1⟩:=MN o_;have v0:=within_iff.1 w0;have v1:=within_iff.1 w1;rw[g0,g1,w0,w1,m9,m9,m9,m9]at hR;have x0:IntKind.i64.wrap (b1+(i1.I9.length:Int))=b1+i1.I9.length:=c6 _ o_;have x1:IntKind.i64.wrap (b0+(i0.I9.length:Int))=b0+i0.I9.length:=c6 _ o_
   cases ho:cT i0 i1 b0 b1 with
   | true=>exact V15
   | false=>
    rw[ho,F2,m9]at hR
    have MQ:¬(0<i0.I9.length/\0<i1.I9.length/\b0<b1+i1.I9.length/\b1<b0+i0.I9.length):=by exact V106
    have m0:=dX (imageOk_iff.1 g0).2 o_;have m1:=dX (imageOk_iff.1 g1).2 o_;have l0:=(imageOk_iff.1 g0).1;have l1:=(imageOk_iff.1 g1).1;repeat' ((conv=>whnf);first|refine Or.inl ?_|apply oi|apply fi|intro h|refine⟨0,_,rfl,rfl,?_⟩|refine⟨1,_,rfl,rfl,?_⟩|exact Y1|refine e_ rfl ?_)
    all_goals try(
     exfalso;rename_i a1 a2 a3;have c1:=f0 a1;have c2:=f0 a2;have c3:=f0 a3;have c4:=f0 h;rw[x0]at c3;rw[x1]at c4
     exact MQ ⟨o_,o_,c3,c4⟩)
    all_goals(
     conv=>whnf
     refine⟨{j:Nat//j<=es.length/\((es.drop j).all fun e=>bx i0 b0 e||bx i1 b1 e)=R},fun j=>⟨[(1,.r (.c (.ptr (1,0,0) 0))),(6,tI .i64 (j.1:Int))],[((1,0,0),some (.box (sW i0 i1 b0 b1 es)))],[1]⟩,fun j=>es.length-j.1,⟨0,o_,hR⟩,?_,?_⟩
     ·exact Z1
     intro⟨j,hj,hr⟩;dsimp only;by_cases NM:j<es.length
     ·obtain⟨e,he⟩:=ae NM;have Oe:=kT i0 i1 b0 b1 e es o_ o_ OP N5;rw[cF he,E7,<-Dj g0 g1 ho,Do]at hr;by_cases c0:b0<=e/\e<b0+i0.I9.length
      ·have N7:dF i0 i1 b0 b1 e=(0,e-b0):=(by rw[dF,c7 c0]);rw[N7]at Oe hr;rw[c7 rfl]at hr;have hS:=lW i0 (e-b0) SL;have Ra:=mZ i0.L8 (e-b0);dsimp only at hr;rw[nD]at hr
       generalize eO i0.L8 (e-b0)=K at *
       rcases Ra with rfl|⟨q0,q1⟩
       ·rw[show decide ((0:Int)<=-1)=false from rfl,s9,s9]at hr;subst hr;repeat' ((conv=>whnf);first|refine Or.inl ?_|apply oi|apply fi|intro h|refine⟨j,aa e,rfl,ab he,?_⟩|refine ci Oe (ai (ai rfl (ai rfl (ai rfl trivial))) (ai rfl trivial)) ?_|refine⟨0,i0.tr,rfl,rfl,?_⟩|refine ci hS (ai (ai rfl (ai rfl trivial)) (ai rfl trivial)) ?_|exact Y1|refine e_ rfl ?_)
        all_goals(exfalso;first|(have h':=f9 h;rw[Mv]at h';omega)|(simp at h;done)|(have h':=f0 h;omega))
       ·obtain⟨n,rfl⟩:=j6 q0;obtain⟨x,hx⟩:=ae (l:=i0.L8) (k:=n) o_;rw[d7,hx,q9 q0,m9]at hr;dsimp only at hr
        cases Pe:(x.L4==e-b0)with
        | false=>
         rw[Pe,s9]at hr;subst hr;repeat' ((conv=>whnf);first|refine Or.inl ?_|apply oi|apply fi|intro h|refine⟨j,aa e,rfl,ab he,?_⟩|refine ci Oe (ai (ai rfl (ai rfl (ai rfl trivial))) (ai rfl trivial)) ?_|refine⟨0,i0.tr,rfl,rfl,?_⟩|refine ci hS (ai (ai rfl (ai rfl trivial)) (ai rfl trivial)) ?_|refine⟨n,x.tr,rfl,ab hx,?_⟩|exact Y1|refine e_ rfl ?_)
         all_goals(exfalso;first|(have h':=f9 h;rw[Mv]at h';omega)|(have h':=f0 h;omega)|(simp only[bne,Pe]at h;simp at h;done))
        | true=>
         rw[Pe,m9]at hr;repeat' ((conv=>whnf);first|refine Or.inl ?_|apply oi|apply fi|intro h|refine⟨j,aa e,rfl,ab he,?_⟩|refine ci Oe (ai (ai rfl (ai rfl (ai rfl trivial))) (ai rfl trivial)) ?_|refine⟨0,i0.tr,rfl,rfl,?_⟩|refine ci hS (ai (ai rfl (ai rfl trivial)) (ai rfl trivial)) ?_|refine⟨n,x.tr,rfl,ab hx,?_⟩|exact Y1|refine e_ rfl ?_)
         all_goals try exact Q12
         conv=>whnf
         refine⟨⟨j+1,o_,hr⟩,?_,KD⟩;repeat' ((conv=>whnf);first|refine Or.inl ?_|apply oi|apply fi|intro h|exact Y1|refine e_ rfl ?_)
         all_goals exact Q3
      ·by_cases c1:b1<=e/\e<b1+i1.I9.length
       ·have N7:dF i0 i1 b0 b1 e=(1,e-b1):=(by rw[dF,b8 c0,c7 c1]);rw[N7]at Oe hr;rw[b8 s_,c7 rfl]at hr;have hS:=lW i1 (e-b1) Sb;have Ra:=mZ i1.L8 (e-b1);dsimp only at hr;rw[nD]at hr
        generalize eO i1.L8 (e-b1)=K at *
        rcases Ra with rfl|⟨q0,q1⟩
        ·rw[show decide ((0:Int)<=-1)=false from rfl,s9,s9]at hr;subst hr;repeat' ((conv=>whnf);first|refine Or.inl ?_|apply oi|apply fi|intro h|refine⟨j,aa e,rfl,ab he,?_⟩|refine ci Oe (ai (ai rfl (ai rfl (ai rfl trivial))) (ai rfl trivial)) ?_|refine⟨1,i1.tr,rfl,rfl,?_⟩|refine ci hS (ai (ai rfl (ai rfl trivial)) (ai rfl trivial)) ?_|exact Y1|refine e_ rfl ?_)
         all_goals(exfalso;first|(have h':=f9 h;rw[Mv]at h';omega)|(simp at h;done)|(have h':=f0 h;omega))
        ·obtain⟨n,rfl⟩:=j6 q0;obtain⟨x,hx⟩:=ae (l:=i1.L8) (k:=n) o_;rw[d7,hx,q9 q0,m9]at hr;dsimp only at hr
         cases Pe:(x.L4==e-b1)with
         | false=>
          rw[Pe,s9]at hr;subst hr;repeat' ((conv=>whnf);first|refine Or.inl ?_|apply oi|apply fi|intro h|refine⟨j,aa e,rfl,ab he,?_⟩|refine ci Oe (ai (ai rfl (ai rfl (ai rfl trivial))) (ai rfl trivial)) ?_|refine⟨1,i1.tr,rfl,rfl,?_⟩|refine ci hS (ai (ai rfl (ai rfl trivial)) (ai rfl trivial)) ?_|refine⟨n,x.tr,rfl,ab hx,?_⟩|exact Y1|refine e_ rfl ?_)
          all_goals(exfalso;first|(have h':=f9 h;rw[Mv]at h';omega)|(have h':=f0 h;omega)|(simp only[bne,Pe]at h;simp at h;done))
         | true=>
          rw[Pe,m9]at hr;repeat' ((conv=>whnf);first|refine Or.inl ?_|apply oi|apply fi|intro h|refine⟨j,aa e,rfl,ab he,?_⟩|refine ci Oe (ai (ai rfl (ai rfl (ai rfl trivial))) (ai rfl trivial)) ?_|refine⟨1,i1.tr,rfl,rfl,?_⟩|refine ci hS (ai (ai rfl (ai rfl trivial)) (ai rfl trivial)) ?_|refine⟨n,x.tr,rfl,ab hx,?_⟩|exact Y1|refine e_ rfl ?_)
          all_goals try exact Q12
          conv=>whnf
          refine⟨⟨j+1,o_,hr⟩,?_,KD⟩;repeat' ((conv=>whnf);first|refine Or.inl ?_|apply oi|apply fi|intro h|exact Y1|refine e_ rfl ?_)
          all_goals exact Q3
       ·have N7:dF i0 i1 b0 b1 e=(-1,-1):=(by rw[dF,b8 c0,b8 c1]);rw[N7]at Oe hr;rw[b8 s_,b8 s_,s9]at hr;subst hr;repeat' ((conv=>whnf);first|refine Or.inl ?_|apply oi|apply fi|intro h|refine⟨j,aa e,rfl,ab he,?_⟩|refine ci Oe (ai (ai rfl (ai rfl (ai rfl trivial))) (ai rfl trivial)) ?_|exact Y1|refine e_ rfl ?_)
        all_goals(exfalso;first|(have h':=f9 h;rw[Mv]at h';omega)|(simp at h;done))
     ·have MS:es.length<=j:=o_;rw[n9 MS,List.all_nil]at hr;subst hr;repeat' ((conv=>whnf);first|refine Or.inl ?_|apply oi|apply fi|intro h|exact Y1|refine e_ rfl ?_)
      all_goals(exfalso;have h':=f0 h;rw[Mv]at h';omega))
theorem fZ (s:LW)(hs:aF 1048576 s.tr):Sim.Spec prog 65 [.agg s.tr] (rB (ce s)):=by
 rcases mO (s:=s)with⟨i0,i1,b0,b1,h⟩|⟨h,hn⟩
 ·rw[h]at hs⊢;exact tN i0 i1 b0 b1 s.L9 hs
 ·rw[h];have l1:(s.Mo.map LK.tr).length=s.Mo.length:=s_;have l2:(s.Mq.map aa).length=s.Mq.length:=s_;refine ak hΓ aG func65 rfl d_ rfl ?_;repeat' ((conv=>whnf);first|refine Or.inl ?_|apply oi|apply fi|intro h|refine ci (aP _ _ _) (ai rfl (ai rfl (ai rfl trivial))) ?_|exact Y1|refine e_ rfl ?_)
  all_goals(exfalso;apply hn;(simp_all)<;>(constructor<;>omega))
theorem mh {s:LW}(h:ce s=true):∃i0 i1 b0 b1,s=⟨[i0,i1],[b0,b1],s.L9⟩/\(1<=s.L9.length/\s.L9.length<=6)/\(bp i0=true/\1<=b0/\b0<=1000000)/\(bp i1=true/\1<=b1/\b1<=1000000)/\cT i0 i1 b0 b1=false/\∀e∈s.L9,(bx i0 b0 e||bx i1 b1 e)=true:=by
 rcases mO (s:=s)with⟨i0,i1,b0,b1,hs⟩|⟨h',_⟩
 ·refine⟨i0,i1,b0,b1,hs,?_⟩;rw[hs,ce]at h;dsimp only at h;rw[ew,b9,b9,b9,b9,b9,b9,within_iff,within_iff,within_iff,o8,u9]at h;obtain⟨h1,h2,h3,h4,h5,h6,h7⟩:=h;exact⟨o_,⟨h2,h3⟩,⟨h4,h5⟩,h6,h7⟩
 ·rw[h']at h;cases h
def Ld:LP:=⟨0,0,0,[],[],0,0⟩
def Ah (s:LW):LP:=if ce s then⟨s.L9.headD 0,1199,1200,List.replicate 1200 0,[],0,0⟩else Ld
theorem qA (s:LW)(hs:aF 1048576 s.tr):Sim.Spec prog 13 [.agg s.tr] (.tup [.agg ((Ah s).tr.map tM),.c (.t (.bool (ce s)))]):=by
 refine ak hΓ aG func13 rfl d_ rfl ?_;have hS:=fZ s hs;unfold Ah
 cases MA:ce s with
 | false=>
  rw[MA]at hS
  repeat' ((conv=>whnf);first|refine Or.inl ?_|apply oi|apply fi|intro h|refine ci hS (ai (ai rfl (ai rfl (ai rfl trivial))) trivial) ?_|exact Y1|refine e_ rfl ?_)
 | true=>
  rw[MA]at hS;obtain⟨i0,i1,b0,b1,_,⟨hl,_⟩,_⟩:=mh MA
  match he:s.L9,hl with
  | e::es,_=>
   rw[c7 rfl];repeat' ((conv=>whnf);first|refine Or.inl ?_|apply oi|apply fi|intro h|refine ci hS (ai (ai rfl (ai rfl (ai rfl trivial))) trivial) ?_|refine⟨0,aa e,rfl,(by rw[he];rfl),?_⟩|exact Y1|refine e_ rfl ?_)
   all_goals try exact Q4
theorem lP {off:Int}:∀(l:List LV) (k:Nat),cr off l k= -1\/((k:Int)<=cr off l k/\cr off l k<k+l.length)
 | [],k=> .inl (by rw[cr])
 | x::l,k=>by
  rw[cr];split
  ·exact .inr ⟨o_,by simp only[d5];omega⟩
  ·rcases lP l (k+1)with h|h
   ·exact .inl h
   ·exact .inr ⟨o_,by simp only[d5];omega⟩
theorem mN (l:List LV)(off:Int):cP l off= -1\/(jX l=true/\0<=cP l off/\cP l off<l.length):=by
 unfold cP;split
 ·rename_i h;have:=lP (off:=off) l 0;rcases this with h'|h'
  ·exact .inl h'
  ·exact .inr ⟨h,o_,o_⟩
 ·exact .inl rfl
def vo (s:LW)(a:Int):Int×Int:=match s.Mo,s.Mq with
 | [i0,i1],[b0,b1]=>dF i0 i1 b0 b1 a
 | _,_=>(-1,-1)
def fP (v:LZ)(pc sp fp:Int):LZ:=⟨pc,sp,fp,v.Ma.drop (sp-v.J5).toNat⟩
def jS (v:LZ)(r:LV):Option LZ:=
 if r.Mk then(match dl v v.L0,dl v (v.L0+1)with
  | some f,some pc=>some (fP v pc (v.L0+2) f)
  | _,_=>none)
 else(match dl v (v.J5+r.Md)with
  | some pc=>some (fP v pc (v.J5+r.Md+1) v.L0)
  | none=>none)
def iL (rules:List (List LV))(x:Int×Int):Option LV:=
 if x.1<0 then none else match rules[x.1.toNat]? with
  | some rl=>if cP rl x.2<0 then none else rl[(cP rl x.2).toNat]?
  | none=>none
def bC (s:LW)(rules:List (List LV))(v:LZ)(inner:Bool):Option LZ:=
 if ce s=true/\fj v=true/\rules.length=2 then
  (
   match iL rules (vo s (if inner then v.K0 else v.K0-1))with
   | some r=>jS v r
   | none=>none)
 else none
theorem eR {v:LZ}{a x:Int}(h:dl v a=some x):fj v=true/\v.J5<=a/\a<v.J5+v.Ma.length:=by
 unfold dl at h;split at h
 ·rename_i hc;have:=within_iff.1 hc.2;exact⟨hc.1,this.1,o_⟩
 ·cases h
theorem jd (v:LZ)(pc sp fp:Int)(n:Nat)(h:sp-v.J5=n)(hn:n<=v.Ma.length)(hl:v.Ma.length<=1048576):Sim.Spec prog 139 [.agg v.tr,tvI pc,tvI sp,tvI fp] (.r (.agg ((fP v pc sp fp).tr.map tM))):=by
 refine ak hΓ aG func139 rfl d_ rfl ?_;have Mv:(v.Ma.map aa).length=v.Ma.length:=s_;have hw:IntKind.i64.wrap (sp-v.J5)=(n:Int):=by rw[c6 _ o_];exact h
 have Yv:=tJ (fP v pc sp fp) (by simp[fP];omega)
 have hd:(fP v pc sp fp).Ma.map aa=((v.Ma.map aa).take (v.Ma.map aa).length).drop n:=by rw[G1,fP,h,d7,A9]
 repeat' ((conv=>whnf);first|refine aI ?_|apply aB|apply oi|apply fi|intro h|exact Y1|refine e_ rfl ?_)
 conv=>whnf
 refine⟨n,(v.Ma.map aa).length,?_,rfl,o_,d8 _,?_⟩
 ·show(if(((v.Ma.map aa).length:Nat):Int)<IntKind.i64.wrap (sp-v.J5)then(((v.Ma.map aa).length:Nat):Int)else IntKind.i64.wrap (sp-v.J5))=(n:Int);rw[hw,Mv];split<;>omega
 repeat' ((conv=>whnf);first|refine aI ?_|apply aB|apply oi|apply fi|intro h|exact Y1|refine e_ rfl ?_)
 refine Or.inl (vj Yv (And.intro (And.intro rfl (And.intro rfl (And.intro rfl (And.intro (congrArg (Tr.lst 1) hd) trivial)))) trivial) ?_);exact Z1
theorem zS {i0 i1:LK}{b0 b1 a:Int}(OY:1<=b0/\b0<=1000000)(Nj:1<=b1/\b1<=1000000)(Um:i0.I9.length<=1048576)(PN:i1.I9.length<=1048576)(h:a<=0\/3000000<=a):dF i0 i1 b0 b1 a=(-1,-1):=by rw[dF,b8 o_,b8 o_]
theorem oK (i0 i1:LK)(b0 b1 a:Int):dF i0 i1 b0 b1 a=(-1,-1)\/∃(i:Nat) (off:Int),i<2/\dF i0 i1 b0 b1 a=((i:Int),off):=by
 unfold dF;split
 ·exact .inr ⟨0,_,o_,rfl⟩
 ·split
  ·exact .inr ⟨1,_,o_,rfl⟩
  ·exact .inl rfl
def oV (o:Option LZ):LZ:=match o with|some v=>v|none=>⟨0,0,0,[]⟩
theorem ES {α:Type}{l:List α}{i:Nat}(h:l.length=2)(hi:i<2):∃x,l[i]?=some x:=ae o_
theorem Hk {s:LW}{rules:List (List LV)}{v:LZ}{inner:Bool}(h:¬(ce s=true/\fj v=true/\rules.length=2)):bC s rules v inner=none:=by rw[bC,b8 h]
theorem V21{p:Prop}(h:p:=by
 rw[Pt];repeat' ((conv=>whnf);first|refine Or.inl ?_|apply oi|apply fi|intro h|refine ci hS (ai (ai rfl (ai rfl (ai rfl trivial))) trivial) ?_|refine ci hV (ai (ai rfl (ai rfl (ai rfl (ai rfl trivial)))) trivial) ?_|refine ci hL (ai (ai rfl (ai rfl (ai rfl trivial))) (ai rfl trivial)) ?_|exact Y1|refine e_ rfl ?_)
 all_goals(exfalso;first|(simp at h;done)|(rw[Mv,c3]at h;simp at h;done))):p:=h
theorem Q6{p:Prop}(h:p:=by exfalso;first|(simp at h;done)|(rw[Mv,c3]at h;simp at h;done)|(have h':=f0 h;omega)|(rw[Nh]at h;simp at h;done)):p:=h
theorem V1{p:Prop}(h:p:=by
 rw[VT];have Ra:=mN rl off
 generalize cP rl off=K at *
 rcases Ra with rfl|⟨MA,k0,k1⟩
 ·rw[c7 d_];repeat' ((conv=>whnf);first|refine Or.inl ?_|apply oi|apply fi|intro h|refine ci hS (ai (ai rfl (ai rfl (ai rfl trivial))) trivial) ?_|refine ci hV (ai (ai rfl (ai rfl (ai rfl (ai rfl trivial)))) trivial) ?_|refine ci hL (ai (ai rfl (ai rfl (ai rfl trivial))) (ai rfl trivial)) ?_|refine⟨i,(cQ 4 LV.tr rl),rfl,ab N3,?_⟩|refine ci hF (ai rfl (ai rfl trivial)) ?_|exact Y1|refine e_ rfl ?_)
  all_goals(exfalso;first|(simp at h;done)|(rw[Mv,c3]at h;simp at h;done)|(have h':=f0 h;omega))
 ·obtain⟨k,rfl⟩:=j6 k0;obtain⟨r,NO⟩:=ae (l:=rl) (k:=k) o_;rw[b8 o_,d7,NO];dsimp only;have Yn:=kY (v2 0) MA r (c9 NO);unfold qd at Yn;unfold jS
  cases Nh:r.Mk with
  | false=>
   have w1:IntKind.i64.wrap (v.J5+r.Md)=v.J5+r.Md:=c6 _ o_;have hW:=eB v (v.J5+r.Md);rw[b8 s_]
   match hwo:dl v (v.J5+r.Md)with
   | none=>
    rw[hwo]at hW;repeat' ((conv=>whnf);first|refine Or.inl ?_|apply oi|apply fi|intro h|refine ci hS (ai (ai rfl (ai rfl (ai rfl trivial))) trivial) ?_|refine ci hV (ai (ai rfl (ai rfl (ai rfl (ai rfl trivial)))) trivial) ?_|refine ci hL (ai (ai rfl (ai rfl (ai rfl trivial))) (ai rfl trivial)) ?_|refine⟨i,(cQ 4 LV.tr rl),rfl,ab N3,?_⟩|refine ci hF (ai rfl (ai rfl trivial)) ?_|refine⟨k,r.tr,rfl,ab NO,?_⟩|refine ci hW (ai (ai rfl (ai rfl (ai rfl (ai rfl trivial)))) (ai KW trivial)) ?_|exact Y1|refine e_ rfl ?_)
    all_goals try exact Q6
   | some pc=>
    rw[hwo]at hW;have hin:=eR hwo;obtain⟨n,hn⟩:=j6 (show 0<=v.J5+r.Md+1-v.J5 by omega);have hM:=jd v pc (v.J5+r.Md+1) v.L0 n hn o_ SW;repeat' ((conv=>whnf);first|refine Or.inl ?_|apply oi|apply fi|intro h|refine ci hS (ai (ai rfl (ai rfl (ai rfl trivial))) trivial) ?_|refine ci hV (ai (ai rfl (ai rfl (ai rfl (ai rfl trivial)))) trivial) ?_|refine ci hL (ai (ai rfl (ai rfl (ai rfl trivial))) (ai rfl trivial)) ?_|refine⟨i,(cQ 4 LV.tr rl),rfl,ab N3,?_⟩|refine ci hF (ai rfl (ai rfl trivial)) ?_|refine⟨k,r.tr,rfl,ab NO,?_⟩|refine ci hW (ai (ai rfl (ai rfl (ai rfl (ai rfl trivial)))) (ai KW trivial)) ?_|refine ci hM (ai (ai rfl (ai rfl (ai rfl (ai rfl trivial)))) (ai rfl (ai KW (ai rfl trivial)))) ?_|exact Y1|refine e_ rfl ?_)
    all_goals try exact Q6
  | true=>
   rw[c7 rfl];have T9:=eB v v.L0;have Sv:=eB v (IntKind.i64.wrap (v.L0+1))
   match hwo:dl v v.L0 with
   | none=>
    rw[hwo]at T9;generalize dl v (IntKind.i64.wrap (v.L0+1))=Z at Sv;repeat' ((conv=>whnf);first|refine Or.inl ?_|apply oi|apply fi|intro h|refine ci hS (ai (ai rfl (ai rfl (ai rfl trivial))) trivial) ?_|refine ci hV (ai (ai rfl (ai rfl (ai rfl (ai rfl trivial)))) trivial) ?_|refine ci hL (ai (ai rfl (ai rfl (ai rfl trivial))) (ai rfl trivial)) ?_|refine⟨i,(cQ 4 LV.tr rl),rfl,ab N3,?_⟩|refine ci hF (ai rfl (ai rfl trivial)) ?_|refine⟨k,r.tr,rfl,ab NO,?_⟩|refine ci T9 (ai (ai rfl (ai rfl (ai rfl (ai rfl trivial)))) (ai rfl trivial)) ?_|refine ci Sv (ai (ai rfl (ai rfl (ai rfl (ai rfl trivial)))) (ai rfl trivial)) ?_|exact Y1|refine e_ rfl ?_)
    all_goals try exact Q6
   | some f=>
    rw[hwo]at T9;have hin:=eR hwo;have w2:IntKind.i64.wrap (v.L0+1)=v.L0+1:=c6 _ o_;rw[w2]at Sv
    match hwo2:dl v (v.L0+1)with
    | none=>
     rw[hwo2]at Sv;repeat' ((conv=>whnf);first|refine Or.inl ?_|apply oi|apply fi|intro h|refine ci hS (ai (ai rfl (ai rfl (ai rfl trivial))) trivial) ?_|refine ci hV (ai (ai rfl (ai rfl (ai rfl (ai rfl trivial)))) trivial) ?_|refine ci hL (ai (ai rfl (ai rfl (ai rfl trivial))) (ai rfl trivial)) ?_|refine⟨i,(cQ 4 LV.tr rl),rfl,ab N3,?_⟩|refine ci hF (ai rfl (ai rfl trivial)) ?_|refine⟨k,r.tr,rfl,ab NO,?_⟩|refine ci T9 (ai (ai rfl (ai rfl (ai rfl (ai rfl trivial)))) (ai rfl trivial)) ?_|refine ci Sv (ai (ai rfl (ai rfl (ai rfl (ai rfl trivial)))) (ai KW trivial)) ?_|exact Y1|refine e_ rfl ?_)
     all_goals try exact Q6
    | some pc=>
     rw[hwo2]at Sv;have PZ:=eR hwo2;obtain⟨n,hn⟩:=j6 (show 0<=v.L0+2-v.J5 by omega);have hM:=jd v pc (v.L0+2) f n hn o_ SW;repeat' ((conv=>whnf);first|refine Or.inl ?_|apply oi|apply fi|intro h|refine ci hS (ai (ai rfl (ai rfl (ai rfl trivial))) trivial) ?_|refine ci hV (ai (ai rfl (ai rfl (ai rfl (ai rfl trivial)))) trivial) ?_|refine ci hL (ai (ai rfl (ai rfl (ai rfl trivial))) (ai rfl trivial)) ?_|refine⟨i,(cQ 4 LV.tr rl),rfl,ab N3,?_⟩|refine ci hF (ai rfl (ai rfl trivial)) ?_|refine⟨k,r.tr,rfl,ab NO,?_⟩|refine ci T9 (ai (ai rfl (ai rfl (ai rfl (ai rfl trivial)))) (ai rfl trivial)) ?_|refine ci Sv (ai (ai rfl (ai rfl (ai rfl (ai rfl trivial)))) (ai KW trivial)) ?_|refine ci hM (ai (ai rfl (ai rfl (ai rfl (ai rfl trivial)))) (ai rfl (ai KW (ai rfl trivial)))) ?_|exact Y1|refine e_ rfl ?_)
     all_goals try(exfalso;first|(simp at h;done)|(rw[Mv,c3]at h;simp at h;done)|(have h':=f0 h;omega)|(rw[Nh]at h;simp at h;done))):p:=h
theorem V32{p:Prop}(h:p:=by
 repeat' ((conv=>whnf);first|refine Or.inl ?_|apply oi|apply fi|intro h|refine ci hS (ai (ai rfl (ai rfl (ai rfl trivial))) trivial) ?_|refine ci hV (ai (ai rfl (ai rfl (ai rfl (ai rfl trivial)))) trivial) ?_|exact Y1|refine e_ rfl ?_)
 all_goals(exfalso;simp at h;done)):p:=h
theorem qj (s:LW)(rules:List (List LV))(v:LZ)(inner:Bool)(MZ:inI v.K0)(hs:aF 1048576 s.tr)(hr:aw 1048576 (.lst 1 (rules.map (cQ 4 LV.tr))))(hv:aF 1048576 v.tr):Sim.Spec prog 66 [.agg s.tr,tvL 1 (rules.map (cQ 4 LV.tr)),.agg v.tr,tvB inner] (.tup [.agg ((oV (bC s rules v inner)).tr.map tM),.c (.t (.bool (bC s rules v inner).isSome))]):=by
 have hS:=uJ s hs;have hV:=og v;have Nm:=bE hr;have Mv:(rules.map (cQ 4 LV.tr)).length=rules.length:=s_;have SW:v.Ma.length<=1048576:=by have:=hv;simp only[LZ.tr,aF]at this;exact bE this.2.2.2.1
 by_cases hc:ce s=true/\fj v=true/\rules.length=2
 ·obtain⟨c1,c2,c3⟩:=hc;rw[c1]at hS;rw[c2]at hV;obtain⟨i0,i1,b0,b1,PB,⟨e1,e2⟩,⟨g0,p0,p1⟩,⟨g1,q0,q1⟩,_,_⟩:=mh c1;have l0:=(imageOk_iff.1 g0).1;have l1:=(imageOk_iff.1 g1).1;have YN:=viewOk_iff.1 c2
  have hu:bC s rules v inner=(match iL rules (dF i0 i1 b0 b1 (if inner then v.K0 else v.K0-1))with|some r=>jS v r|none=>none):=by rw[bC,c7 ⟨c1,c2,c3⟩,PB,vo]
  obtain⟨im,bs,es⟩:=s;dsimp only at PB;injection PB with h1 h2;subst h1;subst h2;rw[hu]
  cases inner with
  | true=>
   rw[c7 rfl];have hL:=nY i0 i1 b0 b1 v.K0 es o_ o_ o_ o_;refine ak hΓ aG func66 rfl d_ rfl ?_;rcases oK i0 i1 b0 b1 v.K0 with hx|⟨i,off,hi,hx⟩
   ·rw[hx]at hL;have Pt:iL rules (dF i0 i1 b0 b1 v.K0)=none:=(by rw[hx,iL,c7 d_]);exact V21
   ·rw[hx]at hL;obtain⟨rl,N3⟩:=ES c3 hi;have QF:=bf hr (c9 N3);simp only[cQ,aF]at QF;have hF:=lS rl off (bE QF.1)
    have VT:iL rules (dF i0 i1 b0 b1 v.K0)=if cP rl off<0 then none else rl[(cP rl off).toNat]?:=by rw[hx,iL,b8 g_,d7,N3]
    exact V1
  | false=>
   rw[b8 s_]
   have Nx:dF i0 i1 b0 b1 (IntKind.i64.wrap (v.K0-1))=dF i0 i1 b0 b1 (v.K0-1):=by
    obtain⟨d1,d2⟩:=MZ;rcases Int.lt_or_le (-9223372036854775808) v.K0 with hp|hp
    ·rw[c6 _ o_]
    ·have:v.K0= -9223372036854775808:=o_;rw[this,show IntKind.i64.wrap (-9223372036854775808-1)=9223372036854775807 by decide,zS (a:=9223372036854775807) ⟨p0,p1⟩ ⟨q0,q1⟩ o_ o_ (.inr o_),zS ⟨p0,p1⟩ ⟨q0,q1⟩ o_ o_ (.inl o_)]
   have hL:=nY i0 i1 b0 b1 (IntKind.i64.wrap (v.K0-1)) es o_ o_ o_ o_;rw[Nx]at hL;refine ak hΓ aG func66 rfl d_ rfl ?_;rcases oK i0 i1 b0 b1 (v.K0-1)with hx|⟨i,off,hi,hx⟩
   ·rw[hx]at hL;have Pt:iL rules (dF i0 i1 b0 b1 (v.K0-1))=none:=(by rw[hx,iL,c7 d_]);exact V21
   ·rw[hx]at hL;obtain⟨rl,N3⟩:=ES c3 hi;have QF:=bf hr (c9 N3);simp only[cQ,aF]at QF;have hF:=lS rl off (bE QF.1)
    have VT:iL rules (dF i0 i1 b0 b1 (v.K0-1))=if cP rl off<0 then none else rl[(cP rl off).toNat]?:=by rw[hx,iL,b8 g_,d7,N3]
    exact V1
 ·rw[Hk hc];refine ak hΓ aG func66 rfl d_ rfl ?_
  cases Pv:ce s with
  | false=>
   rw[Pv]at hS
   exact V32
  | true=>
   rw[Pv]at hS
   cases VN:fj v with
   | false=>
    rw[VN]at hV
    exact V32
   | true=>
    rw[VN]at hV
    have ME:(((rules.map (cQ 4 LV.tr)).length:Int) !=2)=true:=by rw[Mv,bne_iff_ne];intro h2;exact hc ⟨Pv,VN,o_⟩
    repeat' ((conv=>whnf);first|refine Or.inl ?_|apply oi|apply fi|intro h|refine ci hS (ai (ai rfl (ai rfl (ai rfl trivial))) trivial) ?_|refine ci hV (ai (ai rfl (ai rfl (ai rfl (ai rfl trivial)))) trivial) ?_|exact Y1|refine e_ rfl ?_)
    all_goals(exfalso;first|(simp at h;done)|(rename_i a1;first|(rw[ME]at a1;cases a1)|(rw[ME]at h;cases h)))
def itH:Nat->Int->Int
 | 0,h=>h
 | n+1,h=>itH n (iz h)
theorem lh:∀(n m:Nat) (h:Int),itH (n+m) h=itH m (itH n h)
 | 0,m,h=>by rw[u5,itH]
 | n+1,m,h=>by rw[show n+1+m=(n+m)+1 by omega,itH,itH,lh n m]
abbrev mM:Int:=9007199254740992
def Aff (n:Nat)(a c:Nat):Prop:=∀h:Int,itH n h%mM=((a:Int)*h+c)%mM
theorem V114{p:Prop}(h:p:=by
 unfold IntKind.wrap;simp[IntKind.bits,IntKind.signed]
 split<;>omega):p:=h
theorem BF (x:Int):IntKind.i64.wrap x%mM=x%mM:=by
 have h:IntKind.i64.wrap x%18446744073709551616=x%18446744073709551616:=by exact V114
 have h1:IntKind.i64.wrap x%18446744073709551616%mM=IntKind.i64.wrap x%mM:=E3 _ ⟨2048,rfl⟩;have h2:x%18446744073709551616%mM=x%mM:=E3 _ ⟨2048,rfl⟩;rw[<-h1,<-h2,h]
theorem JJ:Aff 1 6364136223846793005 1442695040888963407:=by intro h;show iz h%mM=_;unfold iz;rw[BF,A5,BF,<-A5,I4];rfl
theorem IM {n a c m b d:Nat}(h1:Aff n a c)(h2:Aff m b d):Aff (n+m) (a*b%9007199254740992) ((b*c+d)%9007199254740992):=by
 intro h;rw[lh,h2,A5,I6,h1,<-I6,<-A5];have e1:(((a*b%9007199254740992:Nat):Int))=((a:Int)*b)%mM:=by rw[Int.natCast_emod,Int.natCast_mul];rfl
 have e2:((((b*c+d)%9007199254740992:Nat):Int))=((b:Int)*c+d)%mM:=by rw[Int.natCast_emod,Int.natCast_add,Int.natCast_mul];rfl
 rw[e1,e2,A5 (((a:Int)*b)%mM*h),I6 (((a:Int)*b)%mM),E3 _ (Int.dvd_refl _),E3 _ (Int.dvd_refl _),<-I6,<-A5];congr 1;rw[Int.mul_add,<-Int.mul_assoc,I4 (b:Int) a,Int.add_assoc]
def Ar:Nat->Nat->Nat->Nat×Nat
 | 0,a,c=>(a,c)
 | k+1,a,c=>Ar k (a*a%9007199254740992) ((a*c+c)%9007199254740992)
theorem EI:∀(k n a c:Nat),Aff n a c->Aff (n*2^k) (Ar k a c).1 (Ar k a c).2
 | 0,n,a,c,h=>by rw[Nat.pow_zero,Nat.mul_one];exact h
 | k+1,n,a,c,h=>by
  rw[Ar,show n*2^(k+1)=(n+n)*2^k by rw[G7,p8,<-Nat.mul_two,Nat.mul_assoc]];exact EI k (n+n) _ _ (IM h h)
theorem Lk:(Ar 51 6364136223846793005 1442695040888963407).1=1/\(Ar 51 6364136223846793005 1442695040888963407).2%2251799813685248=0/\(Ar 51 6364136223846793005 1442695040888963407).2/2251799813685248%2=1:=by decide+kernel
def byW (h:Int):Int:=IntKind.i64.wrap ((BitVec.ofInt IntKind.i64.bits (IntKind.i64.wrap ((BitVec.ofInt IntKind.i64.bits (h.fdiv (2^min (Int.toNat 33) IntKind.i64.bits)) ^^^ BitVec.ofInt IntKind.i64.bits (h.fdiv (2^min (Int.toNat 45) IntKind.i64.bits))).toNat:Int)) &&& BitVec.ofInt IntKind.i64.bits 255).toNat:Int)
def byN (h:Int):Nat:=(h%mM/8589934592%256).toNat ^^^ (h%mM/35184372088832%256).toNat
theorem Ic (x:Int):(BitVec.ofInt 64 x &&& BitVec.ofInt 64 255).toNat=(x%256).toNat:=by have e:(BitVec.ofInt 64 255).toNat=2^8-1:=d_;rw[I3,e,D0,B9];omega
theorem KG (h:Int):byW h=(byN h:Int):=by
 have e33:h.fdiv (2^min (Int.toNat 33) IntKind.i64.bits)=h/8589934592:=by rw[show(2:Int)^min (Int.toNat 33) IntKind.i64.bits=8589934592 from rfl,E2 _ d_]
 have e45:h.fdiv (2^min (Int.toNat 45) IntKind.i64.bits)=h/35184372088832:=by rw[show(2:Int)^min (Int.toNat 45) IntKind.i64.bits=35184372088832 from rfl,E2 _ d_]
 unfold byW;rw[e33,e45];show IntKind.i64.wrap (((BitVec.ofInt 64 (IntKind.i64.wrap ((BitVec.ofInt 64 (h/8589934592) ^^^ BitVec.ofInt 64 (h/35184372088832)).toNat:Int)) &&& BitVec.ofInt 64 255).toNat:Nat):Int)=_;rw[Ic]
 have hw:∀x:Int,IntKind.i64.wrap x%256=x%256:=fun x=>by
  exact V114
 rw[hw,BitVec.toNat_xor,B9,B9]
 have hx:∀a b:Nat,((a ^^^ b:Nat):Int)%256=(((a%256) ^^^ (b%256):Nat):Int):=fun a b=>by
  have:=Nat.xor_mod_two_pow (a:=a) (b:=b) (n:=8);rw[show(2:Nat)^8=256 from rfl]at this;rw[<-this];omega
 rw[hx]
 have h1:((h/8589934592)%((2^64:Nat):Int)).toNat%256=(h%mM/8589934592%256).toNat:=by rw[show((2^64:Nat):Int)=18446744073709551616 from rfl];show _=(h%9007199254740992/8589934592%256).toNat;omega
 have h2:((h/35184372088832)%((2^64:Nat):Int)).toNat%256=(h%mM/35184372088832%256).toNat:=by rw[show((2^64:Nat):Int)=18446744073709551616 from rfl];show _=(h%9007199254740992/35184372088832%256).toNat;omega
 rw[h1,h2,d7]
 have hb:byN h<256:=by unfold byN;exact Nat.xor_lt_two_pow (n:=8) o_ o_
 unfold byN at hb⊢;rw[c6 _ o_]
theorem GJ (h:Int):byN h<256:=by unfold byN;exact Nat.xor_lt_two_pow (n:=8) o_ o_
theorem Jz:∀u:Fin 256,∀lo:Fin 64,∃hi:Fin 4,(u.val ^^^ (lo.val+64*hi.val))%3=2:=by decide+kernel
theorem Lu {B r:Int}(h0:0<=r)(h1:r<2251799813685248):(2251799813685248*B+r)%mM=2251799813685248*(B%4)+r:=by show(2251799813685248*B+r)%9007199254740992=_;omega
theorem FG {h B r:Int}(h0:0<=r)(h1:r<2251799813685248)(he:h%mM=(2251799813685248*B+r)%mM):byN h=(r/8589934592%256).toNat ^^^ ((r/35184372088832%64).toNat+64*(B%4).toNat):=by unfold byN;rw[he,Lu h0 h1];have e1:(2251799813685248*(B%4)+r)/8589934592%256=r/8589934592%256:=o_;have e2:((2251799813685248*(B%4)+r)/35184372088832%256).toNat=(r/35184372088832%64).toNat+64*(B%4).toNat:=o_;rw[e1,e2]
theorem La (A:Int)(w:Nat)(hw:w%2=1)(hi:Nat)(hh:hi<4):∃q:Nat,q<4/\(A+3*(q*w:Nat))%4=(hi:Int):=by
 have h4:w%4=1\/w%4=3:=o_;have hA:((hi:Int)-A)%4=0\/((hi:Int)-A)%4=1\/((hi:Int)-A)%4=2\/((hi:Int)-A)%4=3:=o_;rcases hA with h|h|h|h
 ·exact⟨0,o_,o_⟩
 ·rcases h4 with h4|h4
  ·exact⟨3,o_,o_⟩
  ·exact⟨1,o_,o_⟩
 ·exact⟨2,o_,o_⟩
 ·rcases h4 with h4|h4
  ·exact⟨1,o_,o_⟩
  ·exact⟨3,o_,o_⟩
theorem FD {T v:Nat}(h:Aff T 1 v)(g:Int):itH (3*T) g%mM=(g+3*v)%mM:=by have s1:=h g;have s2:=h (itH T g);have s3:=h (itH T (itH T g));rw[Int.natCast_one,Int.one_mul]at s1 s2 s3;rw[show 3*T=T+(T+T) by omega,lh,lh,s3,A5,s2,<-A5,Int.add_assoc,A5,s1,<-A5];congr 1;omega
theorem yr {T v:Nat}(h:Aff T 1 v):∀(q:Nat) (g:Int),itH (q*(3*T)) g%mM=(g+3*(q*v:Nat))%mM
 | 0,g=>by simp[itH]
 | q+1,g=>by
  have h3:=FD h g;rw[show(q+1)*(3*T)=3*T+q*(3*T) by rw[p8,Nat.one_mul,Nat.add_comm],lh,yr h q,A5,h3,<-A5];congr 1;rw[p8,Nat.one_mul];omega
theorem FN (h:Int)(K:Nat):∃k,K<=k/\byN (itH (6*k) h)%3=2:=by
 obtain⟨d1,d2,d3⟩:=Lk;have VR:=EI 51 1 _ _ JJ;rw[d1,Nat.one_mul]at VR
 generalize(Ar 51 6364136223846793005 1442695040888963407).2=v at *
 have e51:(2:Nat)^51=2*2^50:=by rw[G7,Nat.mul_comm]
 rw[e51]at VR
 generalize(2:Nat)^50=T at *
 obtain⟨w,rfl⟩:∃w:Nat,v=2251799813685248*w:=⟨v/2251799813685248,o_⟩;have Nk:w%2=1:=o_
 generalize hz:itH (6*K) h=z at *
 obtain⟨A,r,hA,r0,r1⟩:∃A r:Int,z=2251799813685248*A+r/\0<=r/\r<2251799813685248:=⟨z/2251799813685248,z%2251799813685248,o_,o_,o_⟩;obtain⟨hi,Xa⟩:=Jz ⟨(r/8589934592%256).toNat,o_⟩ ⟨(r/35184372088832%64).toNat,o_⟩;dsimp only at Xa;obtain⟨q,hq,hqe⟩:=La A w Nk hi.val hi.isLt;refine⟨K+q*T,Nat.le_add_right _ _,?_⟩
 have e6:6*(K+q*T)=6*K+q*(3*(2*T)):=by rw[Nat.mul_add];congr 1;rw[<-Nat.mul_assoc 3 2 T,Nat.mul_left_comm]
 rw[e6,lh,hz];have hs:=yr VR q z
 rw[hA,show(2251799813685248*A+r+3*((q*(2251799813685248*w):Nat):Int))=2251799813685248*(A+3*(q*w:Nat))+r by
  rw[Nat.mul_left_comm];generalize q*w=y
  omega]at hs
 rw[FG r0 r1 (by rw[hA];exact hs),hqe,d7];exact Xa
theorem Ee:∀f:Fin 101,IntKind.i64.wrap (BitVec.ofInt IntKind.i64.bits (f.val:Int) &&& BitVec.ofInt IntKind.i64.bits 1).toNat=(f.val:Int)%2:=d_
theorem qf (f:Nat)(b:LF)(image:Int)(hf:f<=100):Sim.Spec prog 63 [.agg b.tr,tvI (f:Int),tvI image] (rB (sU b image f)):=by
 refine bv hΓ aG func63 rfl d_ rfl ?_;unfold sU;have hm:=Ee ⟨f,o_⟩;dsimp only at hm;repeat' ((conv=>whnf);first|apply Wx|apply W6|apply oi|apply fi|intro h|exact Y7|refine e_ rfl ?_)
 all_goals first|exact⟨by rw[h,hm];rfl⟩|exact⟨by rw[h];rfl⟩
theorem wt:∀{L:List (Nat×List LS)},(∀x∈L,x.2.length<=2500)->(ax L).length<=2500*L.length
 | L,h=>by
  have:=kG h (d8 L.length);rwa [gt (d8 _)]at this
theorem V75{p:Prop}(h:p:=by
 repeat' ((conv=>whnf);first|apply Wx|apply W6|apply oi|apply fi|intro h|refine cl hP ?_|refine cl hB ?_|refine cl gb ?_|exact Y5|refine e_ rfl ?_)):p:=h
theorem Q13{p:Prop}(h:p:=by exact⟨⟨by simp only[i8,d5,Pp]<;>omega,by simp only[i8,d5,Pp]<;>omega⟩⟩):p:=h
theorem iM (p:List LO)(b:LF)(image:Int)(hs:aw 1048576 (.lst 4 (p.map LO.tr))):Sim.Spec prog 12 [tvP p,.agg b.tr,tvI image] (rL 8 ((aM p b image).map LS.tr)):=by
 refine bv hΓ aG func12 rfl d_ rfl ?_;have hP:=dM p hs;have hB:=jC b;have gb:=aP image 0 1;by_cases hc:ah p=true/\aS b=true/\af image 0 1=true
 ·have P1:aM p b image=ax (bX p b image (ay p).length 0 0):=by rw[aM,c7 hc];rfl
  rw[P1];obtain⟨h1,h2,h3⟩:=hc;rw[h1]at hP;rw[h2]at hB;rw[h3]at gb;obtain⟨h6,QM⟩:=fF h1;have gF:=cG p o_;have MM:((ay p).map fun n:Nat=>aa n).length=(ay p).length:=s_;have Qc:=fun x (hx:x∈bX p b image (ay p).length 0 0)=>(ir hs hx).1;repeat' ((conv=>whnf);first|apply Wx|apply W6|apply oi|apply fi|intro h|refine cl hP ?_|refine cl hB ?_|refine cl gb ?_|exact Y7|refine e_ rfl ?_)
  conv=>whnf
  refine⟨Lr p b image,fun q=>⟨[(0,vP p),(2,tI .i64 image),(4,.r (.c (.ptr (4,0,0) 0))),(7,.r (.c (.own (15,0,0)))),(8,tI .i64 q.1.2.1),(9,tI .i64 (q.1.1:Int))],[((15,0,0),some (.arr true 8 ((ax q.1.2.2).map LS.tr))),((4,0,0),some (.box [.t (.int .i64 b.Mn),.t (.int .i64 b.Mc),.t (.bool b.Mu),.t (.bool b.Mr)]))],[15,4]⟩,fun q=>(ay p).length-q.1.1,⟨(0,0,[]),s_,s_,s_,s_⟩,?_,?_⟩
  ·exact Z2
  intro⟨⟨f,at0,acc⟩,hk,ha,M4,hr⟩;dsimp only at hk ha M4 hr⊢;have X1:(ax acc).length<=2500*acc.length:=wt fun x hx=>Qc x (by rw[<-hr];exact d9.2 (.inl hx));by_cases My:f<(ay p).length
  ·obtain⟨n,hn⟩:∃n,(ay p).length-f=n+1:=⟨(ay p).length-f-1,o_⟩;have hi:=qf f b image o_;rw[hn,nW]at hr
   cases hin:sU b image f with
   | false=>
    rw[hin]at hi hr;rw[b8 s_]at hr;repeat' ((conv=>whnf);first|apply Wx|apply W6|apply oi|apply fi|intro h|refine cl gF ?_|refine cl hi ?_|exact Y5|refine e_ rfl ?_)
    conv=>whnf
    refine⟨⟨(f+1,at0,acc),g_,g_,g_,by dsimp only;rw[show(ay p).length-(f+1)=n by omega];exact hr⟩,?_,KD⟩
    exact Z6
   | true=>
    rw[hin]at hi hr;rw[c7 rfl]at hr;have PI:=lb p (f:Int) b hs;obtain⟨f1,f2,f3⟩:=Ka (f:=f) hs h1 h2 My;have NG:=(jc (p:=p) (f:=(f:Int)) (b:=b) hs).2
    generalize aA p (f:Int) b=I at *
    repeat' ((conv=>whnf);first|apply Wx|apply W6|apply oi|apply fi|intro h|refine cl gF ?_|refine cl hi ?_|refine cl PI ?_|exact Y5|refine e_ rfl ?_)
    have Mv:(I.map LN.tr).length=I.length:=s_;have N8:=sM at0 I;have MY:=fun k (h:k<=I.length)=>jG (at0:=at0) h;have Ox:=fV at0 I;have Zj:=fun k x (h:I[k]?=some x)=>gi (at0:=at0) h;have Ux:∀(k:Nat) (x:LN),I[k]?=some x->(ik I at0)[k]?=some (LS.mk (atL (aZ at0 I) k) (cN (aZ at0 I) k x)):=fun k x h=>eS h;have Qu:=dT I at0;have Py:yA at0 I=atL (aZ at0 I) I.length:=rfl;have ye:=IL (l:=I) (at0:=at0)
    generalize aZ at0 I=S at *
    generalize ik I at0=F at *
    generalize yA at0 I=E at *
    conv=>whnf
    refine⟨{k:Nat//k<=I.length},fun k=>⟨[(0,vP p),(2,tI .i64 image),(4,.r (.c (.ptr (4,0,0) 0))),(7,.r (.c (.own (15,0,0)))),(8,tI .i64 (atL S k.1)),(9,tI .i64 (f:Int)),(10,.r (.c (.own (45,0,0)))),(11,.r (.c (.own (46,0,0)))),(12,tI .i64 (k.1:Int))],[((46,0,0),some (.arr true 1 ((S.take k.1).map aa))),((45,0,0),some (.arr true 7 (I.map LN.tr))),((15,0,0),some (.arr true 8 ((ax acc).map LS.tr))),((4,0,0),some (.box [.t (.int .i64 b.Mn),.t (.int .i64 b.Mc),.t (.bool b.Mu),.t (.bool b.Mr)]))],[46,45,15,4]⟩,fun k=>I.length-k.1,⟨0,o_⟩,?_,?_⟩
    ·repeat' ((conv=>whnf);first|apply Wx|apply W6|apply oi|apply fi|intro h|exact Y7|refine e_ rfl ?_)
     all_goals try exact⟨by rw[Ox]⟩
    intro⟨k,hk⟩;dsimp only;have PV:=MY k hk;by_cases Pd:k<I.length
    ·obtain⟨x,hx⟩:=ae Pd;have hz:=gO x.J2.I9;have ho:=ki x.J2.I9;have SP:=Zj k x hx;have hg:S[k]?=some (atL S k):=yN o_;have Pb:k<(I.map LN.tr).length:=o_;have Vj:(I.map LN.tr)[k]?=some x.tr:=ab hx;repeat' ((conv=>whnf);first|apply Wx|apply W6|apply oi|apply fi|intro h|refine⟨k,rfl,Pb,?_⟩|refine⟨_,Vj,?_⟩|refine cl ho ?_|exact Y5|refine e_ rfl ?_)
     all_goals try exact Q1
     conv=>whnf
     refine⟨⟨k+1,o_⟩,?_,KD⟩;repeat' ((conv=>whnf);first|apply Wx|apply W6|apply oi|apply fi|intro h|exact Y8|refine e_ rfl ?_)
     all_goals try exact⟨by rw[dA hg,u4];rfl⟩
     all_goals try exact⟨congrArg (Tr.int .i64) (by rw[SP,c6 _ o_])⟩
    ·have Ne:k=I.length:=o_;subst Ne;have hg:S[I.length]?=some (atL S I.length):=yN o_;repeat' ((conv=>whnf);first|apply Wx|apply W6|apply oi|apply fi|intro h|exact Y5|refine e_ rfl ?_)
     all_goals try exact Q1
     conv=>whnf
     refine⟨{k:Nat//k<=I.length},fun k=>⟨[(0,vP p),(2,tI .i64 image),(4,.r (.c (.ptr (4,0,0) 0))),(7,.r (.c (.own (15,0,0)))),(8,tI .i64 (atL S I.length)),(9,tI .i64 (f:Int)),(10,.r (.c (.own (45,0,0)))),(11,.r (.c (.own (69,0,0)))),(13,tI .i64 (k.1:Int))],[((69,0,0),some (.arr true 1 (S.map aa))),((45,0,0),some (.arr true 7 (I.map LN.tr))),((15,0,0),some (.arr true 8 ((ax acc++F.take k.1).map LS.tr))),((4,0,0),some (.box [.t (.int .i64 b.Mn),.t (.int .i64 b.Mc),.t (.bool b.Mu),.t (.bool b.Mr)]))],[69,45,15,4]⟩,fun k=>I.length-k.1,⟨0,o_⟩,?_,?_⟩
     ·repeat' ((conv=>whnf);first|apply Wx|apply W6|apply oi|apply fi|intro h|exact Y7|refine e_ rfl ?_)
      all_goals try exact⟨by rw[show [[Tr.int .i64 (atL S I.length)]]=[atL S I.length].map aa from rfl,<-u4,<-dA hg,gt o_]⟩
      all_goals try exact⟨s_⟩
     intro⟨k,hk⟩;dsimp only;have Pp:((ax acc++F.take k).map LS.tr).length=(ax acc).length+k:=(by rw[e7,c8,l6];omega);have Vb:(S.map aa).length=I.length+1:=(by rw[e7];exact N8);have mg:∀j,j<=I.length->(S.map aa)[j]?=some (aa (atL S j)):=fun j hj=>by rw[p6,yN o_];rfl
     by_cases Pd:k<I.length
     ·obtain⟨x,hx⟩:=ae Pd;have Qh:=Ux k x hx;have RN:(ax acc++F.take (k+1)).map LS.tr=(ax acc++F.take k).map LS.tr++[(LS.mk (atL S k) (cN S k x)).tr]:=(by rw[dA Qh,<-j9,u4];rfl);have Pb:k<(I.map LN.tr).length:=o_;have Vj:(I.map LN.tr)[k]?=some x.tr:=ab hx;have Nk:IntKind.i64.wrap ((k:Int)+1)=((k+1:Nat):Int):=(by rw[c6 _ o_];rfl);have N1:k<(S.map aa).length:=o_;have hk1:k+1<(S.map aa).length:=o_;have m0:=mg k o_;have m1:=mg (k+1) o_;have b1:=MY (k+1) o_
      cases OS:oE x with
      | true=>
       obtain⟨ja,jb⟩:=f3 x (c9 hx) OS;have hwa:x.J2.J7=((x.J2.J7.toNat:Nat):Int):=(E5 ja).symm;have NV:x.J2.J7.toNat<(S.map aa).length:=o_;have m2:=mg x.J2.J7.toNat o_;have b2:=MY x.J2.J7.toNat o_;have NP:cN S k x=zk x (IntKind.i64.wrap (atL S x.J2.J7.toNat-atL S (k+1))):=(by rw[cN,c7 OS,c6 _ o_]);rw[isJump_iff]at OS;repeat' ((conv=>whnf);first|apply Wx|apply W6|apply oi|apply fi|intro h|refine⟨k,rfl,Pb,?_⟩|refine⟨_,Vj,?_⟩|refine⟨k,rfl,N1,?_⟩|refine⟨k+1,Nk,hk1,?_⟩|refine⟨_,hwa,NV,?_⟩|refine⟨_,m0,?_⟩|refine⟨_,m1,?_⟩|refine⟨_,m2,?_⟩|exact Y10|refine e_ rfl ?_)
       all_goals try exact Q13
       all_goals(
        conv=>whnf
        refine⟨⟨k+1,o_⟩,?_,KD⟩;repeat' ((conv=>whnf);first|apply Wx|apply W6|apply oi|apply fi|intro h|exact Y8|refine e_ rfl ?_)
        all_goals try exact⟨by dsimp only;rw[RN,NP];rfl⟩)
      | false=>
       have NP:cN S k x=x:=(by rw[cN,b8 (by rw[OS];simp)]);have X7:¬(x.J2.I9=10\/x.J2.I9=11):=(by rw[<-isJump_iff,OS];simp);repeat' ((conv=>whnf);first|apply Wx|apply W6|apply oi|apply fi|intro h|refine⟨k,rfl,Pb,?_⟩|refine⟨_,Vj,?_⟩|refine⟨k,rfl,N1,?_⟩|refine⟨_,m0,?_⟩|exact Y10|refine e_ rfl ?_)
       all_goals try exact Q13
       all_goals(
        conv=>whnf
        refine⟨⟨k+1,o_⟩,?_,KD⟩;repeat' ((conv=>whnf);first|apply Wx|apply W6|apply oi|apply fi|intro h|exact Y8|refine e_ rfl ?_)
        all_goals try exact⟨by dsimp only;rw[RN,NP];rfl⟩)
     ·have Ne:k=I.length:=o_;subst Ne;repeat' ((conv=>whnf);first|apply Wx|apply W6|apply oi|apply fi|intro h|exact Y5|refine e_ rfl ?_)
      conv=>whnf
      refine⟨⟨(f+1,E,acc++[(f,F)]),g_,g_,by simp;omega,by dsimp only;rw[j9,show(ay p).length-(f+1)=n by omega];exact hr⟩,?_,KD⟩;repeat' ((conv=>whnf);first|apply Wx|apply W6|apply oi|apply fi|intro h|exact Y8|refine e_ rfl ?_)
      all_goals try exact⟨by rw[Py]⟩
      all_goals try exact⟨by rw[pv,gt o_]⟩
  ·rw[show(ay p).length-f=0 by omega]at hr;have M7:acc=bX p b image (ay p).length 0 0:=(by rw[<-hr];simp[bX]);repeat' ((conv=>whnf);first|apply Wx|apply W6|apply oi|apply fi|intro h|refine cl gF ?_|exact Y5|refine e_ rfl ?_)
   all_goals exact⟨by rw[M7]⟩
 ·have P1:aM p b image=[]:=by rw[aM,b8 hc]
  rw[P1]
  cases h1:ah p with
  | false=>
   rw[h1]at hP
   exact V75
  | true=>
   rw[h1]at hP
   cases h2:aS b with
   | false=>
    rw[h2]at hB
    exact V75
   | true=>
    rw[h2]at hB
    cases h3:af image 0 1 with
    | true=>exact absurd ⟨h1,h2,h3⟩ hc
    | false=>rw[h3]at gb;exact V75
theorem iD (p:List LO)(b:LF)(image:Int)(hs:aw 1048576 (.lst 4 (p.map LO.tr))):Sim.Spec prog 48 [tvP p,.agg b.tr,tvI image] (.r (.agg ((ag p b image).tr.map tM))):=by
 refine bv hΓ aG func48 rfl d_ rfl ?_;have hP:=iM p b image hs;by_cases hc:ah p=true/\aS b=true/\af image 0 1=true
 ·have P1:ag p b image=⟨aj (ax (bX p b image (ay p).length 0 0)),co p 0 (bX p b image (ay p).length 0 0)⟩:=by rw[ag,c7 hc]
  have Ux:aM p b image=ax (bX p b image (ay p).length 0 0):=by rw[aM,c7 hc];rfl
  rw[P1];rw[Ux]at hP;obtain⟨h1,h2,h3⟩:=hc;obtain⟨h6,QM⟩:=fF h1;have Oj:=iG p b image (ay p).length 0 0;have Qc:=fun x (hx:x∈bX p b image (ay p).length 0 0)=>(ir hs hx).1;have TK:=fun{i:Nat} {x:Nat×List LS} {j:Nat} {y:LS} (h:(bX p b image (ay p).length 0 0)[i]?=some x) (hy:x.2[j]?=some y)=>fR hs h1 h2 h hy;have Tw:=fun{i:Nat} {x:Nat×List LS} (h:(bX p b image (ay p).length 0 0)[i]?=some x)=>(jR hs h1 h2 o_ h).2
  generalize bX p b image (ay p).length 0 0=L at *
  repeat' ((conv=>whnf);first|apply Wx|apply W6|apply oi|apply fi|intro h|refine cl hP ?_|exact Y7|refine e_ rfl ?_)
  conv=>whnf
  refine⟨{q:Nat×Nat//q.1<=L.length/\(∀x,L[q.1]?=some x->q.2<x.2.length)/\(q.1=L.length->q.2=0)},fun q=>⟨[(0,vP p),(6,.r (.c (.ptr (6,0,0) 0))),(7,.r (.c (.ptr (7,0,0) 0))),(8,.r (.c (.own (15,0,0)))),(9,tI .i64 (((ax (L.take q.1.1)).length+q.1.2:Nat):Int))],[((6,0,0),some (.box [.t (.str []),.nils 0])),((7,0,0),some (.box [.t (.str (gl L q.1.1 q.1.2)),.own (7,0,1)])),((7,0,1),some (.arr true 3 ((jB p L q.1.1 q.1.2).map LX.tr))),((15,0,0),some (.arr true 8 ((ax L).map LS.tr)))],[15,7,6]⟩,fun q=>(ax L).length+1-((ax (L.take q.1.1)).length+q.1.2),⟨(0,0),g_,by intro x hx;exact(Tw hx).2,fun _=>rfl⟩,?_,?_⟩
  ·repeat' ((conv=>whnf);first|apply Wx|apply W6|apply oi|apply fi|intro h|exact Y7|refine e_ rfl ?_)
   all_goals try exact⟨by rw[Cr];rfl⟩
   all_goals try exact⟨by rw[ur];rfl⟩
  intro⟨⟨i,j⟩,hi,hj,he⟩;dsimp only at hi hj he⊢;by_cases My:i<L.length
  ·obtain⟨x,hx⟩:=ae My;have OS:=hj x hx;obtain⟨y,hy⟩:=ae OS;obtain⟨Yf,Ob⟩:=TK hx hy;have NZ:=BT hx hy;have Ne:=aH NZ;have M4:=wt Qc;have NV:=A6 2500 (show L.length<=6 by omega);have XM:(ax (L.take i)).length+j<((ax L).map LS.tr).length:=(by rw[e7];exact Ne);have X9:((ax L).map LS.tr)[(ax (L.take i)).length+j]?=some y.tr:=ab NZ;have hE:=tU y.L3.J2;have hE5:=sP y.L3.J2;obtain⟨⟨i',j'⟩,q1,q2,q3,q4,q5,q6⟩:=HC (p:=p) (fun{i x} h=>(Tw (i:=i) h).2) hx OS;dsimp only at q1 q2 q3 q4 q5 q6;rw[Fs hx hy]at q5;rw[xR hx]at q6;have MT:=Fm (j:=j) hx;have Z0:=ib (ax (L.take i));have aal:=ib (x.2.take j);have aap:(ax (L.take i)).length<=(ax L).length:=o_;have Zf:(x.2.take j).length<=2500:=(by have:=Qc x (c9 hx);rw[l6];omega);have V0:aj (x.2.take (j+1))=aj (x.2.take j)++bg y.L3.J2:=(by rw[dA hy,aJ,dW]);rw[V0,c8]at q6;have Ox:(co p 0 (L.take i)).length=i:=(by rw[lu,l6];omega);rcases v3 j with rfl|UT
   ·obtain⟨Na,g,ln,RS,SG,Vf,ZH⟩:=Yf.head rfl;have N6:bD p x.1=ln.J8:=(by rw[bD,RS];dsimp only;rw[Vf]);rw[ur];have Yj:aj (x.2.take 0)=[]:=(by simp[aj]);rw[Yj]at q6 MT Ob;rw[i8]at MT Ob
    generalize gl L i 0=C at *
    generalize co p 0 (L.take i)=S0 at *
    generalize bg y.L3.J2=EB at *
    generalize aj (ax (L.take i))=C0 at *
    have OK:IntKind.i64.wrap (((S0.map LX.tr++[[Tr.str ln.J8,Tr.int .i64 y.Me,Tr.int .i64 0]]).length:Int)-1)=(i:Int):=by rw[c8,e7,Ox];simp only[d5,i8];rw[c6 _ o_];omega
    have Nz:i<(S0.map LX.tr++[[Tr.str ln.J8,Tr.int .i64 y.Me,Tr.int .i64 0]]).length:=by rw[c8,e7,Ox];simp
    have WD:(S0.map LX.tr++[[Tr.str ln.J8,Tr.int .i64 y.Me,Tr.int .i64 0]])[i]?=some [Tr.str ln.J8,Tr.int .i64 y.Me,Tr.int .i64 0]:=by rw[m5 (by rw[e7,Ox];exact d8 _),e7,Ox];simp
    have fin:∀(KK:List (List Tr)),KK=(S0.map LX.tr++[[Tr.str ln.J8,Tr.int .i64 y.Me,Tr.int .i64 0]]).set i [Tr.str ln.J8,Tr.int .i64 y.Me,Tr.int .i64 (IntKind.i64.wrap (((C++EB).length:Int)-y.Me))]->KK=(jB p L i' j').map LX.tr:=fun KK h=>by
     rw[h,q6,N6,D6 _ _ (by rw[e7,Ox];exact d8 _),e7,Ox,w9,u4,c8,c6 _ o_];simp only[D2,p7,C5,LX.tr];congr 6<;>(simp only[i8];omega)
    rcases Na with Na|Na
    all_goals(
     repeat' ((conv=>whnf);first|apply Wx|apply W6|apply oi|apply fi|intro h|refine⟨_,rfl,XM,?_⟩|refine⟨_,X9,?_⟩|refine cl hE ?_|refine⟨g,ln.tr,SG,ab Vf,?_⟩|refine⟨_,OK,Nz,?_⟩|refine⟨_,WD,?_⟩|exact Y13|refine e_ rfl ?_)
     all_goals try exact⟨o_⟩
     all_goals try exact⟨⟨by simp only[i8,d5,e7,Ox]<;>omega,by simp only[i8,d5,e7,Ox]<;>omega⟩⟩
     all_goals(
      conv=>whnf
      refine⟨⟨(i',j'),q1,q2,q3⟩,?_,KD⟩;repeat' ((conv=>whnf);first|apply Wx|apply W6|apply oi|apply fi|intro h|exact Y8|refine e_ rfl ?_)
      all_goals try exact⟨by rw[q5]⟩
      all_goals try exact⟨fin _ rfl⟩
      all_goals exact⟨congrArg (Tr.int _) (by dsimp only;rw[c6 _ o_];omega)⟩))
   ·obtain⟨j,rfl⟩:∃j0,j=j0+1:=⟨j-1,o_⟩;obtain⟨Na,m,ln,SG,Vf,ZH⟩:=Yf.body UT;rw[xR hx]
    generalize gl L i (j+1)=C at *
    generalize co p 0 (L.take i)=S0 at *
    generalize bg y.L3.J2=EB at *
    generalize aj (ax (L.take i))=C0 at *
    generalize aj (x.2.take (j+1))=C1 at *
    have OK:IntKind.i64.wrap ((((S0++[(⟨bD p x.1,(C0.length:Int),(C1.length:Int)⟩:LX)]).map LX.tr).length:Int)-1)=(i:Int):=by rw[e7,c8,Ox];simp only[d5,i8];rw[c6 _ o_];omega
    have Nz:i<((S0++[(⟨bD p x.1,(C0.length:Int),(C1.length:Int)⟩:LX)]).map LX.tr).length:=by rw[e7,c8,Ox];simp
    have WD:((S0++[(⟨bD p x.1,(C0.length:Int),(C1.length:Int)⟩:LX)]).map LX.tr)[i]?=some [Tr.str (bD p x.1),Tr.int .i64 (C0.length:Int),Tr.int .i64 (C1.length:Int)]:=by rw[p6,m5 (by rw[Ox];exact d8 _),Ox];simp[LX.tr]
    have fin:∀(KK:List (List Tr)),KK=((S0++[(⟨bD p x.1,(C0.length:Int),(C1.length:Int)⟩:LX)]).map LX.tr).set i [Tr.str (bD p x.1),Tr.int .i64 (C0.length:Int),Tr.int .i64 (IntKind.i64.wrap (((C++EB).length:Int)-(C0.length:Int)))]->KK=(jB p L i' j').map LX.tr:=fun KK h=>by
     rw[h,q6,u4,D6 _ _ (by rw[e7,Ox];exact d8 _),e7,Ox,w9,u4,c8,c6 _ o_];simp only[D2,p7,C5,LX.tr];congr 6;omega
    repeat' ((conv=>whnf);first|apply Wx|apply W6|apply oi|apply fi|intro h|refine⟨_,rfl,XM,?_⟩|refine⟨_,X9,?_⟩|refine cl hE ?_|refine⟨m,ln.tr,SG,ab Vf,?_⟩|refine⟨_,OK,Nz,?_⟩|refine⟨_,WD,?_⟩|exact Y13|refine e_ rfl ?_)
    all_goals try exact⟨o_⟩
    all_goals(
     conv=>whnf
     refine⟨⟨(i',j'),q1,q2,q3⟩,?_,KD⟩;repeat' ((conv=>whnf);first|apply Wx|apply W6|apply oi|apply fi|intro h|exact Y8|refine e_ rfl ?_)
     all_goals try exact⟨by rw[q5]⟩
     all_goals try exact⟨fin _ rfl⟩
     all_goals exact⟨congrArg (Tr.int _) (by dsimp only;rw[c6 _ o_];omega)⟩)
  ·have Nz:i=L.length:=o_;subst Nz;have UT:=he rfl;subst UT;rw[Fl,Gc,gt (d8 _)];repeat' ((conv=>whnf);first|apply Wx|apply W6|apply oi|apply fi|intro h|exact Y7|refine e_ rfl ?_)
   all_goals try(exfalso;simp only[e7,j5]at h;omega)
 ·have P1:ag p b image=⟨[],[]⟩:=by rw[ag,b8 hc]
  have Ux:aM p b image=[]:=by rw[aM,b8 hc]
  rw[P1];rw[Ux]at hP;repeat' ((conv=>whnf);first|apply Wx|apply W6|apply oi|apply fi|intro h|refine cl hP ?_|exact Y7|refine e_ rfl ?_)
  conv=>whnf
  refine⟨Unit,fun _=>⟨[(0,vP p),(6,.r (.c (.ptr (6,0,0) 0))),(7,.r (.c (.ptr (7,0,0) 0))),(8,.r (.c (.own (15,0,0)))),(9,tI .i64 0)],[((6,0,0),some (.box [.t (.str []),.nils 0])),((7,0,0),some (.box [.t (.str []),.own (7,0,1)])),((7,0,1),some (.arr true 3 [])),((15,0,0),some (.arr true 8 []))],[15,7,6]⟩,fun _=>0,(),?_,?_⟩
  ·exact Z2
  intro _;repeat' ((conv=>whnf);first|apply Wx|apply W6|apply oi|apply fi|intro h|exact Y7|refine e_ rfl ?_)
  all_goals try exact Q4
theorem yK {p:List LO}(hs:aw 1048576 (.lst 4 (p.map LO.tr)))(f:Nat):(bD p f).length<=1048576:=by
 unfold bD;split
 ·split
  ·rename_i g _ y hy;have:=bf hs (c9 hy);simp only[LO.tr,aF,aw]at this;omega
  ·simp
 ·simp
theorem qi {p:List LO}(hs:aw 1048576 (.lst 4 (p.map LO.tr))):∀(L:List (Nat×List LS)) (at0:Int) (x:LX),x∈co p at0 L->x.J8.length<=1048576
 | [],_,_,h=>by cases h
 |(f,l)::L,at0,x,h=>by
  rw[co]at h;rcases d6.1 h with rfl|h
  ·exact yK hs f
  ·exact qi hs L _ x h
theorem mE {p:List LO}{b:LF}{image:Int}(hs:aw 1048576 (.lst 4 (p.map LO.tr))):aF 1048576 (ag p b image).tr:=by
 rw[ag];split
 ·rename_i hc;obtain⟨h1,h2,h3⟩:=hc;obtain⟨h6,_⟩:=fF h1;have Oj:=iG p b image (ay p).length 0 0;have M4:=wt fun x (hx:x∈bX p b image (ay p).length 0 0)=>(ir hs hx).1;have MT:=ib (ax (bX p b image (ay p).length 0 0));have NV:=A6 2500 (show(bX p b image (ay p).length 0 0).length<=6 by omega);refine⟨by simp only[aw];omega,?_,trivial⟩
  exact fT (by rw[lu];omega) fun x hx=>by
   have:=qi hs _ _ x hx;simp only[LX.tr,aF,aw];exact⟨o_,trivial,trivial,trivial⟩
 ·simp[LK.tr,aF,aw,eG]
theorem ox {p:List LO}{b:LF}{image:Int}(h6:(ay p).length<=6):(ag p b image).L8.length<=6:=by
 unfold ag;split
 ·dsimp only;rw[lu];have:=iG p b image (ay p).length 0 0;omega
 ·simp
theorem uN {F:Nat->List Int}(h:∀f,(F f).length<=12):∀n,(kr F n).length<=12*n
 | 0=>by simp[kr]
 | n+1=>by have:=uN h n;have:=h n;rw[kr,c8];omega
theorem oC {p:List LO}{b:LF}(hs:aw 1048576 (.lst 4 (p.map LO.tr)))(h6:(ay p).length<=6){first second:Int}:aF 1048576 (aQ p b first second).tr:=by
 have a0:=mE (b:=b) (image:=0) hs;have a1:=mE (b:=b) (image:=1) hs;have hi:∀ns:List Int,ns.length<=1048576->aw 1048576 (.lst 1 (ns.map aa)):=fun ns hn=>fT o_ fun x hx=>by simp[aa,aF,aw]
 refine⟨?_,hi _ (by simp[aQ]),hi _ (by simp[aQ,entries];omega),trivial⟩;simp only[aQ];rw[aw];exact⟨s_,a0,a1,trivial⟩
theorem V82{p:Prop}(h:p:=by
 repeat' ((conv=>whnf);first|apply Wx|apply W6|apply oi|apply fi|intro h|refine cl hP ?_|refine cl hB ?_|exact Y5|refine e_ rfl ?_)):p:=h
theorem V80{p:Prop}(h:p:=by
 repeat' ((conv=>whnf);first|apply Wx|apply W6|apply oi|apply fi|intro h|refine cl gF ?_|refine cl NB ?_|exact Y5|refine e_ rfl ?_)):p:=h
theorem rX (p:List LO)(b:LF)(first second:Int)(hs:aw 1048576 (.lst 4 (p.map LO.tr))):Sim.Spec prog 34 [tvP p,.agg b.tr,tvI first,tvI second] (.tup [.agg ((oSp (gD p b first second)).tr.map tM),.c (.t (.bool (gD p b first second).isSome))]):=by
 refine bv hΓ aG func34 rfl d_ rfl ?_;have hP:=dM p hs;have hB:=jC b
 cases h1:ah p with
 | false=>
  rw[h1]at hP;rw[show gD p b first second=none by rw[gD,b8 (by rw[h1];simp)]]
  exact V82
 | true=>
  rw[h1]at hP
  cases h2:aS b with
  | false=>
   rw[h2]at hB;rw[show gD p b first second=none by rw[gD,b8 (by rw[h2];simp)]]
   exact V82
  | true=>
   rw[h2]at hB;obtain⟨h6,QM⟩:=fF h1;have YV:=iD p b 0 hs;have Zi:=iD p b 1 hs;have gF:=cG p o_;have MM:((ay p).map fun n:Nat=>aa n).length=(ay p).length:=s_;have NB:=fZ (aQ p b first second) (oC hs h6);repeat' ((conv=>whnf);first|(with_reducible apply W1;fail_if_success (with_reducible show Wo _ _ _ _ (Code.region 4 _ _) _ _))|(with_reducible first|apply W2|apply W3|apply W4|apply W5|apply W6|apply W7|apply W8|apply W9)|apply aB|apply oi|apply fi|intro h|refine cl hP ?_|refine cl hB ?_|refine cl YV ?_|refine cl Zi ?_|exact Y5|refine e_ rfl ?_)
   all_goals try exact⟨mT _ (by intro x c hc sz rs e;subst e;simp[LX.tr]at hc)⟩
   have Ox:(ag p b 0).L8.length<=6:=ox h6;have Zo:(ag p b 1).L8.length<=6:=ox h6;have hE:∀f,f<(ay p).length->tP p b (ag p b 0) (ag p b 1) first second f=[cS p b first second f]:=fun f hf=>Ji h1 h2 hf first second;have Oc:kr (tP p b (ag p b 0) (ag p b 1) first second) (ay p).length=entries p b first second:=xA hE
   have YI:gD p b first second=if ce (aQ p b first second)=true then some (aQ p b first second)else none:=by
    rw[gD];by_cases Pv:ce (aQ p b first second)=true
    ·rw[c7 Pv,c7 ⟨h1,h2,Pv⟩]
    ·rw[b8 Pv,b8 fun h=>Pv h.2.2]
   have P5:(aQ p b first second).tr=[.lst 2 [(ag p b 0).tr,(ag p b 1).tr],.lst 1 [aa first,aa second],.lst 1 ((entries p b first second).map aa)]:=rfl;rw[YI]
   generalize aQ p b first second=cd at *
   generalize ag p b 0=i0 at *
   generalize ag p b 1=i1 at *
   have Vk:∀f,(tP p b i0 i1 first second f).length<=12:=fun f=>by
    unfold tP;split
    ·have:=uL (bD p f) second i1.L8;omega
    ·have:=uL (bD p f) first i0.L8;omega
   have hEt:=uN Vk;conv=>whnf
   refine At ⟨[(0,vP p),(5,.r (.c (.ptr (5,0,0) 0))),(8,.r (.c (.ptr (8,0,0) 0))),(10,.r (.c (.ptr (10,0,0) 0)))],[((5,0,0),some (.box (b.tr.map .t))),((8,0,0),some (.box [.nils 0,.nils 0,.nils 0])),((10,0,0),some (.box [.own (10,0,1),.own (10,0,2),.own (10,0,3)])),((10,0,1),some (.arr true 2 [i0.tr,i1.tr])),((10,0,2),some (.arr true 1 [aa first,aa second])),((10,0,3),some (.arr true 1 []))],[10,8,5]⟩ ?_ ?_
   ·exact Z2
   repeat' ((conv=>whnf);first|apply Wx|apply W6|apply oi|apply fi|intro h|exact Y7|refine e_ rfl ?_)
   conv=>whnf
   refine⟨{f:Nat//f<=(ay p).length},fun q=>⟨[(0,vP p),(5,.r (.c (.ptr (5,0,0) 0))),(8,.r (.c (.ptr (8,0,0) 0))),(10,.r (.c (.ptr (10,0,0) 0))),(11,tI .i64 (q.1:Int))],[((5,0,0),some (.box (b.tr.map .t))),((8,0,0),some (.box [.nils 0,.nils 0,.nils 0])),((10,0,0),some (.box [.own (10,0,1),.own (10,0,2),.own (10,0,3)])),((10,0,1),some (.arr true 2 [i0.tr,i1.tr])),((10,0,2),some (.arr true 1 [aa first,aa second])),((10,0,3),some (.arr true 1 ((kr (tP p b i0 i1 first second) q.1).map aa)))],[10,8,5]⟩,fun q=>(ay p).length-q.1,⟨0,o_⟩,?_,?_⟩
   ·exact Z2
   intro⟨f,hf⟩;dsimp only;have hef:=hEt f;by_cases My:f<(ay p).length
   ·obtain⟨g,hg⟩:=ae My;obtain⟨ln,Xg,_,N6,_⟩:=qk h1 hg
    obtain⟨j,hj,Ve⟩:∃j:Nat,bn b f=(j:Int)/\j<=1:=by
     rcases fX b f with e|e
     ·exact⟨0,by rw[e];rfl,o_⟩
     ·exact⟨1,by rw[e];rfl,o_⟩
    obtain⟨im,base,Tl,RB,QT,hsy⟩:∃(im:LK) (base:Int),[i0.tr,i1.tr][j]?=some im.tr/\[aa first,aa second][j]?=some (aa base)/\tP p b i0 i1 first second f=kC ln.J8 base im.L8/\im.L8.length<=6:=by
     rcases(show j=0\/j=1 by omega)with rfl|rfl
     ·exact⟨i0,first,rfl,rfl,by rw[tP,hj,b8 (show ¬((0:Nat):Int)=1 by decide),N6],Ox⟩
     ·exact⟨i1,second,rfl,rfl,by rw[tP,hj,c7 (show((1:Nat):Int)=1 from rfl),N6],Zo⟩
    have P4:=Ee ⟨f,o_⟩;dsimp only at P4;have NM:j<[i0.tr,i1.tr].length:=(by simp;omega);have XS:j<[aa first,aa second].length:=(by simp;omega);have Nh:f<((ay p).map fun n:Nat=>aa n).length:=o_;have U3:((ay p).map fun n:Nat=>aa n)[f]?=some (aa (g:Int)):=(by rw[p6,hg];rfl);have N8:(im.L8.map LX.tr).length=im.L8.length:=s_;repeat' ((conv=>whnf);first|(with_reducible apply W1;fail_if_success (with_reducible show Wo _ _ _ _ (Code.seq (Code.region 8 _ _) _) _ _))|(with_reducible first|apply W2|apply W3|apply W4|apply W5|apply W6|apply W7|apply W8|apply W9)|apply aB|apply oi|apply fi|intro h|refine cl gF ?_|exact Y5|refine e_ rfl ?_)
    conv=>whnf
    refine nt Unit (fun _=>⟨[(0,vP p),(5,.r (.c (.ptr (5,0,0) 0))),(8,.r (.c (.ptr (8,0,0) 0))),(10,.r (.c (.ptr (10,0,0) 0))),(11,tI .i64 (f:Int)),(12,tI .i64 (j:Int))],[((5,0,0),some (.box (b.tr.map .t))),((8,0,0),some (.box [.nils 0,.nils 0,.nils 0])),((10,0,0),some (.box [.own (10,0,1),.own (10,0,2),.own (10,0,3)])),((10,0,1),some (.arr true 2 [i0.tr,i1.tr])),((10,0,2),some (.arr true 1 [aa first,aa second])),((10,0,3),some (.arr true 1 ((kr (tP p b i0 i1 first second) f).map aa)))],[10,8,5]⟩) ?_ ?_
    ·have PP:=hj;unfold bn at PP
     cases Rj:b.Mr with
     | true=>
      rw[Rj,c7 rfl]at PP;rw[PP]at P4;repeat' ((conv=>whnf);first|apply Wx|apply W6|apply oi|apply fi|intro h|exact Y7|refine e_ rfl ?_)
      all_goals(conv=>whnf)
      all_goals try(exfalso;rw[Rj]at h;cases h;done)
      refine⟨(),?_⟩;repeat' ((conv=>whnf);first|apply Wx|apply W6|apply oi|apply fi|intro h|exact Y7|refine e_ rfl ?_)
      all_goals exact⟨congrArg (Tr.int _) P4⟩
     | false=>
      rw[Rj,b8 s_]at PP;repeat' ((conv=>whnf);first|apply Wx|apply W6|apply oi|apply fi|intro h|exact Y7|refine e_ rfl ?_)
      all_goals(conv=>whnf)
      all_goals try(exfalso;rw[Rj]at h;cases h;done)
      refine⟨(),?_⟩;repeat' ((conv=>whnf);first|apply Wx|apply W6|apply oi|apply fi|intro h|exact Y7|refine e_ rfl ?_)
      all_goals exact⟨congrArg (Tr.int _) PP⟩
    intro _;dsimp only;repeat' ((conv=>whnf);first|apply Wx|apply W6|apply oi|apply fi|intro h|exact Y7|refine e_ rfl ?_)
    conv=>whnf
    refine⟨{k:Nat//k<=im.L8.length},fun q=>⟨[(0,vP p),(5,.r (.c (.ptr (5,0,0) 0))),(8,.r (.c (.ptr (8,0,0) 0))),(10,.r (.c (.ptr (10,0,0) 0))),(11,tI .i64 (f:Int)),(12,tI .i64 (j:Int)),(13,tI .i64 (q.1:Int))],[((5,0,0),some (.box (b.tr.map .t))),((8,0,0),some (.box [.nils 0,.nils 0,.nils 0])),((10,0,0),some (.box [.own (10,0,1),.own (10,0,2),.own (10,0,3)])),((10,0,1),some (.arr true 2 [i0.tr,i1.tr])),((10,0,2),some (.arr true 1 [aa first,aa second])),((10,0,3),some (.arr true 1 ((kr (tP p b i0 i1 first second) f++kC ln.J8 base (im.L8.take q.1)).map aa)))],[10,8,5]⟩,fun q=>im.L8.length-q.1,⟨0,o_⟩,?_,?_⟩
    ·repeat' ((conv=>whnf);first|apply Wx|apply W6|apply oi|apply fi|intro h|exact Y7|refine e_ rfl ?_)
     all_goals try exact⟨by simp[Io]⟩
    intro⟨k,hk⟩;dsimp only;by_cases Ne:k<im.L8.length
    ·obtain⟨y,hy⟩:=ae Ne;have hks:k<(im.L8.map LX.tr).length:=o_;have Xk:(im.L8.map LX.tr)[k]?=some y.tr:=ab hy;have US:=Ff (nm:=ln.J8) (b:=base) hy;have Zn:=uL ln.J8 base (im.L8.take k);rw[l6]at Zn
     cases hq:(y.J8==ln.J8)with
     | true=>
      rw[hq,c7 rfl]at US;repeat' ((conv=>whnf);first|apply Wx|apply W6|apply oi|apply fi|intro h|refine cl gF ?_|refine⟨j,rfl,NM,?_⟩|refine⟨_,Tl,?_⟩|refine⟨k,y.tr,rfl,Xk,?_⟩|refine⟨f,rfl,Nh,?_⟩|refine⟨_,U3,?_⟩|refine⟨g,ln.tr,rfl,ab Xg,?_⟩|refine⟨j,rfl,XS,?_⟩|refine⟨_,RB,?_⟩|exact Y5|refine e_ rfl ?_)
      all_goals try(exfalso;rw[hq]at h;cases h;done)
      all_goals try exact Q1
      conv=>whnf
      refine⟨⟨k+1,o_⟩,?_,KD⟩;repeat' ((conv=>whnf);first|apply Wx|apply W6|apply oi|apply fi|intro h|exact Y8|refine e_ rfl ?_)
      all_goals exact⟨by dsimp only;rw[US];simp[j9,aa]⟩
     | false=>
      rw[hq,b8 s_]at US;repeat' ((conv=>whnf);first|apply Wx|apply W6|apply oi|apply fi|intro h|refine cl gF ?_|refine⟨j,rfl,NM,?_⟩|refine⟨_,Tl,?_⟩|refine⟨k,y.tr,rfl,Xk,?_⟩|refine⟨f,rfl,Nh,?_⟩|refine⟨_,U3,?_⟩|refine⟨g,ln.tr,rfl,ab Xg,?_⟩|refine⟨j,rfl,XS,?_⟩|refine⟨_,RB,?_⟩|exact Y5|refine e_ rfl ?_)
      all_goals try(exfalso;rw[hq]at h;cases h;done)
      conv=>whnf
      refine⟨⟨k+1,o_⟩,?_,KD⟩;repeat' ((conv=>whnf);first|apply Wx|apply W6|apply oi|apply fi|intro h|exact Y8|refine e_ rfl ?_)
      all_goals exact⟨by dsimp only;rw[US,m6]⟩
    ·obtain rfl:k=im.L8.length:=o_;rw[gt (d8 _),<-QT];repeat' ((conv=>whnf);first|apply Wx|apply W6|apply oi|apply fi|intro h|refine⟨j,rfl,NM,?_⟩|refine⟨_,Tl,?_⟩|exact Y5|refine e_ rfl ?_)
     conv=>whnf
     refine⟨⟨f+1,o_⟩,?_,KD⟩;exact Z6
   ·obtain rfl:f=(ay p).length:=o_;rw[Oc]
    cases Pv:ce cd with
    | true=>
     rw[Pv]at NB;rw[c7 rfl];rw[P5]at NB;simp only[oSp,P5]
     exact V80
    | false=>rw[Pv]at NB;rw[b8 s_];rw[P5]at NB;exact V80
def ta (R:List LY)(d:Nat):Prop:=0<R.length/\R.length<=5^d/\∀t∈R,t.J8.length<=8
abbrev Jw (vars:List (List UInt8))(c:LG):List (Sim.Id×AO):=fm c++[((0,0,1),.arr false 1 (vars.map ao))]
abbrev CE (m:Int)(names:List (List UInt8))(ars:List Int):List AV:=[gA,tI .i64 m,.r (.c (.own (0,0,1))),vN names,.r (.c (.t (.lst 1 (ars.map aa))))]
abbrev GG (vars:List (List UInt8))(c:LG)(R:List LY):List (Sim.Id×AO):=Jw vars c++[((1,0,0),.arr false 3 (R.map LY.tr))]
theorem ww (d:Nat):1<=5^d:=Nat.one_le_pow _ _ o_
theorem Jf {d:Nat}(h:d<=8):5^d<=390625:=Nat.pow_le_pow_right (n:=5) o_ h
theorem V96{p:Prop}(h:p:=by
 rw[Int.tdiv_eq_ediv_of_nonneg h0,c6 _ o_];have:(2:Int)^(d+1)=2*2^d:=by rw[Int.pow_succ];omega
 omega):p:=h
theorem Hw {m:Int}{d:Nat}(h0:0<=m)(h1:m<2^(d+1))(hb:m<=1000):0<=IntKind.i64.wrap (m.tdiv 4)/\IntKind.i64.wrap (m.tdiv 4)<2^d/\IntKind.i64.wrap (m.tdiv 4)<=1000:=by exact V96
def uk (P:LG->List LY->LG->Prop)(d:Nat):Nat->LG->List LY->LG->List LY->Prop
 | 0,c,acc,c',NJ=>c'=c/\NJ=acc
 | k+1,c,acc,c',NJ=>∃R c1,ta R d/\c1.b=c.b/\c1.ok/\P c R c1/\uk P d k c1 (acc++R) c' NJ
theorem Ac {P:LG->List LY->LG->Prop}{d:Nat}(ih:∀c:LG,c.ok->∃R c1,ta R d/\c1.b=c.b/\c1.ok/\P c R c1):∀(k:Nat) (c:LG) (acc:List LY),c.ok->∃c' NJ,uk P d k c acc c' NJ
 | 0,c,acc,_=>⟨c,acc,rfl,rfl⟩
 | k+1,c,acc,hc=>by
  obtain⟨R,c1,h1,h2,h3,h4⟩:=ih c hc;obtain⟨c',NJ,h5⟩:=Ac ih k c1 (acc++R) h3;exact⟨c',NJ,R,c1,h1,h2,h3,h4,h5⟩
theorem sO {P:LG->List LY->LG->Prop}{d:Nat}:∀{k:Nat} {c c':LG} {acc NJ:List LY},uk P d k c acc c' NJ->c.ok->c'.b=c.b/\c'.ok/\acc.length<=NJ.length/\NJ.length<=acc.length+k*5^d/\((∀t∈acc,t.J8.length<=8)->∀t∈NJ,t.J8.length<=8)
 | 0,c,c',acc,NJ,h,hc=>by
  obtain⟨rfl,rfl⟩:=h
  exact⟨rfl,hc,d8 _,o_,fun h=>h⟩
 | k+1,c,c',acc,NJ,h,hc=>by
  obtain⟨R,c1,h1,h2,h3,_,h5⟩:=h;obtain⟨g1,g2,g3,g4,g5⟩:=sO h5 h3;rw[c8]at g3 g4;have hR:=h1.2.1;refine⟨g1.trans h2,g2,o_,by rw[p8];omega,fun H=>g5 fun t ht=>?_⟩;rcases d9.1 ht with ht|ht
  ·exact H t ht
  ·exact h1.2.2 t ht
theorem IZ {m:Int}{d:Nat}(h0:0<=m)(h1:m<2^(d+1))(hb:m<=1000):0<=IntKind.i64.wrap (m.tdiv 2)/\IntKind.i64.wrap (m.tdiv 2)<2^d/\IntKind.i64.wrap (m.tdiv 2)<=1000:=by exact V96
theorem gr (vars names:List (List UInt8))(ars:List Int)(hv:vars.length<=100)(hn:names.length<=100)(ha:ars.length=names.length)(Ta:∀a∈ars,0<=a/\a<=4)(SX:∀s∈vars,s.length<=8)(Te:∀s∈names,s.length<=8):
  ∀(d:Nat) (m:Int) (c:LG),d<=8->0<=m->m<2^d->m<=1000->c.ok->∃(R:List LY) (c':LG),ta R d/\c'.b=c.b/\c'.ok/\bA prog 254 (CE m names ars) (Jw vars c) (.r (.c (.own (1,0,0)))) (GG vars c' R)
 | d,m,c,hd,h0,h1,hm,hc=>by
  have p5d:=Jf hd;have QO:(vars.map ao).length=vars.length:=s_;have N2:(names.map ao).length=names.length:=s_;obtain⟨k,c1,k1,_,b1,o1,g1⟩:=bG c 10 hc;by_cases YP:2<m/\k<5
  ·cases d with
   | zero=>omega
   | succ d=>
    obtain⟨kd,c2,k2,_,b2,o2,g2⟩:=bG c1 5 o1;obtain⟨q1,q2,q3⟩:=IZ h0 h1 hm;obtain⟨R3,c3,t3,b3,o3,g3⟩:=gr vars names ars hv hn ha Ta SX Te d _ c2 o_ q1 q2 q3 o2;obtain⟨R4,c4,t4,b4,o4,g4⟩:=gr vars names ars hv hn ha Ta SX Te d _ c3 o_ q1 q2 q3 o3;have p5:=ww d;have YT:5^(d+1)=5*5^d:=(by rw[G7];omega);have t3l:=t3.2.1;have t4l:=t4.2.1;refine⟨⟨2+kd,0,[]⟩::(R3++R4),c4,⟨s_,?_,?_⟩,((b4.trans b3).trans b2).trans b1,o4,?_⟩
    ·have:=t3.2.1;have:=t4.2.1;rw[d5,c8];omega
    ·intro t ht;rcases d6.1 ht with rfl|ht
     ·simp
     ·rcases d9.1 ht with ht|ht
      ·exact t3.2.2 t ht
      ·exact t4.2.2 t ht
    ·refine az hΓ aG func254 rfl d_ rfl rfl ?_;repeat' ((conv=>whnf);first|apply Wx|apply W6|apply oi|apply fi|intro h|exact Y7|refine e_ rfl ?_)
     refine cg (g1) ?_;repeat' ((conv=>whnf);first|apply Wx|apply W6|apply oi|apply fi|intro h|exact Y5|refine e_ rfl ?_)
     all_goals try(exfalso;simp at h;omega)
     refine cg (g2) ?_;repeat' ((conv=>whnf);first|apply Wx|apply W6|apply oi|apply fi|intro h|exact Y7|refine e_ rfl ?_)
     refine cg (g3) ?_;repeat' ((conv=>whnf);first|apply Wx|apply W6|apply oi|apply fi|intro h|exact Y7|refine e_ rfl ?_)
     all_goals try exact Q1
     refine cg (g4) ?_;repeat' ((conv=>whnf);first|apply Wx|apply W6|apply oi|apply fi|intro h|exact Y7|refine e_ rfl ?_)
     all_goals try exact Q1
     all_goals exact⟨by rw[c6 _ o_];simp[LY.tr]⟩
  ·by_cases Ug:0<names.length/\1<m/\k<8
   ·cases d with
    | zero=>omega
    | succ d=>
     obtain⟨N5,Oo,YS⟩:=Ug;obtain⟨f,c2,kf,_,b2,o2,g2⟩:=bG c1 ((names.map ao).length:Int) o1;rw[N2]at kf;have PW:f<names.length:=(by have:=kf o_;omega);obtain⟨nm,N6⟩:=ae PW;obtain⟨a,U9⟩:=ae (l:=ars) (k:=f) o_;have Zg:=Ta a (c9 U9);obtain⟨an,rfl⟩:=j6 Zg.1;obtain⟨q1,q2,q3⟩:=Hw h0 h1 hm;have ih:=fun c hc=>gr vars names ars hv hn ha Ta SX Te d (IntKind.i64.wrap (m.tdiv 4)) c o_ q1 q2 q3 hc;have p5:=ww d;have YT:5^(d+1)=5*5^d:=(by rw[G7];omega);obtain⟨c',R,NG⟩:=Ac (P:=fun c R c'=>bA prog 254 (CE (IntKind.i64.wrap (m.tdiv 4)) names ars) (Jw vars c) (.r (.c (.own (1,0,0)))) (GG vars c' R)) (d:=d) ih an c2 [⟨7,an,nm⟩] o2;have TL:=sO NG o2;refine⟨R,c',⟨by have:=TL.2.2.1;simp at this;omega,by have:=TL.2.2.2.1;have h4:an*5^d<=4*5^d:=l9 _ o_;simp at this;omega,TL.2.2.2.2 (by intro t ht;simp at ht;subst ht;exact Te nm (c9 N6))⟩,(TL.1.trans b2).trans b1,TL.2.1,?_⟩;refine az hΓ aG func254 rfl d_ rfl rfl ?_;repeat' ((conv=>whnf);first|apply Wx|apply W6|apply oi|apply fi|intro h|exact Y7|refine e_ rfl ?_)
     refine cg (g1) ?_;repeat' ((conv=>whnf);first|apply Wx|apply W6|apply oi|apply fi|intro h|exact Y5|refine e_ rfl ?_)
     all_goals(
      refine cg (g2) ?_;have Oh:(ars.map aa).length=ars.length:=s_;repeat' ((conv=>whnf);first|apply Wx|apply W6|apply oi|apply fi|intro h|refine⟨f,(aa an),rfl,ab U9,?_⟩|refine⟨f,(ao nm),rfl,ab N6,?_⟩|exact Y7|refine e_ rfl ?_)
      conv=>whnf
      refine⟨{q:Nat×LG×List LY//q.1<=an/\q.2.1.ok/\q.2.2.length<=1+q.1*5^d/\uk (fun c R c'=>bA prog 254 (CE (IntKind.i64.wrap (m.tdiv 4)) names ars) (Jw vars c) (.r (.c (.own (1,0,0)))) (GG vars c' R)) d (an-q.1) q.2.1 q.2.2 c' R},fun q=>⟨[(0,gA),(1,tI .i64 m),(2,.r (.c (.own (0,0,1)))),(3,vN names),(4,.r (.c (.t (.lst 1 (ars.map aa))))),(13,tI .i64 (f:Int)),(14,.r (.c (.own (14,0,0)))),(15,tI .i64 (q.1.1:Int))],[((0,0,0),some (.box [.t (.lst 1 (q.1.2.1.b.map aY)),.t (.int .i64 q.1.2.1.i),.t (.int .i64 q.1.2.1.h)])),((0,0,1),some (.arr false 1 (vars.map ao))),((14,0,0),some (.arr false 3 (q.1.2.2.map LY.tr)))],[14,0]⟩,fun q=>an-q.1.1,⟨(0,c2,[⟨7,an,nm⟩]),g_,o2,s_,NG⟩,?_,?_⟩
      ·exact Z2
      intro⟨⟨i,ci,acc⟩,r1,r2,r3,r4⟩;dsimp only at r1 r2 r3 r4⊢;by_cases My:i<an
      ·obtain⟨w,hw⟩:∃w,an-i=w+1:=⟨an-i-1,o_⟩;rw[hw]at r4;obtain⟨R5,c5,t5,b5,o5,g5,r5⟩:=r4;have t5l:=t5.2.1;have i5:i*5^d<=4*5^d:=l9 _ o_;have i6:(i+1)*5^d=i*5^d+5^d:=(by rw[p8];omega);repeat' ((conv=>whnf);first|apply Wx|apply W6|apply oi|apply fi|intro h|refine⟨f,(aa an),rfl,ab U9,?_⟩|exact Y5|refine e_ rfl ?_)
       refine cg (g5) ?_;repeat' ((conv=>whnf);first|apply Wx|apply W6|apply oi|apply fi|intro h|exact Y7|refine e_ rfl ?_)
       all_goals try exact Q1
       conv=>whnf
       refine⟨⟨(i+1,c5,acc++R5),g_,o5,by simp;omega,by rw[show an-(i+1)=w by omega];exact r5⟩,?_,KD⟩;repeat' ((conv=>whnf);first|apply Wx|apply W6|apply oi|apply fi|intro h|exact Y6|refine e_ rfl ?_)
       all_goals exact⟨s_⟩
      ·rw[show an-i=0 by omega]at r4;obtain⟨rfl,rfl⟩:=r4;repeat' ((conv=>whnf);first|apply Wx|apply W6|apply oi|apply fi|intro h|refine⟨f,(aa an),rfl,ab U9,?_⟩|exact Y5|refine e_ rfl ?_)
     )
   ·have pick:∀c:LG,c.ok->∃(v:Int) (c':LG),c'.b=c.b/\c'.ok/\bA prog 129 [gA,.r (.c (.own (0,0,1)))] (fm c++[((0,0,1),.arr false 1 (([0,1,2,3,10,999]:List Int).map aa))]) (tI .i64 v) (fm c'++[((0,0,1),.arr false 1 (([0,1,2,3,10,999]:List Int).map aa))]):=fun c hc=>by
     obtain⟨v,c',_,b,o,g⟩:=jt c [0,1,2,3,10,999] hc d_ d_;exact⟨v,c',b,o,g⟩
    have p5:=ww d;have PE:∀(t:LY),t.J8.length<=8->ta [t] d:=fun t ht=>⟨s_,by simpa using p5,by intro u hu;simp at hu;subst hu;exact ht⟩;by_cases ZX:0<vars.length
    ·obtain⟨o,c2,b2,o2,g2⟩:=dP c1 2 o1
     cases o with
     | true=>
      obtain⟨f,c3,kf,_,b3,o3,g3⟩:=bG c2 ((vars.map ao).length:Int) o2;rw[QO]at kf;have PW:f<vars.length:=(by have:=kf o_;omega);obtain⟨nm,N6⟩:=ae PW;have MM:f<(vars.map ao).length:=(by rw[QO];exact PW);refine⟨[⟨1,0,nm⟩],c3,PE _ (SX nm (c9 N6)),(b3.trans b2).trans b1,o3,?_⟩;refine az hΓ aG func254 rfl d_ rfl rfl ?_;repeat' ((conv=>whnf);first|apply Wx|apply W6|apply oi|apply fi|intro h|exact Y7|refine e_ rfl ?_)
      refine cg (g1) ?_;repeat' ((conv=>whnf);first|apply Wx|apply W6|apply oi|apply fi|intro h|exact Y5|refine e_ rfl ?_)
      all_goals try(exfalso;simp at h;omega)
      all_goals(
       refine cg (g2) ?_;repeat' ((conv=>whnf);first|apply Wx|apply W6|apply oi|apply fi|intro h|exact Y7|refine e_ rfl ?_)
       refine cg (g3) ?_;repeat' ((conv=>whnf);first|apply Wx|apply W6|apply oi|apply fi|intro h|refine⟨f,rfl,MM,?_⟩|refine⟨(ao nm),ab N6,?_⟩|exact Y7|refine e_ rfl ?_)
      )
     | false=>
      obtain⟨v,c3,b3,o3,g3⟩:=pick c2 o2;refine⟨[⟨0,v,[]⟩],c3,PE _ s_,(b3.trans b2).trans b1,o3,?_⟩;refine az hΓ aG func254 rfl d_ rfl rfl ?_;repeat' ((conv=>whnf);first|apply Wx|apply W6|apply oi|apply fi|intro h|exact Y7|refine e_ rfl ?_)
      refine cg (g1) ?_;repeat' ((conv=>whnf);first|apply Wx|apply W6|apply oi|apply fi|intro h|exact Y5|refine e_ rfl ?_)
      all_goals try(exfalso;simp at h;omega)
      all_goals(
       refine cg (g2) ?_;repeat' ((conv=>whnf);first|apply Wx|apply W6|apply oi|apply fi|intro h|exact Y7|refine e_ rfl ?_)
       refine cg (g3) ?_;exact Z2
      )
    ·obtain⟨v,c3,b3,o3,g3⟩:=pick c1 o1;refine⟨[⟨0,v,[]⟩],c3,PE _ s_,b3.trans b1,o3,?_⟩;refine az hΓ aG func254 rfl d_ rfl rfl ?_;repeat' ((conv=>whnf);first|apply Wx|apply W6|apply oi|apply fi|intro h|exact Y7|refine e_ rfl ?_)
     refine cg (g1) ?_;repeat' ((conv=>whnf);first|apply Wx|apply W6|apply oi|apply fi|intro h|exact Y5|refine e_ rfl ?_)
     all_goals try(exfalso;simp at h;omega)
     all_goals(
      refine cg (g3) ?_;exact Z2
     )
termination_by d=>d
def Hb (h:Int)(u:UInt8):Int:=IntKind.i64.wrap ((BitVec.ofInt IntKind.i64.bits (IntKind.i64.wrap (IntKind.i64.wrap (IntKind.i64.wrap (h*131)+IntKind.i64.wrap (u.toNat:Int))+7)) &&& BitVec.ofInt IntKind.i64.bits 1073741823).toNat:Int)
def Hu (code:List UInt8):Int:=(code.take 4000).foldl Hb (IntKind.i64.wrap (33147+((code.map aY).length:Int)))
theorem wP (code:List UInt8)(hl:code.length<=1048576):bA prog 57 [.r (.c (.t (.lst 1 (code.map aY))))] [] (.r (.c (.ptr (1,0,0) 0))) [((1,0,0),.box [.t (.lst 1 (code.map aY)),.t (.int .i64 0),.t (.int .i64 (Hu code))])]:=by
 refine az hΓ aG func57 rfl d_ rfl rfl ?_;have Mv:(code.map aY).length=code.length:=s_;obtain⟨H,hH⟩:∃H,Hu code=H:=⟨_,rfl⟩;rw[hH];have ht:(code.take 4000).length<=4000:=by simp;omega
 repeat' ((conv=>whnf);first|apply Wx|apply W6|apply oi|apply fi|intro h|exact Y7|refine e_ rfl ?_)
 conv=>whnf
 refine⟨{q:Nat×Int//q.1<=code.length/\((code.take 4000).drop q.1).foldl Hb q.2=H},fun q=>⟨[(0,.r (.c (.t (.lst 1 (code.map aY))))),(3,tI .i64 q.1.2),(4,tI .i64 (q.1.1:Int))],[],[0]⟩,fun q=>code.length-q.1.1,⟨(0,IntKind.i64.wrap (33147+((code.map aY).length:Int))),g_,hH⟩,?_,?_⟩
 ·exact Z2
 intro⟨⟨i,hv⟩,hi,hr⟩;dsimp only at hi hr⊢;by_cases My:i<code.length/\i<4000
 ·obtain⟨u,hu⟩:=ae My.1;rw[cF (x:=u) (by rw[n3,c7 My.2];exact hu),E9]at hr;repeat' ((conv=>whnf);first|apply Wx|apply W6|apply oi|apply fi|intro h|refine⟨i,(aY u),rfl,ab hu,?_⟩|exact Y5|refine e_ rfl ?_)
  conv=>whnf
  refine⟨⟨(i+1,Hb hv u),g_,hr⟩,?_,KD⟩;repeat' ((conv=>whnf);first|apply Wx|apply W6|apply oi|apply fi|intro h|exact Y6|refine e_ rfl ?_)
  all_goals exact⟨rfl⟩
 ·rw[n9 aab]at hr;have hr:hv=H:=hr;subst hr;exact Z7
abbrev Kn (vars names:List (List UInt8))(ars:List Int)(c:LG):List (Sim.Id×AO):=[((0,0,0),.box [.ptr (0,0,1) 0,.own (0,0,2),.t (.lst 1 (names.map ao)),.t (.lst 1 (ars.map aa))]),((0,0,1),.box [.t (.lst 1 (c.b.map aY)),.t (.int .i64 c.i),.t (.int .i64 c.h)]),((0,0,2),.arr false 1 (vars.map ao))]
theorem pL (vars names:List (List UInt8))(ars:List Int)(hv:vars.length<=100)(hn:names.length<=100)(ha:ars.length=names.length)(Ta:∀a∈ars,0<=a/\a<=4)(SX:∀s∈vars,s.length<=8)(Te:∀s∈names,s.length<=8)
  (d:Nat) (m:Int) (c:LG) (hd:d<=8) (h0:0<=m) (h1:m<2^d) (hm:m<=1000) (hc:c.ok):∃(R:List LY) (c':LG),ta R d/\c'.b=c.b/\c'.ok/\bA prog 227 [gA,tI .i64 m] (Kn vars names ars c) (.r (.c (.own (1,0,0)))) (Kn vars names ars c'++[((1,0,0),.arr false 3 (R.map LY.tr))]):=by
 obtain⟨R,c',t1,b1,o1,g1⟩:=gr vars names ars hv hn ha Ta SX Te d m c hd h0 h1 hm hc;refine⟨R,c',t1,b1,o1,?_⟩;refine az hΓ aG func227 rfl d_ rfl rfl ?_;repeat' ((conv=>whnf);first|apply Wx|apply W6|apply oi|apply fi|intro h|exact Y7|refine e_ rfl ?_)
 refine cg (g1) ?_;exact Z2
noncomputable section
open Classical (propDecidable)
attribute [local instance] propDecidable
def bW (n:Int)(c:LG):Nat×LG:=if h:c.ok then(Classical.choose (bG c n h),Classical.choose (l8 (bG c n h)))else(0,c)
theorem bQ {c:LG}(h:c.ok)(n:Int):(0<n->((bW n c).1:Int)<n)/\(bW n c).2.b=c.b/\(bW n c).2.ok/\bA prog 130 [gA,tI .i64 n] (fm c) (tI .i64 (bW n c).1) (fm (bW n c).2):=by rw[bW,dif_pos h];have:=l8 (l8 (bG c n h));exact⟨this.1,this.2.2.1,this.2.2.2.1,this.2.2.2.2⟩
def jo (n:Int)(c:LG):Bool×LG:=if h:c.ok then(Classical.choose (dP c n h),Classical.choose (l8 (dP c n h)))else(false,c)
theorem gV {c:LG}(h:c.ok)(n:Int):(jo n c).2.b=c.b/\(jo n c).2.ok/\bA prog 171 [gA,tI .i64 n] (fm c) (tB (jo n c).1) (fm (jo n c).2):=by rw[jo,dif_pos h];exact l8 (l8 (dP c n h))
structure GP where
 vars:List (List UInt8)
 names:List (List UInt8)
 ars:List Int
structure GP.ok (G:GP):Prop where
 v1:0<G.vars.length
 v:G.vars.length<=100
 n:G.names.length<=100
 a:G.ars.length=G.names.length
 a4:∀a∈G.ars,0<=a/\a<=4
 v8:∀s∈G.vars,s.length<=8
 n8:∀s∈G.names,s.length<=8
abbrev gH (G:GP)(c:LG):List (Sim.Id×AO):=Kn G.vars G.names G.ars c
theorem gex {G:GP}(hG:G.ok){c:LG}(hc:c.ok)(m:Nat)(hm:m<8):∃(R:List LY) (c':LG),ta R 3/\c'.b=c.b/\c'.ok/\bA prog 227 [gA,tI .i64 (m:Int)] (gH G c) (.r (.c (.own (1,0,0)))) (gH G c'++[((1,0,0),.arr false 3 (R.map LY.tr))]):=
 pL G.vars G.names G.ars hG.v hG.n hG.a hG.a4 hG.v8 hG.n8 3 (m:Int) c o_ o_ (by show(m:Int)<8;omega) o_ hc
def exV (G:GP)(m:Nat)(c:LG):List LY×LG:=if h:G.ok/\c.ok/\m<8 then(Classical.choose (gex h.1 h.2.1 m h.2.2),Classical.choose (l8 (gex h.1 h.2.1 m h.2.2)))else([],c)
theorem ey {G:GP}(hG:G.ok){c:LG}(hc:c.ok)(m:Nat)(hm:m<8):ta (exV G m c).1 3/\(exV G m c).2.b=c.b/\(exV G m c).2.ok/\bA prog 227 [gA,tI .i64 (m:Int)] (gH G c) (.r (.c (.own (1,0,0)))) (gH G (exV G m c).2++[((1,0,0),.arr false 3 ((exV G m c).1.map LY.tr))]):=by rw[exV,dif_pos ⟨hG,hc,hm⟩];exact l8 (l8 (gex hG hc m hm))
def jD (G:GP)(rc:Nat->LG->List LO×LG)(dp:Bool)(c:LG):List LO×LG:=
 let k:=(bW 9 c).1
 let c1:=(bW 9 c).2
 if k<4 then
  let v:=bW G.vars.length c1
  let e:=exV G 6 v.2
  ([⟨1,G.vars[v.1]?.getD [],[],e.1⟩],e.2)
 else if k<6 then
  let e:=exV G 5 c1
  ([⟨2,[],[],e.1⟩],e.2)
 else if k=6/\dp=true then
  let e:=exV G 4 c1
  let t:=bW 2 e.2
  let B:=rc (1+t.1) t.2
  let o:=jo 2 B.2
  if o.1=true then
   let E:=rc 1 o.2
   (⟨3,[],[],e.1⟩::(B.1++(⟨4,[],[],[]⟩::(E.1++[⟨7,[],[],[]⟩]))),E.2)
  else(⟨3,[],[],e.1⟩::(B.1++[⟨7,[],[],[]⟩]),o.2)
 else if k=7/\dp=true then
  let t:=bW 3 c1
  let B:=rc 1 t.2
  (⟨5,[],[],[⟨5,0,[]⟩,⟨1,0,[105]⟩,⟨0,(1+t.1:Nat),[]⟩]⟩::(B.1++[⟨1,[105],[],[⟨2,0,[]⟩,⟨1,0,[105]⟩,⟨0,1,[]⟩]⟩,⟨7,[],[],[]⟩]),B.2)
 else
  let o:=jo 3 c1
  if o.1=true then
   let e:=exV G 4 o.2
   ([⟨6,[],[],e.1⟩],e.2)
  else([],o.2)
def lZ (G:GP)(rc:Nat->LG->List LO×LG)(dp:Bool):Nat->LG->List LO×LG
 | 0,c=>([],c)
 | n+1,c=>((jD G rc dp c).1++(lZ G rc dp n (jD G rc dp c).2).1,(lZ G rc dp n (jD G rc dp c).2).2)
def sm (G:GP):Nat->Nat->LG->List LO×LG
 | 0=>lZ G (fun _ c=>([],c)) false
 | d+1=>lZ G (sm G d) true
end
def sB:Nat->Nat
 | 0=>1
 | d+1=>3+3*sB d
structure BL (x:LO):Prop where
 name:x.J8.length<=8
 args:x.L5=[]
 len:x.K9.length<=125
 tok:∀t∈x.K9,t.J8.length<=8
 kind:1<=x.J1/\x.J1<=7
structure RcOk (s:Nat) (rc:Nat->LG->List LO×LG):Prop where
 len:∀n c,c.ok->(rc n c).1.length<=n*s
 b:∀n c,c.ok->(rc n c).2.b=c.b
 ok:∀n c,c.ok->(rc n c).2.ok
 bl:∀n c,c.ok->∀x∈(rc n c).1,BL x
theorem xl {k:Int}{n:List UInt8}{e:List LY}(hn:n.length<=8)(h:ta e 3)(hk:1<=k/\k<=7:=by omega):BL ⟨k,n,[],e⟩:=⟨hn,rfl,h.2.1,h.2.2,hk⟩
theorem wx {k:Int}(hk:1<=k/\k<=7:=by omega):BL ⟨k,[],[],[]⟩:=⟨s_,rfl,s_,s_,hk⟩
theorem zd {G:GP}(hG:G.ok){s:Nat}{rc:Nat->LG->List LO×LG}{dp:Bool}(h:dp=true->RcOk s rc){c:LG}(hc:c.ok):
  (jD G rc dp c).1.length<=3+3*s/\(dp=false->(jD G rc dp c).1.length<=1)/\(jD G rc dp c).2.b=c.b/\(jD G rc dp c).2.ok/\∀x∈(jD G rc dp c).1,BL x:=by
 obtain⟨k1,b1,o1,_⟩:=bQ hc 9;unfold jD;dsimp only
 generalize(bW 9 c).1=k at *
 generalize(bW 9 c).2=c1 at *
 split
 ·obtain⟨k2,b2,o2,_⟩:=bQ o1 (G.vars.length:Int);obtain⟨t3,b3,o3,_⟩:=ey hG o2 6 o_;refine⟨by simp;omega,fun _=>s_,(b3.trans b2).trans b1,o3,fun x hx=>?_⟩;simp only[t7]at hx;subst hx;refine xl ?_ t3
  cases hv:G.vars[(bW (G.vars.length:Int) c1).1]? with|none=>simp|some v=>exact hG.v8 v (c9 hv)
 split
 ·obtain⟨t3,b3,o3,_⟩:=ey hG o1 5 o_;refine⟨by simp;omega,fun _=>s_,b3.trans b1,o3,fun x hx=>?_⟩;simp only[t7]at hx;subst hx;exact xl s_ t3
 split
 ·rename_i hk;have hr:=h hk.2;obtain⟨t3,b3,o3,_⟩:=ey hG o1 4 o_;obtain⟨k4,b4,o4,_⟩:=bQ o3 2;have hl:=hr.len (1+(bW 2 (exV G 4 c1).2).1) _ o4;have Oa:=hr.b (1+(bW 2 (exV G 4 c1).2).1) _ o4;have QD:=hr.ok (1+(bW 2 (exV G 4 c1).2).1) _ o4;have PM:=hr.bl (1+(bW 2 (exV G 4 c1).2).1) _ o4;have TE:=k4 o_;have N7:(rc (1+(bW 2 (exV G 4 c1).2).1) (bW 2 (exV G 4 c1).2).2).1.length<=2*s:=v5 hl (l9 _ o_)
  generalize rc (1+(bW 2 (exV G 4 c1).2).1) (bW 2 (exV G 4 c1).2).2=B at *
  obtain⟨b5,o5,_⟩:=gV QD 2;split
  ·have VB:=hr.len 1 _ o5;have QZ:=hr.b 1 _ o5;have W0:=hr.ok 1 _ o5;have WH:=hr.bl 1 _ o5
   generalize rc 1 (jo 2 B.2).2=E at *
   refine⟨by simp;omega,(fun e=>by rw[e]at hk;cases hk.2),((((QZ.trans b5).trans Oa).trans b4).trans b3).trans b1,W0,fun x hx=>?_⟩;simp only[d6,d9,l4,or_false]at hx;rcases hx with rfl|hx|rfl|hx|rfl
   ·exact xl s_ t3
   ·exact PM x hx
   ·exact wx
   ·exact WH x hx
   ·exact wx
  ·refine⟨by simp;omega,(fun e=>by rw[e]at hk;cases hk.2),(((b5.trans Oa).trans b4).trans b3).trans b1,o5,fun x hx=>?_⟩;simp only[d6,d9,l4,or_false]at hx;rcases hx with rfl|hx|rfl
   ·exact xl s_ t3
   ·exact PM x hx
   ·exact wx
 split
 ·rename_i hk;have hr:=h hk.2;obtain⟨k4,b4,o4,_⟩:=bQ o1 3;have VB:=hr.len 1 _ o4;have QZ:=hr.b 1 _ o4;have W0:=hr.ok 1 _ o4;have WH:=hr.bl 1 _ o4
  generalize rc 1 (bW 3 c1).2=B at *
  refine⟨by simp;omega,(fun e=>by rw[e]at hk;cases hk.2),(QZ.trans b4).trans b1,W0,fun x hx=>?_⟩;simp only[d6,d9,l4,or_false]at hx;rcases hx with rfl|hx|rfl|rfl
  ·exact⟨s_,rfl,s_,s_,s_⟩
  ·exact WH x hx
  ·exact⟨s_,rfl,s_,s_,s_⟩
  ·exact wx
 ·obtain⟨b5,o5,_⟩:=gV o1 3;split
  ·obtain⟨t3,b3,o3,_⟩:=ey hG o5 4 o_;refine⟨by simp;omega,fun _=>s_,(b3.trans b5).trans b1,o3,fun x hx=>?_⟩;simp only[t7]at hx;subst hx;exact xl s_ t3
  ·exact⟨s_,fun _=>s_,b5.trans b1,o5,fun x hx=>by cases hx⟩
theorem Hm {G:GP}{rc:Nat->LG->List LO×LG}{dp:Bool}{s:Nat}(hs:∀c:LG,c.ok->(jD G rc dp c).1.length<=s/\(jD G rc dp c).2.b=c.b/\(jD G rc dp c).2.ok/\∀x∈(jD G rc dp c).1,BL x):RcOk s (lZ G rc dp):=by
 have key:∀n c,c.ok->(lZ G rc dp n c).1.length<=n*s/\(lZ G rc dp n c).2.b=c.b/\(lZ G rc dp n c).2.ok/\∀x∈(lZ G rc dp n c).1,BL x:=by
  intro n
  induction n with
  | zero=>exact fun c hc=>⟨by simp[lZ],rfl,hc,fun x hx=>by simp[lZ]at hx⟩
  | succ n ih=>
   intro c hc;obtain⟨h1,h2,h3,h4⟩:=hs c hc;obtain⟨i1,i2,i3,i4⟩:=ih _ h3;rw[lZ];refine⟨by simp only[c8];rw[Nat.succ_mul];omega,i2.trans h2,i3,fun x hx=>?_⟩;rcases d9.1 hx with hx|hx
   ·exact h4 x hx
   ·exact i4 x hx
 exact⟨fun n c hc=>(key n c hc).1,fun n c hc=>(key n c hc).2.1,fun n c hc=>(key n c hc).2.2.1,fun n c hc=>(key n c hc).2.2.2⟩
theorem nJ {G:GP}(hG:G.ok):∀d,RcOk (sB d) (sm G d)
 | 0=>Hm fun c hc=>by
  have:=zd hG (s:=0) (rc:=fun _ c=>([],c)) (dp:=false) (fun e=>by cases e) hc
  exact⟨this.2.1 rfl,this.2.2⟩
 | d+1=>Hm fun c hc=>by
  have:=zd hG (dp:=true) (fun _=>nJ hG d) hc;exact⟨this.1,this.2.2⟩
end Go.Proofs.P
namespace Go.Proofs.P
open Go.Sim Tryz
def dr (x:LO):List DC:=match x.K9 with
 | []=>[.t (.int .i64 x.J1),.t (.str x.J8),.t (.lst 0 []),.t (.lst 0 [])]
 | t::l=>[.d (.int .i64 x.J1),.d (.str x.J8),.d (.lst 0 []),.d (.lst 3 ((t::l).map LY.tr))]
theorem rW (k:Int)(n:List UInt8)(a:List (List UInt8)):dr ⟨k,n,a,[]⟩=[.t (.int .i64 k),.t (.str n),.t (.lst 0 []),.t (.lst 0 [])]:=rfl
theorem IB (k:Int)(n:List UInt8)(a:List (List UInt8))(t:LY)(l:List LY):dr ⟨k,n,a,t::l⟩=[.d (.int .i64 k),.d (.str n),.d (.lst 0 []),.d (.lst 3 ((t::l).map LY.tr))]:=rfl
theorem mK {e:List LY}(h:0<e.length)(k:Int)(n:List UInt8)(a:List (List UInt8)):dr ⟨k,n,a,e⟩=[.d (.int .i64 k),.d (.str n),.d (.lst 0 []),.d (.lst 3 (e.map LY.tr))]:=by
 cases e with
 | nil=>cases h
 | cons t l=>rfl
abbrev Hg (G:GP)(n:Nat)(d:Int)(c:LG)(R:List LO×LG):Prop:=bA prog 226 [gA,tI .i64 (n:Int),tI .i64 d] (gH G c) (.r (.c (.own (1,0,0)))) (gH G R.2++[((1,0,0),.dar 4 (R.1.map dr) none)])
theorem JQ {G:GP}(hG:G.ok){rc:Nat->LG->List LO×LG}{dp:Bool}{s d:Nat}(hd:d<=5)(Tj:dp=decide (0<d))(hs:3+3*s<=1000)(hR:dp=true->RcOk s rc)(SV:dp=true->∀n c,n<=2->c.ok->Hg G n ((d:Int)-1) c (rc n c))(n:Nat)(c:LG)(hn:n<=4)(hc:c.ok):
  Hg G n d c (lZ G rc dp n c):=by
 refine az hΓ aG func226 rfl d_ rfl rfl ?_;obtain⟨R,c',PD⟩:∃R c',lZ G rc dp n c=(R,c'):=⟨_,_,rfl⟩;rw[PD];have QO:(G.vars.map ao).length=G.vars.length:=s_;repeat' ((conv=>whnf);first|apply Wx|apply W6|apply oi|apply fi|intro h|exact Y7|refine e_ rfl ?_)
 conv=>whnf
 refine⟨{q:Nat×LG×List LO//q.1<=n/\q.2.1.ok/\q.2.2.length+q.1*1000<=4000/\q.2.2++(lZ G rc dp q.1 q.2.1).1=R/\(lZ G rc dp q.1 q.2.1).2=c'},fun q=>⟨[(0,gA),(1,tI .i64 (q.1.1:Int)),(2,tI .i64 (d:Int)),(7,.r (.c (.own (10,0,0))))],[((0,0,0),some (.box [.ptr (0,0,1) 0,.own (0,0,2),.t (.lst 1 (G.names.map ao)),.t (.lst 1 (G.ars.map aa))])),((0,0,1),some (.box [.t (.lst 1 (q.1.2.1.b.map aY)),.t (.int .i64 q.1.2.1.i),.t (.int .i64 q.1.2.1.h)])),((0,0,2),some (.arr false 1 (G.vars.map ao))),((10,0,0),some (.dar 4 (q.1.2.2.map dr) none))],[10,0]⟩,fun q=>q.1.1,⟨(n,c,[]),g_,hc,by simp;omega,by rw[PD];rfl,by rw[PD]⟩,?_,?_⟩
 ·repeat' ((conv=>whnf);first|apply Wx|apply W6|apply oi|apply fi|intro h|exact Y7|refine e_ rfl ?_)
  all_goals try exact⟨rfl⟩
 intro⟨⟨rem,ci,acc⟩,hi,Oh,M4,NN,M7⟩;dsimp only at hi Oh M4 NN M7⊢
 cases rem with
 | zero=>
  simp only[lZ,m6]at NN M7;subst NN;subst M7
  exact Z7
 | succ m=>
  rw[lZ]at NN M7;dsimp only at NN M7;obtain⟨s1,_,s3,s4,_⟩:=zd hG hR Oh
  generalize hS:jD G rc dp ci=S at *
  obtain⟨k1,b1,o1,g1⟩:=bQ Oh 9;unfold jD at hS;dsimp only at hS
  generalize bW 9 ci=q at *
  rw[<-j9]at NN;have Mv:(acc++S.1).length+m*1000<=4000:=by rw[c8];omega
  by_cases Vv:q.1<4
  ·rw[c7 Vv]at hS;obtain⟨k2,b2,o2,g2⟩:=bQ o1 (G.vars.length:Int);obtain⟨t3,b3,o3,g3⟩:=ey hG o2 6 o_
   generalize bW (G.vars.length:Int) q.2=v at *
   generalize exV G 6 v.2=e at *
   subst hS;have kv:=hG.v1;have Zt:v.1<(G.vars.map ao).length:=(by have:=k2 o_;omega);obtain⟨nm,N6⟩:=ae (l:=G.vars) (k:=v.1) o_;have YE:(G.vars.map ao)[v.1]?=some (ao nm):=ab N6;rw[QO.symm]at g2;repeat' ((conv=>whnf);first|apply Wx|apply W6|apply oi|apply fi|intro h|exact Y7|refine e_ rfl ?_)
   refine cg (g1) ?_;repeat' ((conv=>whnf);first|apply Wx|apply W6|apply oi|apply fi|intro h|exact Y5|refine e_ rfl ?_)
   refine cg (g2) ?_;repeat' ((conv=>whnf);first|apply Wx|apply W6|apply oi|apply fi|intro h|refine⟨_,rfl,Zt,?_⟩|refine⟨_,YE,?_⟩|exact Y7|refine e_ rfl ?_)
   refine cg (g3) ?_;repeat' ((conv=>whnf);first|apply Wx|apply W6|apply oi|apply fi|intro h|exact Y7|refine e_ rfl ?_)
   all_goals try exact Q14
   all_goals try exact Q1
   all_goals try exact Q17
   conv=>whnf
   refine⟨⟨(m,_,_),g_,s4,Mv,NN,M7⟩,?_,KD⟩;repeat' ((conv=>whnf);first|apply Wx|apply W6|apply oi|apply fi|intro h|exact Y14|refine e_ rfl ?_)
   all_goals exact⟨by simp[mK t3.1,N6]⟩
  rw[b8 Vv]at hS;by_cases Yd:q.1<6
  ·rw[c7 Yd]at hS;obtain⟨t3,b3,o3,g3⟩:=ey hG o1 5 o_
   generalize exV G 5 q.2=e at *
   subst hS;repeat' ((conv=>whnf);first|apply Wx|apply W6|apply oi|apply fi|intro h|exact Y7|refine e_ rfl ?_)
   refine cg (g1) ?_;repeat' ((conv=>whnf);first|apply Wx|apply W6|apply oi|apply fi|intro h|exact Y5|refine e_ rfl ?_)
   refine cg (g3) ?_;repeat' ((conv=>whnf);first|apply Wx|apply W6|apply oi|apply fi|intro h|exact Y7|refine e_ rfl ?_)
   all_goals try exact Q14
   all_goals try exact Q1
   all_goals try exact Q17
   conv=>whnf
   refine⟨⟨(m,_,_),g_,s4,Mv,NN,M7⟩,?_,KD⟩;repeat' ((conv=>whnf);first|apply Wx|apply W6|apply oi|apply fi|intro h|exact Y14|refine e_ rfl ?_)
   all_goals exact⟨by simp[mK t3.1]⟩
  rw[b8 Yd]at hS;by_cases QB:q.1=6/\dp=true
  ·rw[c7 QB]at hS;obtain⟨QB,PR⟩:=QB;have QG:0<d:=(by rw[Tj]at PR;exact f0 PR);have UC:=hR PR;obtain⟨t3,b3,o3,g3⟩:=ey hG o1 4 o_
   generalize exV G 4 q.2=e at *
   obtain⟨k4,b4,o4,g4⟩:=bQ o3 2
   generalize bW 2 e.2=t at *
   have g5:=SV PR (1+t.1) t.2 (by have:=k4 o_;omega) o4;have l5:=UC.len (1+t.1) t.2 o4;have ob5:=UC.ok (1+t.1) t.2 o4;have l5':(rc (1+t.1) t.2).1.length<=2*s:=v5 l5 (l9 _ (by have:=k4 o_;omega))
   generalize rc (1+t.1) t.2=B at *
   obtain⟨b6,o6,g6⟩:=gV ob5 2
   generalize jo 2 B.2=o at *
   cases ho:o.1 with
   | true=>
    rw[c7 ho]at hS;rw[ho]at g6;have g7:=SV PR 1 o.2 o_ o6;have l7:=UC.len 1 o.2 o6
    generalize rc 1 o.2=E at *
    subst hS;repeat' ((conv=>whnf);first|apply Wx|apply W6|apply oi|apply fi|intro h|exact Y7|refine e_ rfl ?_)
    refine cg (g1) ?_;repeat' ((conv=>whnf);first|apply Wx|apply W6|apply oi|apply fi|intro h|exact Y13|refine e_ rfl ?_)
    refine cg (g3) ?_;repeat' ((conv=>whnf);first|apply Wx|apply W6|apply oi|apply fi|intro h|exact Y7|refine e_ rfl ?_)
    all_goals try exact Q14
    all_goals try exact Q1
    all_goals try exact Q17
    refine cg (g4) ?_;repeat' ((conv=>whnf);first|apply Wx|apply W6|apply oi|apply fi|intro h|exact Y7|refine e_ rfl ?_)
    all_goals try exact Q14
    all_goals try exact Q1
    all_goals try exact Q17
    refine cg (g5) ?_;repeat' ((conv=>whnf);first|apply Wx|apply W6|apply oi|apply fi|intro h|exact Y7|refine e_ rfl ?_)
    all_goals try exact Q14
    all_goals try exact Q1
    all_goals try exact Q17
    refine cg (g6) ?_;repeat' ((conv=>whnf);first|apply Wx|apply W6|apply oi|apply fi|intro h|exact Y7|refine e_ rfl ?_)
    all_goals try exact Q14
    all_goals try exact Q1
    all_goals try exact Q17
    refine cg (g7) ?_;repeat' ((conv=>whnf);first|apply Wx|apply W6|apply oi|apply fi|intro h|exact Y7|refine e_ rfl ?_)
    all_goals try exact Q14
    all_goals try exact Q1
    all_goals try exact Q17
    conv=>whnf
    refine⟨⟨(m,_,_),g_,s4,Mv,NN,M7⟩,?_,KD⟩;repeat' ((conv=>whnf);first|apply Wx|apply W6|apply oi|apply fi|intro h|exact Y14|refine e_ rfl ?_)
    all_goals exact⟨by simp[mK t3.1,rW]⟩
   | false=>
    rw[b8 aag]at hS;rw[ho]at g6;subst hS;repeat' ((conv=>whnf);first|apply Wx|apply W6|apply oi|apply fi|intro h|exact Y7|refine e_ rfl ?_)
    refine cg (g1) ?_;repeat' ((conv=>whnf);first|apply Wx|apply W6|apply oi|apply fi|intro h|exact Y13|refine e_ rfl ?_)
    refine cg (g3) ?_;repeat' ((conv=>whnf);first|apply Wx|apply W6|apply oi|apply fi|intro h|exact Y7|refine e_ rfl ?_)
    all_goals try exact Q14
    all_goals try exact Q1
    all_goals try exact Q17
    refine cg (g4) ?_;repeat' ((conv=>whnf);first|apply Wx|apply W6|apply oi|apply fi|intro h|exact Y7|refine e_ rfl ?_)
    all_goals try exact Q14
    all_goals try exact Q1
    all_goals try exact Q17
    refine cg (g5) ?_;repeat' ((conv=>whnf);first|apply Wx|apply W6|apply oi|apply fi|intro h|exact Y7|refine e_ rfl ?_)
    all_goals try exact Q14
    all_goals try exact Q1
    all_goals try exact Q17
    refine cg (g6) ?_;repeat' ((conv=>whnf);first|apply Wx|apply W6|apply oi|apply fi|intro h|exact Y7|refine e_ rfl ?_)
    all_goals try exact Q14
    all_goals try exact Q1
    all_goals try exact Q17
    conv=>whnf
    refine⟨⟨(m,_,_),g_,s4,Mv,NN,M7⟩,?_,KD⟩;repeat' ((conv=>whnf);first|apply Wx|apply W6|apply oi|apply fi|intro h|exact Y14|refine e_ rfl ?_)
    all_goals exact⟨by simp[mK t3.1,rW]⟩
  rw[b8 QB]at hS;by_cases TW:q.1=7/\dp=true
  ·rw[c7 TW]at hS;obtain⟨TW,PR⟩:=TW;have QG:0<d:=(by rw[Tj]at PR;exact f0 PR);have UC:=hR PR;obtain⟨k4,b4,o4,g4⟩:=bQ o1 3
   generalize bW 3 q.2=t at *
   have TE:=k4 o_;have SN:IntKind.i64.wrap (1+(t.1:Int))=1+(t.1:Int):=c6 _ o_;have g5:=SV PR 1 t.2 o_ o4;have l5:=UC.len 1 t.2 o4
   generalize rc 1 t.2=B at *
   subst hS;repeat' ((conv=>whnf);first|apply Wx|apply W6|apply oi|apply fi|intro h|exact Y7|refine e_ rfl ?_)
   refine cg (g1) ?_;repeat' ((conv=>whnf);first|apply Wx|apply W6|apply oi|apply fi|intro h|exact Y13|refine e_ rfl ?_)
   refine cg (g4) ?_;repeat' ((conv=>whnf);first|apply Wx|apply W6|apply oi|apply fi|intro h|exact Y7|refine e_ rfl ?_)
   all_goals try exact⟨aT [⟨5,0,[]⟩,⟨1,0,[105]⟩,⟨0,IntKind.i64.wrap (1+(t.1:Int)),[]⟩]⟩
   all_goals try exact Q14
   all_goals try exact Q1
   all_goals try exact Q17
   refine cg (g5) ?_;repeat' ((conv=>whnf);first|apply Wx|apply W6|apply oi|apply fi|intro h|exact Y7|refine e_ rfl ?_)
   all_goals try exact⟨aT [⟨2,0,[]⟩,⟨1,0,[105]⟩,⟨0,1,[]⟩]⟩
   all_goals try exact Q14
   all_goals try exact Q1
   all_goals try exact Q17
   conv=>whnf
   refine⟨⟨(m,_,_),g_,s4,Mv,NN,M7⟩,?_,KD⟩;repeat' ((conv=>whnf);first|apply Wx|apply W6|apply oi|apply fi|intro h|exact Y14|refine e_ rfl ?_)
   all_goals exact⟨by simp[rW,IB,LY.tr,SN]⟩
  rw[b8 TW]at hS;have OQ:¬(q.1=6/\0<d)/\¬(q.1=7/\0<d):=⟨fun h=>QB ⟨h.1,by rw[Tj];exact q9 h.2⟩,fun h=>TW ⟨h.1,by rw[Tj];exact q9 h.2⟩⟩;obtain⟨b6,o6,g6⟩:=gV o1 3
  generalize jo 3 q.2=o at *
  cases ho:o.1 with
  | true=>
   rw[c7 ho]at hS;rw[ho]at g6;obtain⟨t3,b3,o3,g3⟩:=ey hG o6 4 o_
   generalize exV G 4 o.2=e at *
   subst hS;repeat' ((conv=>whnf);first|apply Wx|apply W6|apply oi|apply fi|intro h|exact Y7|refine e_ rfl ?_)
   refine cg (g1) ?_;repeat' ((conv=>whnf);first|apply Wx|apply W6|apply oi|apply fi|intro h|exact Y13|refine e_ rfl ?_)
   all_goals(
    refine cg (g6) ?_;repeat' ((conv=>whnf);first|apply Wx|apply W6|apply oi|apply fi|intro h|exact Y7|refine e_ rfl ?_)
    refine cg (g3) ?_;repeat' ((conv=>whnf);first|apply Wx|apply W6|apply oi|apply fi|intro h|exact Y7|refine e_ rfl ?_)
    all_goals try exact Q14
    all_goals try exact Q1
    all_goals try exact Q17
    conv=>whnf
    refine⟨⟨(m,_,_),g_,s4,Mv,NN,M7⟩,?_,KD⟩;repeat' ((conv=>whnf);first|apply Wx|apply W6|apply oi|apply fi|intro h|exact Y14|refine e_ rfl ?_)
    all_goals exact⟨by simp[mK t3.1]⟩)
  | false=>
   rw[b8 aag]at hS;rw[ho]at g6;subst hS;repeat' ((conv=>whnf);first|apply Wx|apply W6|apply oi|apply fi|intro h|exact Y7|refine e_ rfl ?_)
   refine cg (g1) ?_;repeat' ((conv=>whnf);first|apply Wx|apply W6|apply oi|apply fi|intro h|exact Y13|refine e_ rfl ?_)
   all_goals(
    refine cg (g6) ?_;repeat' ((conv=>whnf);first|apply Wx|apply W6|apply oi|apply fi|intro h|exact Y7|refine e_ rfl ?_)
    conv=>whnf
    refine⟨⟨(m,_,_),g_,s4,Mv,NN,M7⟩,?_,KD⟩;repeat' ((conv=>whnf);first|apply Wx|apply W6|apply oi|apply fi|intro h|exact Y14|refine e_ rfl ?_)
    all_goals exact⟨s_⟩)
theorem zc {G:GP}(hG:G.ok):∀(d n:Nat) (c:LG),d<=2->n<=4->c.ok->Hg G n d c (sm G d n c)
 | 0,n,c,_,hn,hc=>JQ hG (s:=0) o_ rfl o_ (fun h=>by cases h) (fun h=>by cases h) n c hn hc
 | d+1,n,c,hd,hn,hc=>JQ hG (s:=sB d) o_ s_ (by
   have:d=0\/d=1:=o_
   rcases this with rfl|rfl<;>simp[sB]) (fun _=>nJ hG d) (fun _ m c' hm MB=>by
   have e:(((d+1:Nat):Int)-1)=(d:Int):=o_;rw[e]
   exact zc hG d m c' o_ o_ MB) n c hn hc
def nm0:List (List UInt8):=[[109,97,105,110],[102],[103,103],[104]]
def ar0:List Int:=[0,1,2,1]
def arg0:List (List UInt8):=[[120],[121]]
def arN (k:Nat):Nat:=(ar0[k]?.getD 0).toNat
def nmN (k:Nat):List UInt8:=nm0[k]?.getD []
def gpV (n k:Nat)(b:Bool):GP:=⟨arg0.take (arN k)++[[105],[122]],(nm0.take n).drop (if b=true then k else k+1),(ar0.take n).drop (if b=true then k else k+1)⟩
theorem ze {n k:Nat}(b:Bool):(gpV n k b).ok:=by
 refine⟨by simp[gpV],by simp[gpV,arg0];omega,by simp[gpV,nm0];omega,by simp[gpV,nm0,ar0],fun a ha=>?_,fun s hs=>?_,fun s hs=>?_⟩
 ·have:=t8 (z7 ha);simp[ar0]at this;omega
 ·simp only[gpV,d9]at hs;rcases hs with hs|hs
  ·have:=t8 hs;simp[arg0]at this;rcases this with rfl|rfl<;>simp
  ·simp at hs;rcases hs with rfl|rfl<;>simp
 ·have:=t8 (z7 hs);simp[nm0]at this;rcases this with rfl|rfl|rfl|rfl<;>simp
noncomputable def xd (n k:Nat) (c:LG):List LO×LG:=
 let o:=if 0<k then jo 5 c else(false,c)
 let G:=gpV n k o.1
 let t:=bW 4 o.2
 let u:=bW 2 t.2
 let B:=sm G (1+u.1) (1+t.1) u.2
 let e:=exV G 3 B.2
 (⟨0,nmN k,arg0.take (arN k),[]⟩::(B.1++[⟨6,[],[],e.1⟩,⟨7,[],[],[]⟩]),e.2)
noncomputable def ju (n:Nat):Nat->Nat->LG->List LO×LG
 | 0,_,c=>([],c)
 | r+1,k,c=>((xd n k c).1++(ju n r (k+1) (xd n k c).2).1,(ju n r (k+1) (xd n k c).2).2)
noncomputable def kS (c:LG):List LO×LG:=ju (1+(bW 4 c).1) (1+(bW 4 c).1) 0 (bW 4 c).2
def drP (x:LO):List DC:=if x.J1=0 then [.d (.int .i64 0),.d (.str x.J8),.d (.lst 1 (x.L5.map ao)),.d (.lst 0 [])]else dr x
structure PL (x:LO):Prop where
 name:x.J8.length<=8
 args:x.L5.length<=2/\∀s∈x.L5,s.length<=8
 len:x.K9.length<=125
 tok:∀t∈x.K9,t.J8.length<=8
 fe:x.J1=0->x.K9=[]
 fa:x.J1≠0->x.L5=[]
theorem Ho {n k:Nat}{c:LG}(hc:c.ok):(xd n k c).1.length<=200/\(xd n k c).2.b=c.b/\(xd n k c).2.ok/\∀x∈(xd n k c).1,PL x:=by
 unfold xd;dsimp only
 have ho:(if 0<k then jo 5 c else(false,c)).2.b=c.b/\(if 0<k then jo 5 c else(false,c)).2.ok:=by
  split
  ·have:=gV hc 5;exact⟨this.1,this.2.1⟩
  ·exact⟨rfl,hc⟩
 generalize(if 0<k then jo 5 c else(false,c))=o at *
 have hG:=ze (n:=n) (k:=k) o.1
 generalize gpV n k o.1=G at *
 obtain⟨k4,b4,o4,_⟩:=bQ ho.2 4;obtain⟨k2,b2,o2,_⟩:=bQ o4 2;have TE:=k4 o_;have k2':=k2 o_;have hB:=nJ hG (1+(bW 2 (bW 4 o.2).2).1);have hl:=hB.len (1+(bW 4 o.2).1) _ o2;have hb:=hB.b (1+(bW 4 o.2).1) _ o2;have hk:=hB.ok (1+(bW 4 o.2).1) _ o2;have hx:=hB.bl (1+(bW 4 o.2).1) _ o2
 have hs:sB (1+(bW 2 (bW 4 o.2).2).1)<=21:=by have:(bW 2 (bW 4 o.2).2).1=0\/(bW 2 (bW 4 o.2).2).1=1:=o_;rcases this with e|e<;>rw[e]<;>simp[sB]
 have N7:=A4 (show 1+(bW 4 o.2).1<=4 by omega) hs
 generalize sm G (1+(bW 2 (bW 4 o.2).2).1) (1+(bW 4 o.2).1) (bW 2 (bW 4 o.2).2).2=B at *
 obtain⟨t3,b3,o3,_⟩:=ey hG hk 3 o_;refine⟨by simp;omega,((b3.trans hb).trans b2).trans (b4.trans ho.1),o3,fun x h=>?_⟩;have PM:∀{x:LO},BL x->PL x:=fun h=>⟨h.name,by rw[h.args];simp,h.len,h.tok,fun e=>by have:=h.kind;omega,fun _=>h.args⟩;simp only[d6,d9,l4,or_false]at h;rcases h with rfl|h|rfl|rfl
 ·refine⟨?_,⟨?_,fun s hs=>?_⟩,s_,s_,fun _=>rfl,fun e=>absurd rfl e⟩
  ·show(nmN k).length<=8;unfold nmN
   cases hn:nm0[k]? with
   | none=>simp
   | some v=>have:=c9 hn;simp[nm0]at this;rcases this with rfl|rfl|rfl|rfl<;>simp
  ·simp[arg0];omega
  ·have:=t8 hs;simp[arg0]at this;rcases this with rfl|rfl<;>simp
 ·exact PM (hx x h)
 ·exact PM (xl s_ t3)
 ·exact PM wx
theorem yz (n:Nat):∀(r k:Nat) (c:LG),c.ok->(ju n r k c).1.length<=r*200/\(ju n r k c).2.b=c.b/\(ju n r k c).2.ok/\∀x∈(ju n r k c).1,PL x
 | 0,_,c,hc=>⟨by simp[ju],rfl,hc,fun x hx=>by simp[ju]at hx⟩
 | r+1,k,c,hc=>by
  obtain⟨h1,h2,h3,h4⟩:=Ho (n:=n) (k:=k) hc;obtain⟨i1,i2,i3,i4⟩:=yz n r (k+1) _ h3;rw[ju];refine⟨by simp only[c8];omega,i2.trans h2,i3,fun x hx=>?_⟩;rcases d9.1 hx with hx|hx
  ·exact h4 x hx
  ·exact i4 x hx
theorem EU {c:LG}(hc:c.ok):(kS c).1.length<=800/\(kS c).2.b=c.b/\(kS c).2.ok/\∀x∈(kS c).1,PL x:=by obtain⟨k1,b1,o1,_⟩:=bQ hc 4;have UO:=k1 o_;obtain⟨h1,h2,h3,h4⟩:=yz (1+(bW 4 c).1) (1+(bW 4 c).1) 0 _ o1;have:=l9 200 (show 1+(bW 4 c).1<=4 by omega);exact⟨by unfold kS;omega,h2.trans b1,h3,h4⟩
theorem CB {l:List LO}(h:∀x∈l,BL x):l.map dr=l.map drP:=by refine List.map_congr_left fun x hx=>?_;have:=(h x hx).kind;rw[drP,b8 o_]
theorem IP {x:LO}(h:PL x):((drP x).map DC.tr).length=x.tr.length/\∀(p:Nat) (c d:Tr),((drP x).map DC.tr)[p]?=some c->x.tr[p]?=some d->emE c d:=by
 obtain⟨k,n,a,e⟩:=x
 have key:∃u v,(drP ⟨k,n,a,e⟩).map DC.tr=[.int .i64 k,.str n,u,v]/\emE u (.lst 1 (a.map ao))/\emE v (.lst 3 (e.map LY.tr)):=by
  by_cases h0:k=0
  ·subst h0;have he:=h.fe rfl;dsimp only at he;subst he;exact⟨_,_,rfl,.inl rfl,.inr ⟨_,_,rfl,rfl⟩⟩
  ·have ha:=h.fa h0;dsimp only at ha;subst ha;rw[drP,b8 h0]
   cases e with|nil=>exact⟨_,_,rfl,.inr ⟨_,_,rfl,rfl⟩,.inr ⟨_,_,rfl,rfl⟩⟩|cons t l=>exact⟨_,_,rfl,.inr ⟨_,_,rfl,rfl⟩,.inl rfl⟩
 obtain⟨u,v,e1,e2,e3⟩:=key;rw[e1];refine⟨rfl,fun p c d hc hd=>?_⟩
 match p with|0=>simp[LO.tr]at hc hd;subst hc;subst hd;exact .inl rfl|1=>simp[LO.tr]at hc hd;subst hc;subst hd;exact .inl rfl|2=>simp[LO.tr]at hc hd;subst hc;subst hd;exact e2|3=>simp[LO.tr]at hc hd;subst hc;subst hd;exact e3|p+4=>simp at hc
theorem EM:∀{l:List LO},(∀x∈l,PL x)->emR ((l.map drP).map fun x=>x.map DC.tr) (l.map LO.tr)
 | [],_=>trivial
 | x::l,h=>⟨IP (h x s_),EM fun y hy=>h y aaN⟩
theorem V115{p:Prop}(h:p:=by
 have:u.1=0\/u.1=1:=o_
 rcases this with e|e<;>rw[e]<;>simp[sB]):p:=h
theorem Q20{p:Prop}(h:p:=by exact⟨by simp[drP,mK t3.1,rW,hx,y8,arg0,ao]⟩):p:=h
theorem qE (c:LG)(hc:c.ok):bA prog 170 [gA] (fm c) (.r (.c (.t (.lst 4 ((kS c).1.map LO.tr))))) (fm (kS c).2):=by
 obtain⟨k1,b1,o1,g1⟩:=bQ hc 4;have UO:=k1 o_;refine az hΓ aG func170 rfl d_ rfl rfl ?_;unfold kS
 generalize(bW 4 c).2=c1 at *
 obtain⟨n,hn⟩:∃n,1+(bW 4 c).1=n:=⟨_,rfl⟩;have hw:IntKind.i64.wrap (1+((bW 4 c).1:Int))=(n:Int):=by rw[c6 _ o_];omega
 rw[hn];obtain⟨R,c',PD⟩:∃R c',ju n n 0 c1=(R,c'):=⟨_,_,rfl⟩;have VA:=(yz n n 0 _ o1).2.2.2;rw[PD]at VA⊢;repeat' ((conv=>whnf);first|(with_reducible apply W1;fail_if_success (with_reducible show Wo _ _ _ _ (Code.seq (Code.region 5 _ _) _) _ _))|(with_reducible first|apply W2|apply W3|apply W4|apply W5|apply W6|apply W7|apply W8|apply W9)|apply aB|apply oi|apply fi|intro h|exact Y7|refine e_ rfl ?_)
 refine cg (g1) ?_;repeat' ((conv=>whnf);first|(with_reducible apply W1;fail_if_success (with_reducible show Wo _ _ _ _ (Code.seq (Code.region 5 _ _) _) _ _))|(with_reducible first|apply W2|apply W3|apply W4|apply W5|apply W6|apply W7|apply W8|apply W9)|apply aB|apply oi|apply fi|intro h|exact Y7|refine e_ rfl ?_)
 conv=>whnf
 refine nU ⟨[(0,gA),(3,vN nm0),(4,.r (.c (.t (.lst 1 (ar0.map aa))))),(5,tI .i64 (IntKind.i64.wrap (1+((bW 4 c).1:Int)))),(6,.r (.c (.own (15,0,0))))],[((0,0,0),some (.box [.t (.lst 1 (c1.b.map aY)),.t (.int .i64 c1.i),.t (.int .i64 c1.h)])),((15,0,0),some (.arr true 4 []))],[15,13,11,10,0]⟩ ?_ ?_ rfl ?_
 ·refine⟨.inl rfl,.inr ⟨_,_,rfl,rfl,rfl,?_⟩,.inr ⟨_,_,rfl,rfl,rfl,?_⟩,.inl rfl,.inl rfl,trivial⟩;all_goals(intro q hq;simp only[AC.ids,d6,l4,or_false]at hq;subst hq;rfl)
 ·exact⟨.inr rfl,.inr rfl,trivial⟩
 rw[hw];repeat' ((conv=>whnf);first|apply Wx|apply W6|apply oi|apply fi|intro h|exact Y7|refine e_ rfl ?_)
 conv=>whnf
 refine⟨{q:Nat×LG×List LO//q.1<=n/\q.2.1.ok/\q.2.2.length+(n-q.1)*200<=800/\q.2.2++(ju n (n-q.1) q.1 q.2.1).1=R/\(ju n (n-q.1) q.1 q.2.1).2=c'},fun q=>⟨[(0,gA),(3,vN nm0),(4,.r (.c (.t (.lst 1 (ar0.map aa))))),(5,tI .i64 (n:Int)),(6,.r (.c (.own (15,0,0)))),(7,tI .i64 (q.1.1:Int))],[((0,0,0),some (.box [.t (.lst 1 (q.1.2.1.b.map aY)),.t (.int .i64 q.1.2.1.i),.t (.int .i64 q.1.2.1.h)])),((15,0,0),some (.dar 4 (q.1.2.2.map drP) none))],[15,0]⟩,fun q=>n-q.1.1,⟨(0,c1,[]),g_,o1,by simp;omega,by dsimp only;rw[y0,PD];rfl,by dsimp only;rw[y0,PD]⟩,?_,?_⟩
 ·repeat' ((conv=>whnf);first|apply Wx|apply W6|apply oi|apply fi|intro h|exact Y7|refine e_ rfl ?_)
  all_goals try exact⟨rfl⟩
 intro⟨⟨k,ci,acc⟩,hi,Oh,M4,NN,M7⟩;dsimp only at hi Oh M4 NN M7⊢;by_cases My:k<n
 ·obtain⟨m,hm⟩:∃m,n-k=m+1:=⟨n-k-1,o_⟩;rw[hm]at NN M7 M4;rw[ju]at NN M7;dsimp only at NN M7;obtain⟨s1,_,s3,s4⟩:=Ho (n:=n) (k:=k) Oh
  generalize hF:xd n k ci=F at *
  rw[<-j9]at NN;have Mv:(acc++F.1).length+(n-(k+1))*200<=800:=by rw[c8];omega
  rw[show m=n-(k+1) by omega]at NN M7;unfold xd at hF;dsimp only at hF;have Vv:k<4:=o_
  have N6:nm0[k]?=some (nmN k):=by have:k=0\/k=1\/k=2\/k=3:=o_;rcases this with rfl|rfl|rfl|rfl<;>rfl
  have Tb:ar0[k]?=some (arN k:Int):=by have:k=0\/k=1\/k=2\/k=3:=o_;rcases this with rfl|rfl|rfl|rfl<;>rfl
  have OJ:arN k<=2:=by have:k=0\/k=1\/k=2\/k=3:=o_;rcases this with rfl|rfl|rfl|rfl<;>decide
  have Nk:IntKind.i64.wrap ((k:Int)+1)=((k+1:Nat):Int):=by rw[c6 _ o_];omega
  have N2:(nm0.map ao).length=4:=rfl;have Rk:(ar0.map aa).length=4:=rfl;have MM:flat ([]++List.take (arN k) (arg0.map ao)):=by rw[t6,<-y8];exact kF _
  rcases v3 k with N1|N1
  ·rw[b8 o_]at hF
   (try dsimp only at hF)
   have hG:=ze (n:=n) (k:=k) false;obtain⟨k4,b4,o4,g4⟩:=bQ Oh 4
   generalize bW 4 ci=t at *
   obtain⟨k5,b5,o5,g5⟩:=bQ o4 2
   generalize bW 2 t.2=u at *
   have TE:=k4 o_;have XW:=k5 o_;have g6:=zc hG (1+u.1) (1+t.1) u.2 o_ o_ o5;have hB:=nJ hG (1+u.1);have hl:=hB.len (1+t.1) _ o5;have hk:=hB.ok (1+t.1) _ o5;have hx:=CB (hB.bl (1+t.1) _ o5)
   have hs:sB (1+u.1)<=21:=by exact V115
   have N7:=A4 (show 1+t.1<=4 by omega) hs
   generalize sm (gpV n k false) (1+u.1) (1+t.1) u.2=B at *
   obtain⟨t3,b3,o3,g3⟩:=ey hG hk 3 o_
   generalize exV (gpV n k false) 3 B.2=e at *
   subst hF;have Nb:Tr.lst 1 ((gpV n k false).names.map ao)=Tr.lst 1 (((nm0.map ao).take n).drop (k+1)):=(by simp[gpV,A9,y8]);have Qa:Tr.lst 1 ((gpV n k false).ars.map aa)=Tr.lst 1 (((ar0.map aa).take n).drop (k+1)):=(by simp[gpV,A9,y8]);have NT:[]++List.take (arN k) (arg0.map ao)++([[105],[122]]:List (List UInt8)).map ao=(gpV n k false).vars.map ao:=(by simp[gpV,y8]);have Qz:Tr.int .i64 ((1+t.1:Nat):Int)=Tr.int .i64 (IntKind.i64.wrap (1+(t.1:Int))):=(by rw[c6 _ o_];simp);have PQ:Tr.int .i64 ((1+u.1:Nat):Int)=Tr.int .i64 (IntKind.i64.wrap (1+(u.1:Int))):=(by rw[c6 _ o_];simp);repeat' ((conv=>whnf);first|apply Wx|apply W6|apply oi|apply fi|intro h|refine⟨k,(aa (arN k)),rfl,ab Tb,?_⟩|refine⟨0,arN k,rfl,rfl,w6 _,OJ,?_⟩|refine⟨k+1,n,Nk,rfl,o_,by(rw[N2];omega),?_⟩|refine⟨k+1,n,Nk,rfl,o_,by(rw[Rk];omega),?_⟩|refine⟨k,(ao (nmN k)),rfl,ab N6,?_⟩|exact Y5|refine e_ rfl ?_)
   all_goals try exact⟨OJ⟩
   all_goals try exact Q1
   all_goals try exact⟨MM⟩
   refine cg (g4) ?_;repeat' ((conv=>whnf);first|apply Wx|apply W6|apply oi|apply fi|intro h|exact Y7|refine e_ rfl ?_)
   refine cg (g5) ?_;repeat' ((conv=>whnf);first|apply Wx|apply W6|apply oi|apply fi|intro h|exact Y7|refine e_ rfl ?_)
   refine cg (g6) ?_;repeat' ((conv=>whnf);first|apply Wx|apply W6|apply oi|apply fi|intro h|exact Y7|refine e_ rfl ?_)
   all_goals try exact⟨Nb⟩
   all_goals try exact⟨Qa⟩
   all_goals try exact⟨Qz⟩
   all_goals try exact⟨PQ⟩
   all_goals try exact⟨NT⟩
   all_goals try exact Q1
   refine cg (g3) ?_;repeat' ((conv=>whnf);first|apply Wx|apply W6|apply oi|apply fi|intro h|exact Y7|refine e_ rfl ?_)
   all_goals try exact Q14
   all_goals try exact Q1
   conv=>whnf
   refine⟨⟨(k+1,_,_),g_,s3,Mv,NN,M7⟩,?_,KD⟩;repeat' ((conv=>whnf);first|apply Wx|apply W6|apply oi|apply fi|intro h|exact Y8|refine e_ rfl ?_)
   all_goals try exact Q20
  ·rw[c7 N1]at hF;obtain⟨b7,o7,g7⟩:=gV Oh 5
   generalize jo 5 ci=o at *
   (try dsimp only at hF)
   cases ho:o.1 with
   | true=>
    rw[ho]at hF g7;have hG:=ze (n:=n) (k:=k) true;obtain⟨k4,b4,o4,g4⟩:=bQ o7 4
    generalize bW 4 o.2=t at *
    obtain⟨k5,b5,o5,g5⟩:=bQ o4 2
    generalize bW 2 t.2=u at *
    have TE:=k4 o_;have XW:=k5 o_;have g6:=zc hG (1+u.1) (1+t.1) u.2 o_ o_ o5;have hB:=nJ hG (1+u.1);have hl:=hB.len (1+t.1) _ o5;have hk:=hB.ok (1+t.1) _ o5;have hx:=CB (hB.bl (1+t.1) _ o5)
    have hs:sB (1+u.1)<=21:=by exact V115
    have N7:=A4 (show 1+t.1<=4 by omega) hs
    generalize sm (gpV n k true) (1+u.1) (1+t.1) u.2=B at *
    obtain⟨t3,b3,o3,g3⟩:=ey hG hk 3 o_
    generalize exV (gpV n k true) 3 B.2=e at *
    subst hF;have Nb:Tr.lst 1 ((gpV n k true).names.map ao)=Tr.lst 1 (((nm0.map ao).take n).drop (k)):=(by simp[gpV,A9,y8]);have Qa:Tr.lst 1 ((gpV n k true).ars.map aa)=Tr.lst 1 (((ar0.map aa).take n).drop (k)):=(by simp[gpV,A9,y8]);have NT:[]++List.take (arN k) (arg0.map ao)++([[105],[122]]:List (List UInt8)).map ao=(gpV n k true).vars.map ao:=(by simp[gpV,y8]);have Qz:Tr.int .i64 ((1+t.1:Nat):Int)=Tr.int .i64 (IntKind.i64.wrap (1+(t.1:Int))):=(by rw[c6 _ o_];simp);have PQ:Tr.int .i64 ((1+u.1:Nat):Int)=Tr.int .i64 (IntKind.i64.wrap (1+(u.1:Int))):=(by rw[c6 _ o_];simp);repeat' ((conv=>whnf);first|apply Wx|apply W6|apply oi|apply fi|intro h|refine⟨k,(aa (arN k)),rfl,ab Tb,?_⟩|refine⟨0,arN k,rfl,rfl,w6 _,OJ,?_⟩|refine⟨k+1,n,Nk,rfl,o_,by(rw[N2];omega),?_⟩|refine⟨k+1,n,Nk,rfl,o_,by(rw[Rk];omega),?_⟩|refine⟨k,(ao (nmN k)),rfl,ab N6,?_⟩|exact Y5|refine e_ rfl ?_)
    all_goals try exact⟨OJ⟩
    all_goals try exact Q1
    all_goals try exact⟨MM⟩
    refine cg (g7) ?_;repeat' ((conv=>whnf);first|apply Wx|apply W6|apply oi|apply fi|intro h|refine⟨k,(ao (nmN k)),rfl,ab N6,?_⟩|refine⟨k,n,rfl,rfl,o_,by(rw[N2];omega),?_⟩|refine⟨k,n,rfl,rfl,o_,by(rw[Rk];omega),?_⟩|exact Y5|refine e_ rfl ?_)
    all_goals try exact⟨OJ⟩
    all_goals try exact Q1
    all_goals try exact⟨MM⟩
    refine cg (g4) ?_;repeat' ((conv=>whnf);first|apply Wx|apply W6|apply oi|apply fi|intro h|exact Y7|refine e_ rfl ?_)
    refine cg (g5) ?_;repeat' ((conv=>whnf);first|apply Wx|apply W6|apply oi|apply fi|intro h|exact Y7|refine e_ rfl ?_)
    refine cg (g6) ?_;repeat' ((conv=>whnf);first|apply Wx|apply W6|apply oi|apply fi|intro h|exact Y7|refine e_ rfl ?_)
    all_goals try exact⟨Nb⟩
    all_goals try exact⟨Qa⟩
    all_goals try exact⟨Qz⟩
    all_goals try exact⟨PQ⟩
    all_goals try exact⟨NT⟩
    all_goals try exact Q1
    refine cg (g3) ?_;repeat' ((conv=>whnf);first|apply Wx|apply W6|apply oi|apply fi|intro h|exact Y7|refine e_ rfl ?_)
    all_goals try exact Q14
    all_goals try exact Q1
    conv=>whnf
    refine⟨⟨(k+1,_,_),g_,s3,Mv,NN,M7⟩,?_,KD⟩;repeat' ((conv=>whnf);first|apply Wx|apply W6|apply oi|apply fi|intro h|exact Y8|refine e_ rfl ?_)
    all_goals try exact Q20
   | false=>
    rw[ho]at hF g7;have hG:=ze (n:=n) (k:=k) false;obtain⟨k4,b4,o4,g4⟩:=bQ o7 4
    generalize bW 4 o.2=t at *
    obtain⟨k5,b5,o5,g5⟩:=bQ o4 2
    generalize bW 2 t.2=u at *
    have TE:=k4 o_;have XW:=k5 o_;have g6:=zc hG (1+u.1) (1+t.1) u.2 o_ o_ o5;have hB:=nJ hG (1+u.1);have hl:=hB.len (1+t.1) _ o5;have hk:=hB.ok (1+t.1) _ o5;have hx:=CB (hB.bl (1+t.1) _ o5)
    have hs:sB (1+u.1)<=21:=by exact V115
    have N7:=A4 (show 1+t.1<=4 by omega) hs
    generalize sm (gpV n k false) (1+u.1) (1+t.1) u.2=B at *
    obtain⟨t3,b3,o3,g3⟩:=ey hG hk 3 o_
    generalize exV (gpV n k false) 3 B.2=e at *
    subst hF;have Nb:Tr.lst 1 ((gpV n k false).names.map ao)=Tr.lst 1 (((nm0.map ao).take n).drop (k+1)):=(by simp[gpV,A9,y8]);have Qa:Tr.lst 1 ((gpV n k false).ars.map aa)=Tr.lst 1 (((ar0.map aa).take n).drop (k+1)):=(by simp[gpV,A9,y8]);have NT:[]++List.take (arN k) (arg0.map ao)++([[105],[122]]:List (List UInt8)).map ao=(gpV n k false).vars.map ao:=(by simp[gpV,y8]);have Qz:Tr.int .i64 ((1+t.1:Nat):Int)=Tr.int .i64 (IntKind.i64.wrap (1+(t.1:Int))):=(by rw[c6 _ o_];simp);have PQ:Tr.int .i64 ((1+u.1:Nat):Int)=Tr.int .i64 (IntKind.i64.wrap (1+(u.1:Int))):=(by rw[c6 _ o_];simp);repeat' ((conv=>whnf);first|apply Wx|apply W6|apply oi|apply fi|intro h|refine⟨k,(aa (arN k)),rfl,ab Tb,?_⟩|refine⟨0,arN k,rfl,rfl,w6 _,OJ,?_⟩|refine⟨k+1,n,Nk,rfl,o_,by(rw[N2];omega),?_⟩|refine⟨k+1,n,Nk,rfl,o_,by(rw[Rk];omega),?_⟩|refine⟨k,(ao (nmN k)),rfl,ab N6,?_⟩|exact Y5|refine e_ rfl ?_)
    all_goals try exact⟨OJ⟩
    all_goals try exact Q1
    all_goals try exact⟨MM⟩
    refine cg (g7) ?_;repeat' ((conv=>whnf);first|apply Wx|apply W6|apply oi|apply fi|intro h|refine⟨k,(ao (nmN k)),rfl,ab N6,?_⟩|exact Y5|refine e_ rfl ?_)
    all_goals try exact⟨OJ⟩
    all_goals try exact Q1
    all_goals try exact⟨MM⟩
    refine cg (g4) ?_;repeat' ((conv=>whnf);first|apply Wx|apply W6|apply oi|apply fi|intro h|exact Y7|refine e_ rfl ?_)
    refine cg (g5) ?_;repeat' ((conv=>whnf);first|apply Wx|apply W6|apply oi|apply fi|intro h|exact Y7|refine e_ rfl ?_)
    refine cg (g6) ?_;repeat' ((conv=>whnf);first|apply Wx|apply W6|apply oi|apply fi|intro h|exact Y7|refine e_ rfl ?_)
    all_goals try exact⟨Nb⟩
    all_goals try exact⟨Qa⟩
    all_goals try exact⟨Qz⟩
    all_goals try exact⟨PQ⟩
    all_goals try exact⟨NT⟩
    all_goals try exact Q1
    refine cg (g3) ?_;repeat' ((conv=>whnf);first|apply Wx|apply W6|apply oi|apply fi|intro h|exact Y7|refine e_ rfl ?_)
    all_goals try exact Q14
    all_goals try exact Q1
    conv=>whnf
    refine⟨⟨(k+1,_,_),g_,s3,Mv,NN,M7⟩,?_,KD⟩;repeat' ((conv=>whnf);first|apply Wx|apply W6|apply oi|apply fi|intro h|exact Y8|refine e_ rfl ?_)
    all_goals try exact Q20
 ·have OM:k=n:=o_;subst OM;rw[w9]at NN M7;simp only[ju,m6]at NN M7;subst NN;subst M7;dsimp only at VA;refine nU ⟨[(0,gA),(5,tI .i64 (k:Int)),(6,.r (.c (.t (.lst 4 ((acc.map drP).map fun x=>x.map DC.tr))))),(7,tI .i64 (k:Int))],[((0,0,0),some (.box [.t (.lst 1 (ci.b.map aY)),.t (.int .i64 ci.i),.t (.int .i64 ci.h)]))],[15,0]⟩ ?_ ?_ rfl ?_
  ·refine⟨.inl rfl,.inl rfl,.inr ⟨_,_,rfl,rfl,rfl,?_⟩,.inl rfl,trivial⟩;intro q hq;simp only[AC.ids,d6,l4,or_false]at hq;subst hq;rfl
  ·exact⟨.inr rfl,trivial⟩
  refine sr 6 rfl (EM VA) ?_;exact Z7
theorem vO {l:List LO}(h:∀x∈l,PL x)(hl:l.length<=800):aw 1048576 (.lst 4 (l.map LO.tr)):=by
 refine fT o_ fun x hx=>?_;have hp:=h x hx
 have h1:aw 1048576 (.lst 1 (x.L5.map ao)):=fT (by have:=hp.args.1;omega) fun s hs=>by
  have:=hp.args.2 s hs;simp only[ao,aF,aw];exact⟨o_,trivial⟩
 have h2:aw 1048576 (.lst 3 (x.K9.map LY.tr)):=fT (by have:=hp.len;omega) fun t ht=>by
  have:=hp.tok t ht;simp only[LY.tr,aF,aw];exact⟨trivial,trivial,o_,trivial⟩
 have h3:=hp.name;exact⟨trivial,by simp only[aw];omega,h1,h2,trivial⟩
def fbP:List LO:=[⟨0,[109,97,105,110],[],[]⟩,⟨2,[],[],[⟨0,1,[]⟩]⟩,⟨6,[],[],[⟨0,1,[]⟩]⟩,⟨7,[],[],[]⟩]
theorem KL:ah fbP=true:=by decide
theorem Kg:∀x∈fbP,PL x:=by intro x hx;simp only[fbP,d6,l4,or_false]at hx;rcases hx with rfl|rfl|rfl|rfl;all_goals exact⟨s_,s_,s_,s_,s_,s_⟩
noncomputable def jH:Nat->LG->List LO×LG
 | 0,c=>(fbP,c)
 | r+1,c=>if ah (kS c).1=true then kS c else jH r (kS c).2
theorem AZ:∀(r:Nat) (c:LG),c.ok->ah (jH r c).1=true/\(jH r c).1.length<=800/\(jH r c).2.b=c.b/\(jH r c).2.ok/\∀x∈(jH r c).1,PL x
 | 0,c,hc=>⟨KL,by simp[jH,fbP],rfl,hc,Kg⟩
 | r+1,c,hc=>by
  obtain⟨h1,h2,h3,h4⟩:=EU hc;rw[jH];split
  ·rename_i h;exact⟨h,h1,h2,h3,h4⟩
  ·obtain⟨i1,i2,i3,i4,i5⟩:=AZ r _ h3;exact⟨i1,i2,i3.trans h2,i4,i5⟩
theorem Lx:emR [[.int .i64 0,.str [109,97,105,110],.lst 0 [],.lst 0 []],[.int .i64 2,.str [],.lst 0 [],.lst 3 [[.int .i64 0,.int .i64 1,.str []]]],[.int .i64 6,.str [],.lst 0 [],.lst 3 [[.int .i64 0,.int .i64 1,.str []]]],[.int .i64 7,.str [],.lst 0 [],.lst 0 []]] (fbP.map LO.tr):=by
 refine⟨⟨rfl,fun p c d hc hd=>?_⟩,⟨rfl,fun p c d hc hd=>?_⟩,⟨rfl,fun p c d hc hd=>?_⟩,⟨rfl,fun p c d hc hd=>?_⟩,trivial⟩
 all_goals(
  match p with
  | 0=>simp[LO.tr]at hc hd;subst hc;subst hd;exact .inl rfl
  | 1=>simp[LO.tr]at hc hd;subst hc;subst hd;exact .inl rfl
  | 2=>simp[LO.tr]at hc hd;subst hc;subst hd;exact .inr ⟨_,_,rfl,rfl⟩
  | 3=>simp[LO.tr,LY.tr]at hc hd;subst hc;subst hd;first|exact .inl rfl|exact .inr ⟨_,_,rfl,rfl⟩
  | p+4=>simp at hc)
theorem V87{p:Prop}(h:p:=by
 refine⟨.inr ⟨_,_,rfl,rfl,rfl,?_⟩,trivial⟩
 intro q hq;simp only[AC.ids,d6,l4,or_false]at hq;subst hq;rfl):p:=h
theorem pZ (c:LG)(hc:c.ok):bA prog 94 [gA] (fm c) (.r (.c (.t (.lst 4 ((jH 5 c).1.map LO.tr))))) (fm (jH 5 c).2):=by
 refine az hΓ aG func94 rfl d_ rfl rfl ?_
 generalize hR:jH 5 c=R at *
 repeat' ((conv=>whnf);first|apply Wx|apply W6|apply oi|apply fi|intro h|exact Y7|refine e_ rfl ?_)
 conv=>whnf
 refine⟨{q:Nat×LG//q.1<=5/\q.2.ok/\jH (5-q.1) q.2=R},fun q=>⟨[(0,gA),(3,tI .i64 (q.1.1:Int))],[((0,0,0),some (.box [.t (.lst 1 (q.1.2.b.map aY)),.t (.int .i64 q.1.2.i),.t (.int .i64 q.1.2.h)]))],[0]⟩,fun q=>5-q.1.1,⟨(0,c),g_,hc,hR⟩,?_,?_⟩
 ·exact Z2
 intro⟨⟨k,ci⟩,hi,Oh,hr⟩;dsimp only at hi Oh hr⊢;by_cases My:k<5
 ·obtain⟨m,hm⟩:∃m,5-k=m+1:=⟨5-k-1,o_⟩;rw[hm,jH]at hr;have gP:=qE ci Oh;obtain⟨h1,h2,h3,h4⟩:=EU Oh;have hO:=dM (kS ci).1 (vO h4 h1)
  generalize kS ci=Q at *
  cases hq:ah Q.1 with
  | true=>
   rw[c7 hq]at hr;subst hr;rw[hq]at hO;repeat' ((conv=>whnf);first|apply Wx|apply W6|apply oi|apply fi|intro h|exact Y7|refine e_ rfl ?_)
   refine cg (gP) ?_
   repeat' ((conv=>whnf);first|apply Wx|apply W6|apply oi|apply fi|intro h|refine cl hO ?_|exact Y5|refine e_ rfl ?_)
  | false=>
   rw[b8 (by simp[hq])]at hr;rw[hq]at hO;repeat' ((conv=>whnf);first|apply Wx|apply W6|apply oi|apply fi|intro h|exact Y7|refine e_ rfl ?_)
   refine cg (gP) ?_;repeat' ((conv=>whnf);first|apply Wx|apply W6|apply oi|apply fi|intro h|refine cl hO ?_|exact Y5|refine e_ rfl ?_)
   conv=>whnf
   refine⟨⟨(k+1,Q.2),g_,h3,by dsimp only;rw[show 5-(k+1)=m by omega];exact hr⟩,?_,KD⟩;exact Z6
 ·have hk:k=5:=o_;subst hk;rw[show(5:Nat)-5=0 from rfl,jH]at hr;subst hr;repeat' ((conv=>whnf);first|(with_reducible apply W1;fail_if_success (with_reducible show Wo _ _ _ _ (Code.region 8 _ _) _ _))|(with_reducible first|apply W2|apply W3|apply W4|apply W5|apply W6|apply W7|apply W8|apply W9)|apply aB|apply oi|apply fi|intro h|exact Y5|refine e_ rfl ?_)
  conv=>whnf
  refine nU ⟨[(5,.r (.c (.t (.lst 3 [[.int .i64 0,.int .i64 1,.str []]]))))],[((0,0,0),some (.box [.t (.lst 1 (ci.b.map aY)),.t (.int .i64 ci.i),.t (.int .i64 ci.h)]))],[16,0]⟩ ?_ ?_ rfl ?_
  ·exact V87
  ·exact⟨.inr rfl,trivial⟩
  repeat' ((conv=>whnf);first|(with_reducible first|apply W1|apply W2)|apply aB|refine oi ?_ ?_|exact Y7|refine e_ rfl ?_)
  conv=>whnf
  refine nU ⟨[(2,.r (.c (.t (.lst 4 [[.int .i64 0,.str [109,97,105,110],.lst 0 [],.lst 0 []],[.int .i64 2,.str [],.lst 0 [],.lst 3 [[.int .i64 0,.int .i64 1,.str []]]],[.int .i64 6,.str [],.lst 0 [],.lst 3 [[.int .i64 0,.int .i64 1,.str []]]],[.int .i64 7,.str [],.lst 0 [],.lst 0 []]]))))],[((0,0,0),some (.box [.t (.lst 1 (ci.b.map aY)),.t (.int .i64 ci.i),.t (.int .i64 ci.h)]))],[23,16,0]⟩ ?_ ?_ rfl ?_
  ·exact V87
  ·exact⟨.inr rfl,trivial⟩
  refine sr 2 rfl Lx ?_;exact Z2
abbrev Ly (code:List UInt8):AV:= .r (.c (.t (.lst 1 (code.map aY))))
theorem IH {code:List UInt8}(hl:code.length<=1048576):(⟨code,0,Hu code⟩:LG).ok:=⟨s_,hl⟩
theorem EW {rows:List (List Tr)}(h:∀r∈rows,∃n,r=[.int .u8 n]/\(Lit.int .u8 n).wf=true):∃bs:List UInt8,rows=bs.map aY:=by
 obtain⟨bs,hb,_⟩:=Af (g:=aY) (Q:=fun _=>True) (rows:=rows) fun r hr=>by
  obtain⟨n,rfl,hw⟩:=h r hr;have h1:IntKind.u8.min<=n/\n<=IntKind.u8.max:=by simpa [Lit.wf]using hw
  have h2:0<=n/\n<=255:=h1;refine⟨UInt8.ofNat n.toNat,?_,trivial⟩;rw[aY,show(UInt8.ofNat n.toNat).toNat=n.toNat by simp;omega,E5 h2.1]
 exact⟨bs,hb⟩
end Go.Proofs.P
