import Derived.Test.YtoglejgmjeojoaaGreatGh
set_option maxRecDepth 100000
set_option maxHeartbeats 4000000
namespace Go.Proofs.P
open Go.Sim Tryz
abbrev Lc (x:Int×Int):Res:= .tup [.c (.t (.int .i64 x.1)),.c (.t (.int .i64 x.2))]
theorem V37{p:Prop}(h:p:=by
 have:k=0\/k=1:=o_;rcases this with rfl|rfl
 ·exact⟨i0,b0,rfl,rfl,O3,T4,fun h=>by rw[<-hR,dF,c7 h];rfl,fun h=>⟨fun _=>h,fun h2=>o_⟩⟩
 ·exact⟨i1,b1,rfl,rfl,Nk,PP,fun h=>by rw[<-hR,dF,b8 (hk1 o_),c7 h];rfl,fun h=>⟨fun _=>hk1 o_,fun _=>h⟩⟩):p:=h
theorem V99{p:Prop}(h:p:=by
 have O7:k=2:=o_;subst O7;have PH:R=(-1,-1):=by rw[<-hR,dF,b8 (hk1 o_),b8 (MO o_)]
 subst PH
 exact Z1):p:=h
theorem og (i0 i1:LM)(b0 b1 e:Int)(es:List Int)(O3:0<=b0/\b0<=1000000)(Nk:0<=b1/\b1<=1000000)(T4:i0.I9.length<=1048576)(PP:i1.I9.length<=1048576):Sim.Spec prog 137 [.agg (LX.mk [i0,i1] [b0,b1] es).tr,tvI e] (Lc (dF i0 i1 b0 b1 e)):=by
 refine ak hΓ aG func137 rfl d_ rfl ?_;generalize hR:dF i0 i1 b0 b1 e=R;repeat' ((conv=>whnf);first|refine Or.inl ?_|apply oi|apply fi|intro h|exact Y1|refine e_ rfl ?_)
 conv=>whnf
 refine⟨{k:Nat//k<=2/\(1<=k->¬(b0<=e/\e<b0+i0.I9.length))/\(2<=k->¬(b1<=e/\e<b1+i1.I9.length))},fun k=>⟨[(1,tI .i64 e),(2,.r (.c (.ptr (2,0,0) 0))),(9,.r (.c (.t (.lst 2 [i0.tr,i1.tr])))),(10,tI .i64 2),(11,tI .i64 (k.1:Int))],[((2,0,0),some (.box (ta i0 i1 b0 b1 es)))],[2]⟩,fun k=>2-k.1,⟨0,o_,o_,o_⟩,?_,?_⟩
 ·exact Z1
 intro⟨k,hk,hk1,MO⟩;dsimp only;by_cases Mz:k<2
 ·obtain⟨i,b,hi,hb,Ob,Oh,OE,MR⟩:∃(i:LM) (b:Int),([i0.tr,i1.tr]:List (List Tr))[k]?=some i.tr/\([aa b0,aa b1]:List (List Tr))[k]?=some (aa b)/\(0<=b/\b<=1000000)/\i.I9.length<=1048576/\
    (b<=e/\e<b+i.I9.length->R=((k:Int),e-b))/\(¬(b<=e/\e<b+i.I9.length)->(1<=k+1->¬(b0<=e/\e<b0+i0.I9.length))/\(2<=k+1->¬(b1<=e/\e<b1+i1.I9.length))):=by
   exact V37
  by_cases hin:b<=e/\e<b+i.I9.length
  ·have PH:=OE hin;have OM:IntKind.i64.wrap (e-b)=e-b:=c6 _ o_;have hB:=ba e b (b+i.I9.length-1);rw[within_iff.2 ⟨hin.1,o_⟩]at hB;subst PH;repeat' ((conv=>whnf);first|refine Or.inl ?_|apply oi|apply fi|intro h|refine⟨k,i.tr,rfl,hi,?_⟩|refine⟨k,aa b,rfl,hb,?_⟩|refine ci hB (ai rfl (ai rfl (ai KW trivial))) ?_|exact Y1|refine e_ rfl ?_)
   all_goals first
    |(exfalso;have h':=f9 h;omega)
    |(refine⟨congrArg (Tr.int _) ?_⟩;rw[OM])
  ·have hB:=ba e b (b+i.I9.length-1)
   have VX:af e b (b+i.I9.length-1)=false:=by cases hw:af e b (b+i.I9.length-1)with|false=>rfl|true=>have:=within_iff.1 hw;exact absurd ⟨this.1,o_⟩ hin
   rw[VX]at hB;repeat' ((conv=>whnf);first|refine Or.inl ?_|apply oi|apply fi|intro h|refine⟨k,i.tr,rfl,hi,?_⟩|refine⟨k,aa b,rfl,hb,?_⟩|refine ci hB (ai rfl (ai rfl (ai KW trivial))) ?_|exact Y1|refine e_ rfl ?_)
   all_goals try exact Q19
   all_goals conv=>whnf
   all_goals refine⟨⟨k+1,o_,MR hin⟩,?_,KD⟩
   repeat' ((conv=>whnf);first|refine Or.inl ?_|apply oi|apply fi|intro h|exact Y1|refine e_ rfl ?_)
   all_goals exact Q3
 ·exact V99
theorem kW (i0 i1:LM)(b0 b1 e:Int)(es:List Int)(O3:0<=b0/\b0<=1000000)(Nk:0<=b1/\b1<=1000000)(T4:i0.I9.length<=1048576)(PP:i1.I9.length<=1048576):Sim.Spec prog 135 [.agg (LX.mk [i0,i1] [b0,b1] es).tr,tvI e] (Lc (dF i0 i1 b0 b1 e)):=by
 refine ak hΓ aG func135 rfl d_ rfl ?_;have h2:([i0.tr,i1.tr]:List (List Tr)).length=2:=rfl;generalize hR:dF i0 i1 b0 b1 e=R;repeat' ((conv=>whnf);first|refine Or.inl ?_|apply oi|apply fi|intro h|exact Y1|refine e_ rfl ?_)
 conv=>whnf
 refine⟨{k:Nat//k<=2/\(1<=k->¬(b0<=e/\e<b0+i0.I9.length))/\(2<=k->¬(b1<=e/\e<b1+i1.I9.length))},fun k=>⟨[(1,tI .i64 e),(2,.r (.c (.ptr (2,0,0) 0))),(6,tI .i64 (k.1:Int))],[((2,0,0),some (.box (ta i0 i1 b0 b1 es)))],[2]⟩,fun k=>2-k.1,⟨0,o_,o_,o_⟩,?_,?_⟩
 ·exact Z1
 intro⟨k,hk,hk1,MO⟩;dsimp only;by_cases Mz:k<2
 ·obtain⟨i,b,hi,hb,Ob,Oh,OE,MR⟩:∃(i:LM) (b:Int),([i0.tr,i1.tr]:List (List Tr))[k]?=some i.tr/\([aa b0,aa b1]:List (List Tr))[k]?=some (aa b)/\(0<=b/\b<=1000000)/\i.I9.length<=1048576/\
    (b<=e/\e<b+i.I9.length->R=((k:Int),e-b))/\(¬(b<=e/\e<b+i.I9.length)->(1<=k+1->¬(b0<=e/\e<b0+i0.I9.length))/\(2<=k+1->¬(b1<=e/\e<b1+i1.I9.length))):=by
   exact V37
  by_cases hin:b<=e/\e<b+i.I9.length
  ·have PH:=OE hin;have OM:IntKind.i64.wrap (e-b)=e-b:=c6 _ o_;have SY:IntKind.i64.wrap (b+(i.I9.length:Int))=b+i.I9.length:=c6 _ o_;subst PH;repeat' ((conv=>whnf);first|refine Or.inl ?_|apply oi|apply fi|intro h|refine⟨k,i.tr,rfl,hi,?_⟩|refine⟨k,aa b,rfl,hb,?_⟩|exact Y1|refine e_ rfl ?_)
   all_goals first
    |(exfalso;have h':=f9 h;(try rw[SY]at h');(try rw[h2]at h');omega)
    |(refine⟨congrArg (Tr.int _) ?_⟩;rw[OM])
  ·have SY:IntKind.i64.wrap (b+(i.I9.length:Int))=b+i.I9.length:=c6 _ o_;repeat' ((conv=>whnf);first|refine Or.inl ?_|apply oi|apply fi|intro h|refine⟨k,i.tr,rfl,hi,?_⟩|refine⟨k,aa b,rfl,hb,?_⟩|exact Y1|refine e_ rfl ?_)
   all_goals try(exfalso;first|(have h':=f9 h;rw[h2]at h';omega)|(rename_i a1;have c1:=f0 a1;have c2:=f0 h;rw[SY]at c2;exact hin ⟨c1,c2⟩))
   all_goals conv=>whnf
   all_goals refine⟨⟨k+1,o_,MR hin⟩,?_,KD⟩
   repeat' ((conv=>whnf);first|refine Or.inl ?_|apply oi|apply fi|intro h|exact Y1|refine e_ rfl ?_)
   all_goals exact Q3
 ·exact V99
theorem mC {s:LX}:(∃i0 i1 b0 b1,s=⟨[i0,i1],[b0,b1],s.L9⟩)\/(ce s=false/\¬(s.Mp.length=2/\s.Mr.length=2)):=by
 obtain⟨im,bs,es⟩:=s
 match im,bs with|[i0,i1],[b0,b1]=>exact .inl ⟨i0,i1,b0,b1,rfl⟩|[],_=>exact .inr ⟨rfl,s_⟩|[_],_=>exact .inr ⟨rfl,s_⟩|_::_::_::_,_=>exact .inr ⟨rfl,s_⟩|[_,_],[]=>exact .inr ⟨rfl,s_⟩|[_,_],[_]=>exact .inr ⟨rfl,s_⟩|[_,_],_::_::_::_=>exact .inr ⟨rfl,s_⟩
theorem uQ (s:LX)(hs:aF 1048576 s.tr):Sim.Spec prog 89 [.agg s.tr] (rB (ce s)):=by
 rcases mC (s:=s)with⟨i0,i1,b0,b1,h⟩|⟨h,hn⟩
 ·rw[h]at hs⊢;exact tN i0 i1 b0 b1 s.L9 hs
 ·rw[h];have l1:(s.Mp.map LM.tr).length=s.Mp.length:=s_;have l2:(s.Mr.map aa).length=s.Mr.length:=s_;refine ak hΓ aG func89 rfl d_ rfl ?_;repeat' ((conv=>whnf);first|refine Or.inl ?_|apply oi|apply fi|intro h|refine ci (ba _ _ _) (ai rfl (ai rfl (ai rfl trivial))) ?_|exact Y1|refine e_ rfl ?_)
  all_goals(exfalso;apply hn;(simp_all)<;>(constructor<;>omega))
theorem Q12{p:Prop}(h:p:=by exfalso;first|(have h':=f9 h;rw[Mw]at h';omega)|(have h':=f0 h;omega)|(simp only[bne,Pe]at h;simp at h;first|done|fail)):p:=h
theorem tR (i0 i1:LM)(b0 b1:Int)(es:List Int)(hs:aF 1048576 (LX.mk [i0,i1] [b0,b1] es).tr):Sim.Spec prog 65 [.agg (LX.mk [i0,i1] [b0,b1] es).tr] (rB (eu i0 i1 b0 b1 es)):=by
 refine ak hΓ aG func65 rfl d_ rfl ?_;have Mw:(es.map aa).length=es.length:=s_;have hE:=aP es.length 1 6;unfold eu
 cases hw:af es.length 1 6 with
 | false=>exact V52
 | true=>
  rw[hw]at hE;repeat' ((conv=>whnf);first|refine Or.inl ?_|apply oi|apply fi|intro h|refine ci hE (ai KW (ai rfl (ai rfl trivial))) ?_|exact Y1|refine e_ rfl ?_)
  all_goals try exact Q4
  have NC:=hs;simp only[LX.tr,aF]at NC;have TE:=NC.1;have RX:aF 1048576 i0.tr:=bg TE s_;have PE:aF 1048576 i1.tr:=bg TE s_;have OP:i0.I9.length<=1048576:=by have:=RX;simp only[LM.tr,aF,aw]at this;omega
  have N7:i1.I9.length<=1048576:=by have:=PE;simp only[LM.tr,aF,aw]at this;omega
  have Sj:i0.L8.length<=1048576:=by have:=RX;simp only[LM.tr,aF]at this;exact bE this.2.1
  have Sp:i1.L8.length<=1048576:=by have:=PE;simp only[LM.tr,aF]at this;exact bE this.2.1
  have M6:es.length<=1048576:=bE NC.2.2.1;rw[m9];generalize hR:(bp i0&&(af b0 1 1000000&&(bp i1&&(af b1 1 1000000&&(!(cU i0 i1 b0 b1)&&es.all fun e=>bx i0 b0 e||bx i1 b1 e)))))=R;conv=>whnf
  refine⟨{k:Nat//k<=2/\(1<=k->bp i0=true/\af b0 1 1000000=true)/\(2<=k->bp i1=true/\af b1 1 1000000=true)},fun k=>⟨[(1,.r (.c (.ptr (1,0,0) 0))),(3,tI .i64 (k.1:Int))],[((1,0,0),some (.box (ta i0 i1 b0 b1 es)))],[1]⟩,fun k=>2-k.1,⟨0,o_,o_,o_⟩,?_,?_⟩
  ·exact Z1
  intro⟨k,hk,hk1,MO⟩;dsimp only;by_cases Mz:k<2
  ·obtain⟨i,b,hi,hb,WS,QG,PU,OE⟩:∃(i:LM) (b:Int),([i0.tr,i1.tr]:List (List Tr))[k]?=some i.tr/\([aa b0,aa b1]:List (List Tr))[k]?=some (aa b)/\aF 1048576 i.tr/\
     (bp i=false->R=false)/\(af b 1 1000000=false->R=false)/\(bp i=true->af b 1 1000000=true->(1<=k+1->bp i0=true/\af b0 1 1000000=true)/\(2<=k+1->bp i1=true/\af b1 1 1000000=true)):=by
    exact V31
   have hI:=vQ i WS;have hB:=aP b 1 1000000;exact V4
  ·have O7:k=2:=o_;subst O7;obtain⟨g0,w0⟩:=hk1 o_;obtain⟨g1,w1⟩:=MO o_;have v0:=within_iff.1 w0;have v1:=within_iff.1 w1;rw[g0,g1,w0,w1,m9,m9,m9,m9]at hR;have x0:IntKind.i64.wrap (b1+(i1.I9.length:Int))=b1+i1.I9.length:=c6 _ o_;have x1:IntKind.i64.wrap (b0+(i0.I9.length:Int))=b0+i0.I9.length:=c6 _ o_
   cases ho:cU i0 i1 b0 b1 with
   | true=>exact V15
   | false=>
    rw[ho,F2,m9]at hR
    have MR:¬(0<i0.I9.length/\0<i1.I9.length/\b0<b1+i1.I9.length/\b1<b0+i0.I9.length):=by exact V106
    have m0:=dW (imageOk_iff.1 g0).2 o_;have m1:=dW (imageOk_iff.1 g1).2 o_;have l0:=(imageOk_iff.1 g0).1;have l1:=(imageOk_iff.1 g1).1;repeat' ((conv=>whnf);first|refine Or.inl ?_|apply oi|apply fi|intro h|refine⟨0,_,rfl,rfl,?_⟩|refine⟨1,_,rfl,rfl,?_⟩|exact Y1|refine e_ rfl ?_)
    all_goals try(
     exfalso;rename_i a1 a2 a3;have c1:=f0 a1;have c2:=f0 a2;have c3:=f0 a3;have c4:=f0 h;rw[x0]at c3;rw[x1]at c4
     exact MR ⟨o_,o_,c3,c4⟩)
    all_goals(
     conv=>whnf
     refine⟨{j:Nat//j<=es.length/\((es.drop j).all fun e=>bx i0 b0 e||bx i1 b1 e)=R},fun j=>⟨[(1,.r (.c (.ptr (1,0,0) 0))),(6,tI .i64 (j.1:Int))],[((1,0,0),some (.box (ta i0 i1 b0 b1 es)))],[1]⟩,fun j=>es.length-j.1,⟨0,o_,hR⟩,?_,?_⟩
     ·exact Z1
     intro⟨j,hj,hr⟩;dsimp only;by_cases NP:j<es.length
     ·obtain⟨e,he⟩:=ae NP;have Oe:=kW i0 i1 b0 b1 e es o_ o_ OP N7;rw[cF he,E7,<-CK g0 g1 ho,CX]at hr;by_cases c0:b0<=e/\e<b0+i0.I9.length
      ·have Oa:dF i0 i1 b0 b1 e=(0,e-b0):=(by rw[dF,c7 c0]);rw[Oa]at Oe hr;rw[c7 rfl]at hr;have hS:=lL i0 (e-b0) Sj;have Ri:=mQ i0.L8 (e-b0);dsimp only at hr;rw[nt]at hr
       generalize eR i0.L8 (e-b0)=K at *
       rcases Ri with rfl|⟨q0,q1⟩
       ·rw[show decide ((0:Int)<=-1)=false from rfl,s9,s9]at hr;subst hr;repeat' ((conv=>whnf);first|refine Or.inl ?_|apply oi|apply fi|intro h|refine⟨j,aa e,rfl,ab he,?_⟩|refine ci Oe (ai (ai rfl (ai rfl (ai rfl trivial))) (ai rfl trivial)) ?_|refine⟨0,i0.tr,rfl,rfl,?_⟩|refine ci hS (ai (ai rfl (ai rfl trivial)) (ai rfl trivial)) ?_|exact Y1|refine e_ rfl ?_)
        all_goals(exfalso;first|(have h':=f9 h;rw[Mw]at h';omega)|(simp at h;done)|(have h':=f0 h;omega))
       ·obtain⟨n,rfl⟩:=j6 q0;obtain⟨x,hx⟩:=ae (l:=i0.L8) (k:=n) o_;rw[d7,hx,q9 q0,m9]at hr;dsimp only at hr
        cases Pe:(x.L4==e-b0)with
        | false=>
         rw[Pe,s9]at hr;subst hr;repeat' ((conv=>whnf);first|refine Or.inl ?_|apply oi|apply fi|intro h|refine⟨j,aa e,rfl,ab he,?_⟩|refine ci Oe (ai (ai rfl (ai rfl (ai rfl trivial))) (ai rfl trivial)) ?_|refine⟨0,i0.tr,rfl,rfl,?_⟩|refine ci hS (ai (ai rfl (ai rfl trivial)) (ai rfl trivial)) ?_|refine⟨n,x.tr,rfl,ab hx,?_⟩|exact Y1|refine e_ rfl ?_)
         all_goals(exfalso;first|(have h':=f9 h;rw[Mw]at h';omega)|(have h':=f0 h;omega)|(simp only[bne,Pe]at h;simp at h;done))
        | true=>
         rw[Pe,m9]at hr;repeat' ((conv=>whnf);first|refine Or.inl ?_|apply oi|apply fi|intro h|refine⟨j,aa e,rfl,ab he,?_⟩|refine ci Oe (ai (ai rfl (ai rfl (ai rfl trivial))) (ai rfl trivial)) ?_|refine⟨0,i0.tr,rfl,rfl,?_⟩|refine ci hS (ai (ai rfl (ai rfl trivial)) (ai rfl trivial)) ?_|refine⟨n,x.tr,rfl,ab hx,?_⟩|exact Y1|refine e_ rfl ?_)
         all_goals try exact Q12
         conv=>whnf
         refine⟨⟨j+1,o_,hr⟩,?_,KD⟩;repeat' ((conv=>whnf);first|refine Or.inl ?_|apply oi|apply fi|intro h|exact Y1|refine e_ rfl ?_)
         all_goals exact Q3
      ·by_cases c1:b1<=e/\e<b1+i1.I9.length
       ·have Oa:dF i0 i1 b0 b1 e=(1,e-b1):=(by rw[dF,b8 c0,c7 c1]);rw[Oa]at Oe hr;rw[b8 s_,c7 rfl]at hr;have hS:=lL i1 (e-b1) Sp;have Ri:=mQ i1.L8 (e-b1);dsimp only at hr;rw[nt]at hr
        generalize eR i1.L8 (e-b1)=K at *
        rcases Ri with rfl|⟨q0,q1⟩
        ·rw[show decide ((0:Int)<=-1)=false from rfl,s9,s9]at hr;subst hr;repeat' ((conv=>whnf);first|refine Or.inl ?_|apply oi|apply fi|intro h|refine⟨j,aa e,rfl,ab he,?_⟩|refine ci Oe (ai (ai rfl (ai rfl (ai rfl trivial))) (ai rfl trivial)) ?_|refine⟨1,i1.tr,rfl,rfl,?_⟩|refine ci hS (ai (ai rfl (ai rfl trivial)) (ai rfl trivial)) ?_|exact Y1|refine e_ rfl ?_)
         all_goals(exfalso;first|(have h':=f9 h;rw[Mw]at h';omega)|(simp at h;done)|(have h':=f0 h;omega))
        ·obtain⟨n,rfl⟩:=j6 q0;obtain⟨x,hx⟩:=ae (l:=i1.L8) (k:=n) o_;rw[d7,hx,q9 q0,m9]at hr;dsimp only at hr
         cases Pe:(x.L4==e-b1)with
         | false=>
          rw[Pe,s9]at hr;subst hr;repeat' ((conv=>whnf);first|refine Or.inl ?_|apply oi|apply fi|intro h|refine⟨j,aa e,rfl,ab he,?_⟩|refine ci Oe (ai (ai rfl (ai rfl (ai rfl trivial))) (ai rfl trivial)) ?_|refine⟨1,i1.tr,rfl,rfl,?_⟩|refine ci hS (ai (ai rfl (ai rfl trivial)) (ai rfl trivial)) ?_|refine⟨n,x.tr,rfl,ab hx,?_⟩|exact Y1|refine e_ rfl ?_)
          all_goals(exfalso;first|(have h':=f9 h;rw[Mw]at h';omega)|(have h':=f0 h;omega)|(simp only[bne,Pe]at h;simp at h;done))
         | true=>
          rw[Pe,m9]at hr;repeat' ((conv=>whnf);first|refine Or.inl ?_|apply oi|apply fi|intro h|refine⟨j,aa e,rfl,ab he,?_⟩|refine ci Oe (ai (ai rfl (ai rfl (ai rfl trivial))) (ai rfl trivial)) ?_|refine⟨1,i1.tr,rfl,rfl,?_⟩|refine ci hS (ai (ai rfl (ai rfl trivial)) (ai rfl trivial)) ?_|refine⟨n,x.tr,rfl,ab hx,?_⟩|exact Y1|refine e_ rfl ?_)
          all_goals try exact Q12
          conv=>whnf
          refine⟨⟨j+1,o_,hr⟩,?_,KD⟩;repeat' ((conv=>whnf);first|refine Or.inl ?_|apply oi|apply fi|intro h|exact Y1|refine e_ rfl ?_)
          all_goals exact Q3
       ·have Oa:dF i0 i1 b0 b1 e=(-1,-1):=(by rw[dF,b8 c0,b8 c1]);rw[Oa]at Oe hr;rw[b8 s_,b8 s_,s9]at hr;subst hr;repeat' ((conv=>whnf);first|refine Or.inl ?_|apply oi|apply fi|intro h|refine⟨j,aa e,rfl,ab he,?_⟩|refine ci Oe (ai (ai rfl (ai rfl (ai rfl trivial))) (ai rfl trivial)) ?_|exact Y1|refine e_ rfl ?_)
        all_goals(exfalso;first|(have h':=f9 h;rw[Mw]at h';omega)|(simp at h;done))
     ·have MT:es.length<=j:=o_;rw[n9 MT,List.all_nil]at hr;subst hr;repeat' ((conv=>whnf);first|refine Or.inl ?_|apply oi|apply fi|intro h|exact Y1|refine e_ rfl ?_)
      all_goals(exfalso;have h':=f0 h;rw[Mw]at h';omega))
theorem gx (s:LX)(hs:aF 1048576 s.tr):Sim.Spec prog 65 [.agg s.tr] (rB (ce s)):=by
 rcases mC (s:=s)with⟨i0,i1,b0,b1,h⟩|⟨h,hn⟩
 ·rw[h]at hs⊢;exact tR i0 i1 b0 b1 s.L9 hs
 ·rw[h];have l1:(s.Mp.map LM.tr).length=s.Mp.length:=s_;have l2:(s.Mr.map aa).length=s.Mr.length:=s_;refine ak hΓ aG func65 rfl d_ rfl ?_;repeat' ((conv=>whnf);first|refine Or.inl ?_|apply oi|apply fi|intro h|refine ci (aP _ _ _) (ai rfl (ai rfl (ai rfl trivial))) ?_|exact Y1|refine e_ rfl ?_)
  all_goals(exfalso;apply hn;(simp_all)<;>(constructor<;>omega))
theorem mi {s:LX}(h:ce s=true):∃i0 i1 b0 b1,s=⟨[i0,i1],[b0,b1],s.L9⟩/\(1<=s.L9.length/\s.L9.length<=6)/\(bp i0=true/\1<=b0/\b0<=1000000)/\(bp i1=true/\1<=b1/\b1<=1000000)/\cU i0 i1 b0 b1=false/\∀e∈s.L9,(bx i0 b0 e||bx i1 b1 e)=true:=by
 rcases mC (s:=s)with⟨i0,i1,b0,b1,hs⟩|⟨h',_⟩
 ·refine⟨i0,i1,b0,b1,hs,?_⟩;rw[hs,ce]at h;dsimp only at h;rw[eu,b9,b9,b9,b9,b9,b9,within_iff,within_iff,within_iff,o8,u9]at h;obtain⟨h1,h2,h3,h4,h5,h6,h7⟩:=h;exact⟨o_,⟨h2,h3⟩,⟨h4,h5⟩,h6,h7⟩
 ·rw[h']at h;cases h
def Lq:LQ:=⟨0,0,0,[],[],0,0⟩
def Al (s:LX):LQ:=if ce s then⟨s.L9.headD 0,1199,1200,List.replicate 1200 0,[],0,0⟩else Lq
theorem qN (s:LX)(hs:aF 1048576 s.tr):Sim.Spec prog 13 [.agg s.tr] (.tup [.agg ((Al s).tr.map tD),.c (.t (.bool (ce s)))]):=by
 refine ak hΓ aG func13 rfl d_ rfl ?_;have hS:=gx s hs;unfold Al
 cases MC:ce s with
 | false=>
  rw[MC]at hS
  repeat' ((conv=>whnf);first|refine Or.inl ?_|apply oi|apply fi|intro h|refine ci hS (ai (ai rfl (ai rfl (ai rfl trivial))) trivial) ?_|exact Y1|refine e_ rfl ?_)
 | true=>
  rw[MC]at hS;obtain⟨i0,i1,b0,b1,_,⟨hl,_⟩,_⟩:=mi MC
  match he:s.L9,hl with
  | e::es,_=>
   rw[c7 rfl];repeat' ((conv=>whnf);first|refine Or.inl ?_|apply oi|apply fi|intro h|refine ci hS (ai (ai rfl (ai rfl (ai rfl trivial))) trivial) ?_|refine⟨0,aa e,rfl,(by rw[he];rfl),?_⟩|exact Y1|refine e_ rfl ?_)
   all_goals try exact Q4
theorem lR {off:Int}:∀(l:List LW) (k:Nat),cr off l k= -1\/((k:Int)<=cr off l k/\cr off l k<k+l.length)
 | [],k=> .inl (by rw[cr])
 | x::l,k=>by
  rw[cr];split
  ·exact .inr ⟨o_,by simp only[d5];omega⟩
  ·rcases lR l (k+1)with h|h
   ·exact .inl h
   ·exact .inr ⟨o_,by simp only[d5];omega⟩
theorem nc (l:List LW)(off:Int):cO l off= -1\/(jZ l=true/\0<=cO l off/\cO l off<l.length):=by
 unfold cO;split
 ·rename_i h;have:=lR (off:=off) l 0;rcases this with h'|h'
  ·exact .inl h'
  ·exact .inr ⟨h,o_,o_⟩
 ·exact .inl rfl
def uK (s:LX)(a:Int):Int×Int:=match s.Mp,s.Mr with
 | [i0,i1],[b0,b1]=>dF i0 i1 b0 b1 a
 | _,_=>(-1,-1)
def fQ (v:Ma)(pc sp fp:Int):Ma:=⟨pc,sp,fp,v.Mb.drop (sp-v.J5).toNat⟩
def jR (v:Ma)(r:LW):Option Ma:=
 if r.Ml then(match dk v v.L0,dk v (v.L0+1)with
  | some f,some pc=>some (fQ v pc (v.L0+2) f)
  | _,_=>none)
 else(match dk v (v.J5+r.Me)with
  | some pc=>some (fQ v pc (v.J5+r.Me+1) v.L0)
  | none=>none)
def iL (rules:List (List LW))(x:Int×Int):Option LW:=
 if x.1<0 then none else match rules[x.1.toNat]? with
  | some rl=>if cO rl x.2<0 then none else rl[(cO rl x.2).toNat]?
  | none=>none
def bC (s:LX)(rules:List (List LW))(v:Ma)(inner:Bool):Option Ma:=
 if ce s=true/\fo v=true/\rules.length=2 then
  (
   match iL rules (uK s (if inner then v.K0 else v.K0-1))with
   | some r=>jR v r
   | none=>none)
 else none
theorem eK {v:Ma}{a x:Int}(h:dk v a=some x):fo v=true/\v.J5<=a/\a<v.J5+v.Mb.length:=by
 unfold dk at h;split at h
 ·rename_i hc;have:=within_iff.1 hc.2;exact⟨hc.1,this.1,o_⟩
 ·cases h
theorem je (v:Ma)(pc sp fp:Int)(n:Nat)(h:sp-v.J5=n)(hn:n<=v.Mb.length)(hl:v.Mb.length<=1048576):Sim.Spec prog 139 [.agg v.tr,tvI pc,tvI sp,tvI fp] (.r (.agg ((fQ v pc sp fp).tr.map tD))):=by
 refine ak hΓ aG func139 rfl d_ rfl ?_;have Mw:(v.Mb.map aa).length=v.Mb.length:=s_;have hw:IntKind.i64.wrap (sp-v.J5)=(n:Int):=by rw[c6 _ o_];exact h
 have Zd:=tT (fQ v pc sp fp) (by simp[fQ];omega)
 have hd:(fQ v pc sp fp).Mb.map aa=((v.Mb.map aa).take (v.Mb.map aa).length).drop n:=by rw[G1,fQ,h,d7,A9]
 repeat' ((conv=>whnf);first|refine aI ?_|apply aB|apply oi|apply fi|intro h|exact Y1|refine e_ rfl ?_)
 conv=>whnf
 refine⟨n,(v.Mb.map aa).length,?_,rfl,o_,d8 _,?_⟩
 ·show(if(((v.Mb.map aa).length:Nat):Int)<IntKind.i64.wrap (sp-v.J5)then(((v.Mb.map aa).length:Nat):Int)else IntKind.i64.wrap (sp-v.J5))=(n:Int);rw[hw,Mw];split<;>omega
 repeat' ((conv=>whnf);first|refine aI ?_|apply aB|apply oi|apply fi|intro h|exact Y1|refine e_ rfl ?_)
 refine Or.inl (uS Zd (And.intro (And.intro rfl (And.intro rfl (And.intro rfl (And.intro (congrArg (Tr.lst 1) hd) trivial)))) trivial) ?_);exact Z1
theorem At {i0 i1:LM}{b0 b1 a:Int}(O3:1<=b0/\b0<=1000000)(Nk:1<=b1/\b1<=1000000)(T4:i0.I9.length<=1048576)(PP:i1.I9.length<=1048576)(h:a<=0\/3000000<=a):dF i0 i1 b0 b1 a=(-1,-1):=by rw[dF,b8 o_,b8 o_]
theorem oC (i0 i1:LM)(b0 b1 a:Int):dF i0 i1 b0 b1 a=(-1,-1)\/∃(i:Nat) (off:Int),i<2/\dF i0 i1 b0 b1 a=((i:Int),off):=by
 unfold dF;split
 ·exact .inr ⟨0,_,o_,rfl⟩
 ·split
  ·exact .inr ⟨1,_,o_,rfl⟩
  ·exact .inl rfl
def oV (o:Option Ma):Ma:=match o with|some v=>v|none=>⟨0,0,0,[]⟩
theorem EL {α:Type}{l:List α}{i:Nat}(h:l.length=2)(hi:i<2):∃x,l[i]?=some x:=ae o_
theorem HR {s:LX}{rules:List (List LW)}{v:Ma}{inner:Bool}(h:¬(ce s=true/\fo v=true/\rules.length=2)):bC s rules v inner=none:=by rw[bC,b8 h]
theorem V21{p:Prop}(h:p:=by
 rw[Pk];repeat' ((conv=>whnf);first|refine Or.inl ?_|apply oi|apply fi|intro h|refine ci hS (ai (ai rfl (ai rfl (ai rfl trivial))) trivial) ?_|refine ci hV (ai (ai rfl (ai rfl (ai rfl (ai rfl trivial)))) trivial) ?_|refine ci hL (ai (ai rfl (ai rfl (ai rfl trivial))) (ai rfl trivial)) ?_|exact Y1|refine e_ rfl ?_)
 all_goals(exfalso;first|(simp at h;done)|(rw[Mw,c3]at h;simp at h;done))):p:=h
theorem Q6{p:Prop}(h:p:=by exfalso;first|(simp at h;done)|(rw[Mw,c3]at h;simp at h;done)|(have h':=f0 h;omega)|(rw[Ni]at h;simp at h;first|done|fail)):p:=h
theorem V1{p:Prop}(h:p:=by
 rw[WP];have Ri:=nc rl off
 generalize cO rl off=K at *
 rcases Ri with rfl|⟨MC,k0,k1⟩
 ·rw[c7 d_];repeat' ((conv=>whnf);first|refine Or.inl ?_|apply oi|apply fi|intro h|refine ci hS (ai (ai rfl (ai rfl (ai rfl trivial))) trivial) ?_|refine ci hV (ai (ai rfl (ai rfl (ai rfl (ai rfl trivial)))) trivial) ?_|refine ci hL (ai (ai rfl (ai rfl (ai rfl trivial))) (ai rfl trivial)) ?_|refine⟨i,(cQ 4 LW.tr rl),rfl,ab N4,?_⟩|refine ci hF (ai rfl (ai rfl trivial)) ?_|exact Y1|refine e_ rfl ?_)
  all_goals(exfalso;first|(simp at h;done)|(rw[Mw,c3]at h;simp at h;done)|(have h':=f0 h;omega))
 ·obtain⟨k,rfl⟩:=j6 k0;obtain⟨r,NN⟩:=ae (l:=rl) (k:=k) o_;rw[b8 o_,d7,NN];dsimp only;have hnr:=kZ (v2 0) MC r (c9 NN);unfold pK at hnr;unfold jR
  cases Ni:r.Ml with
  | false=>
   have w1:IntKind.i64.wrap (v.J5+r.Me)=v.J5+r.Me:=c6 _ o_;have hW:=eC v (v.J5+r.Me);rw[b8 s_]
   match hwo:dk v (v.J5+r.Me)with
   | none=>
    rw[hwo]at hW;repeat' ((conv=>whnf);first|refine Or.inl ?_|apply oi|apply fi|intro h|refine ci hS (ai (ai rfl (ai rfl (ai rfl trivial))) trivial) ?_|refine ci hV (ai (ai rfl (ai rfl (ai rfl (ai rfl trivial)))) trivial) ?_|refine ci hL (ai (ai rfl (ai rfl (ai rfl trivial))) (ai rfl trivial)) ?_|refine⟨i,(cQ 4 LW.tr rl),rfl,ab N4,?_⟩|refine ci hF (ai rfl (ai rfl trivial)) ?_|refine⟨k,r.tr,rfl,ab NN,?_⟩|refine ci hW (ai (ai rfl (ai rfl (ai rfl (ai rfl trivial)))) (ai KW trivial)) ?_|exact Y1|refine e_ rfl ?_)
    all_goals try exact Q6
   | some pc=>
    rw[hwo]at hW;have hin:=eK hwo;obtain⟨n,hn⟩:=j6 (show 0<=v.J5+r.Me+1-v.J5 by omega);have hM:=je v pc (v.J5+r.Me+1) v.L0 n hn o_ SW;repeat' ((conv=>whnf);first|refine Or.inl ?_|apply oi|apply fi|intro h|refine ci hS (ai (ai rfl (ai rfl (ai rfl trivial))) trivial) ?_|refine ci hV (ai (ai rfl (ai rfl (ai rfl (ai rfl trivial)))) trivial) ?_|refine ci hL (ai (ai rfl (ai rfl (ai rfl trivial))) (ai rfl trivial)) ?_|refine⟨i,(cQ 4 LW.tr rl),rfl,ab N4,?_⟩|refine ci hF (ai rfl (ai rfl trivial)) ?_|refine⟨k,r.tr,rfl,ab NN,?_⟩|refine ci hW (ai (ai rfl (ai rfl (ai rfl (ai rfl trivial)))) (ai KW trivial)) ?_|refine ci hM (ai (ai rfl (ai rfl (ai rfl (ai rfl trivial)))) (ai rfl (ai KW (ai rfl trivial)))) ?_|exact Y1|refine e_ rfl ?_)
    all_goals try exact Q6
  | true=>
   rw[c7 rfl];have Tu:=eC v v.L0;have SC:=eC v (IntKind.i64.wrap (v.L0+1))
   match hwo:dk v v.L0 with
   | none=>
    rw[hwo]at Tu;generalize dk v (IntKind.i64.wrap (v.L0+1))=Z at SC;repeat' ((conv=>whnf);first|refine Or.inl ?_|apply oi|apply fi|intro h|refine ci hS (ai (ai rfl (ai rfl (ai rfl trivial))) trivial) ?_|refine ci hV (ai (ai rfl (ai rfl (ai rfl (ai rfl trivial)))) trivial) ?_|refine ci hL (ai (ai rfl (ai rfl (ai rfl trivial))) (ai rfl trivial)) ?_|refine⟨i,(cQ 4 LW.tr rl),rfl,ab N4,?_⟩|refine ci hF (ai rfl (ai rfl trivial)) ?_|refine⟨k,r.tr,rfl,ab NN,?_⟩|refine ci Tu (ai (ai rfl (ai rfl (ai rfl (ai rfl trivial)))) (ai rfl trivial)) ?_|refine ci SC (ai (ai rfl (ai rfl (ai rfl (ai rfl trivial)))) (ai rfl trivial)) ?_|exact Y1|refine e_ rfl ?_)
    all_goals try exact Q6
   | some f=>
    rw[hwo]at Tu;have hin:=eK hwo;have w2:IntKind.i64.wrap (v.L0+1)=v.L0+1:=c6 _ o_;rw[w2]at SC
    match hwo2:dk v (v.L0+1)with
    | none=>
     rw[hwo2]at SC;repeat' ((conv=>whnf);first|refine Or.inl ?_|apply oi|apply fi|intro h|refine ci hS (ai (ai rfl (ai rfl (ai rfl trivial))) trivial) ?_|refine ci hV (ai (ai rfl (ai rfl (ai rfl (ai rfl trivial)))) trivial) ?_|refine ci hL (ai (ai rfl (ai rfl (ai rfl trivial))) (ai rfl trivial)) ?_|refine⟨i,(cQ 4 LW.tr rl),rfl,ab N4,?_⟩|refine ci hF (ai rfl (ai rfl trivial)) ?_|refine⟨k,r.tr,rfl,ab NN,?_⟩|refine ci Tu (ai (ai rfl (ai rfl (ai rfl (ai rfl trivial)))) (ai rfl trivial)) ?_|refine ci SC (ai (ai rfl (ai rfl (ai rfl (ai rfl trivial)))) (ai KW trivial)) ?_|exact Y1|refine e_ rfl ?_)
     all_goals try exact Q6
    | some pc=>
     rw[hwo2]at SC;have PY:=eK hwo2;obtain⟨n,hn⟩:=j6 (show 0<=v.L0+2-v.J5 by omega);have hM:=je v pc (v.L0+2) f n hn o_ SW;repeat' ((conv=>whnf);first|refine Or.inl ?_|apply oi|apply fi|intro h|refine ci hS (ai (ai rfl (ai rfl (ai rfl trivial))) trivial) ?_|refine ci hV (ai (ai rfl (ai rfl (ai rfl (ai rfl trivial)))) trivial) ?_|refine ci hL (ai (ai rfl (ai rfl (ai rfl trivial))) (ai rfl trivial)) ?_|refine⟨i,(cQ 4 LW.tr rl),rfl,ab N4,?_⟩|refine ci hF (ai rfl (ai rfl trivial)) ?_|refine⟨k,r.tr,rfl,ab NN,?_⟩|refine ci Tu (ai (ai rfl (ai rfl (ai rfl (ai rfl trivial)))) (ai rfl trivial)) ?_|refine ci SC (ai (ai rfl (ai rfl (ai rfl (ai rfl trivial)))) (ai KW trivial)) ?_|refine ci hM (ai (ai rfl (ai rfl (ai rfl (ai rfl trivial)))) (ai rfl (ai KW (ai rfl trivial)))) ?_|exact Y1|refine e_ rfl ?_)
     all_goals try(exfalso;first|(simp at h;done)|(rw[Mw,c3]at h;simp at h;done)|(have h':=f0 h;omega)|(rw[Ni]at h;simp at h;done))):p:=h
theorem V32{p:Prop}(h:p:=by
 repeat' ((conv=>whnf);first|refine Or.inl ?_|apply oi|apply fi|intro h|refine ci hS (ai (ai rfl (ai rfl (ai rfl trivial))) trivial) ?_|refine ci hV (ai (ai rfl (ai rfl (ai rfl (ai rfl trivial)))) trivial) ?_|exact Y1|refine e_ rfl ?_)
 all_goals(exfalso;simp at h;done)):p:=h
theorem qF (s:LX)(rules:List (List LW))(v:Ma)(inner:Bool)(M1:inI v.K0)(hs:aF 1048576 s.tr)(hr:aw 1048576 (.lst 1 (rules.map (cQ 4 LW.tr))))(hv:aF 1048576 v.tr):Sim.Spec prog 66 [.agg s.tr,tvL 1 (rules.map (cQ 4 LW.tr)),.agg v.tr,tvB inner] (.tup [.agg ((oV (bC s rules v inner)).tr.map tD),.c (.t (.bool (bC s rules v inner).isSome))]):=by
 have hS:=uQ s hs;have hV:=nY v;have Nn:=bE hr;have Mw:(rules.map (cQ 4 LW.tr)).length=rules.length:=s_;have SW:v.Mb.length<=1048576:=by have:=hv;simp only[Ma.tr,aF]at this;exact bE this.2.2.2.1
 by_cases hc:ce s=true/\fo v=true/\rules.length=2
 ·obtain⟨c1,c2,c3⟩:=hc;rw[c1]at hS;rw[c2]at hV;obtain⟨i0,i1,b0,b1,PD,⟨e1,e2⟩,⟨g0,p0,p1⟩,⟨g1,q0,q1⟩,_,_⟩:=mi c1;have l0:=(imageOk_iff.1 g0).1;have l1:=(imageOk_iff.1 g1).1;have YI:=viewOk_iff.1 c2
  have hu:bC s rules v inner=(match iL rules (dF i0 i1 b0 b1 (if inner then v.K0 else v.K0-1))with|some r=>jR v r|none=>none):=by rw[bC,c7 ⟨c1,c2,c3⟩,PD,uK]
  obtain⟨im,bs,es⟩:=s;dsimp only at PD;injection PD with h1 h2;subst h1;subst h2;rw[hu]
  cases inner with
  | true=>
   rw[c7 rfl];have hL:=og i0 i1 b0 b1 v.K0 es o_ o_ o_ o_;refine ak hΓ aG func66 rfl d_ rfl ?_;rcases oC i0 i1 b0 b1 v.K0 with hx|⟨i,off,hi,hx⟩
   ·rw[hx]at hL;have Pk:iL rules (dF i0 i1 b0 b1 v.K0)=none:=(by rw[hx,iL,c7 d_]);exact V21
   ·rw[hx]at hL;obtain⟨rl,N4⟩:=EL c3 hi;have QO:=bg hr (c9 N4);simp only[cQ,aF]at QO;have hF:=lO rl off (bE QO.1)
    have WP:iL rules (dF i0 i1 b0 b1 v.K0)=if cO rl off<0 then none else rl[(cO rl off).toNat]?:=by rw[hx,iL,b8 g_,d7,N4]
    exact V1
  | false=>
   rw[b8 s_]
   have NA:dF i0 i1 b0 b1 (IntKind.i64.wrap (v.K0-1))=dF i0 i1 b0 b1 (v.K0-1):=by
    obtain⟨d1,d2⟩:=M1;rcases Int.lt_or_le (-9223372036854775808) v.K0 with hp|hp
    ·rw[c6 _ o_]
    ·have:v.K0= -9223372036854775808:=o_;rw[this,show IntKind.i64.wrap (-9223372036854775808-1)=9223372036854775807 by decide,At (a:=9223372036854775807) ⟨p0,p1⟩ ⟨q0,q1⟩ o_ o_ (.inr o_),At ⟨p0,p1⟩ ⟨q0,q1⟩ o_ o_ (.inl o_)]
   have hL:=og i0 i1 b0 b1 (IntKind.i64.wrap (v.K0-1)) es o_ o_ o_ o_;rw[NA]at hL;refine ak hΓ aG func66 rfl d_ rfl ?_;rcases oC i0 i1 b0 b1 (v.K0-1)with hx|⟨i,off,hi,hx⟩
   ·rw[hx]at hL;have Pk:iL rules (dF i0 i1 b0 b1 (v.K0-1))=none:=(by rw[hx,iL,c7 d_]);exact V21
   ·rw[hx]at hL;obtain⟨rl,N4⟩:=EL c3 hi;have QO:=bg hr (c9 N4);simp only[cQ,aF]at QO;have hF:=lO rl off (bE QO.1)
    have WP:iL rules (dF i0 i1 b0 b1 (v.K0-1))=if cO rl off<0 then none else rl[(cO rl off).toNat]?:=by rw[hx,iL,b8 g_,d7,N4]
    exact V1
 ·rw[HR hc];refine ak hΓ aG func66 rfl d_ rfl ?_
  cases PF:ce s with
  | false=>
   rw[PF]at hS
   exact V32
  | true=>
   rw[PF]at hS
   cases WE:fo v with
   | false=>
    rw[WE]at hV
    exact V32
   | true=>
    rw[WE]at hV
    have MF:(((rules.map (cQ 4 LW.tr)).length:Int) !=2)=true:=by rw[Mw,bne_iff_ne];intro h2;exact hc ⟨PF,WE,o_⟩
    repeat' ((conv=>whnf);first|refine Or.inl ?_|apply oi|apply fi|intro h|refine ci hS (ai (ai rfl (ai rfl (ai rfl trivial))) trivial) ?_|refine ci hV (ai (ai rfl (ai rfl (ai rfl (ai rfl trivial)))) trivial) ?_|exact Y1|refine e_ rfl ?_)
    all_goals(exfalso;first|(simp at h;done)|(rename_i a1;first|(rw[MF]at a1;cases a1)|(rw[MF]at h;cases h)))
def itH:Nat->Int->Int
 | 0,h=>h
 | n+1,h=>itH n (iF h)
theorem lG:∀(n m:Nat) (h:Int),itH (n+m) h=itH m (itH n h)
 | 0,m,h=>by rw[u5,itH]
 | n+1,m,h=>by rw[show n+1+m=(n+m)+1 by omega,itH,itH,lG n m]
abbrev mM:Int:=9007199254740992
def Aff (n:Nat)(a c:Nat):Prop:=∀h:Int,itH n h%mM=((a:Int)*h+c)%mM
theorem V114{p:Prop}(h:p:=by
 unfold IntKind.wrap;simp[IntKind.bits,IntKind.signed]
 split<;>omega):p:=h
theorem Ce (x:Int):IntKind.i64.wrap x%mM=x%mM:=by
 have h:IntKind.i64.wrap x%18446744073709551616=x%18446744073709551616:=by exact V114
 have h1:IntKind.i64.wrap x%18446744073709551616%mM=IntKind.i64.wrap x%mM:=E3 _ ⟨2048,rfl⟩;have h2:x%18446744073709551616%mM=x%mM:=E3 _ ⟨2048,rfl⟩;rw[<-h1,<-h2,h]
theorem JG:Aff 1 6364136223846793005 1442695040888963407:=by intro h;show iF h%mM=_;unfold iF;rw[Ce,A5,Ce,<-A5,I4];rfl
theorem IB {n a c m b d:Nat}(h1:Aff n a c)(h2:Aff m b d):Aff (n+m) (a*b%9007199254740992) ((b*c+d)%9007199254740992):=by
 intro h;rw[lG,h2,A5,I6,h1,<-I6,<-A5];have e1:(((a*b%9007199254740992:Nat):Int))=((a:Int)*b)%mM:=by rw[Int.natCast_emod,Int.natCast_mul];rfl
 have e2:((((b*c+d)%9007199254740992:Nat):Int))=((b:Int)*c+d)%mM:=by rw[Int.natCast_emod,Int.natCast_add,Int.natCast_mul];rfl
 rw[e1,e2,A5 (((a:Int)*b)%mM*h),I6 (((a:Int)*b)%mM),E3 _ (Int.dvd_refl _),E3 _ (Int.dvd_refl _),<-I6,<-A5];congr 1;rw[Int.mul_add,<-Int.mul_assoc,I4 (b:Int) a,Int.add_assoc]
def BZ:Nat->Nat->Nat->Nat×Nat
 | 0,a,c=>(a,c)
 | k+1,a,c=>BZ k (a*a%9007199254740992) ((a*c+c)%9007199254740992)
theorem DV:∀(k n a c:Nat),Aff n a c->Aff (n*2^k) (BZ k a c).1 (BZ k a c).2
 | 0,n,a,c,h=>by rw[Nat.pow_zero,Nat.mul_one];exact h
 | k+1,n,a,c,h=>by
  rw[BZ,show n*2^(k+1)=(n+n)*2^k by rw[G7,p8,<-Nat.mul_two,Nat.mul_assoc]];exact DV k (n+n) _ _ (IB h h)
theorem Lu:(BZ 51 6364136223846793005 1442695040888963407).1=1/\(BZ 51 6364136223846793005 1442695040888963407).2%2251799813685248=0/\(BZ 51 6364136223846793005 1442695040888963407).2/2251799813685248%2=1:=by decide+kernel
def byW (h:Int):Int:=IntKind.i64.wrap ((BitVec.ofInt IntKind.i64.bits (IntKind.i64.wrap ((BitVec.ofInt IntKind.i64.bits (h.fdiv (2^min (Int.toNat 33) IntKind.i64.bits)) ^^^ BitVec.ofInt IntKind.i64.bits (h.fdiv (2^min (Int.toNat 45) IntKind.i64.bits))).toNat:Int)) &&& BitVec.ofInt IntKind.i64.bits 255).toNat:Int)
def byN (h:Int):Nat:=(h%mM/8589934592%256).toNat ^^^ (h%mM/35184372088832%256).toNat
theorem Gu (x:Int):(BitVec.ofInt 64 x &&& BitVec.ofInt 64 255).toNat=(x%256).toNat:=by have e:(BitVec.ofInt 64 255).toNat=2^8-1:=d_;rw[I3,e,D0,B9];omega
theorem Kf (h:Int):byW h=(byN h:Int):=by
 have e33:h.fdiv (2^min (Int.toNat 33) IntKind.i64.bits)=h/8589934592:=by rw[show(2:Int)^min (Int.toNat 33) IntKind.i64.bits=8589934592 from rfl,E2 _ d_]
 have e45:h.fdiv (2^min (Int.toNat 45) IntKind.i64.bits)=h/35184372088832:=by rw[show(2:Int)^min (Int.toNat 45) IntKind.i64.bits=35184372088832 from rfl,E2 _ d_]
 unfold byW;rw[e33,e45];show IntKind.i64.wrap (((BitVec.ofInt 64 (IntKind.i64.wrap ((BitVec.ofInt 64 (h/8589934592) ^^^ BitVec.ofInt 64 (h/35184372088832)).toNat:Int)) &&& BitVec.ofInt 64 255).toNat:Nat):Int)=_;rw[Gu]
 have hw:∀x:Int,IntKind.i64.wrap x%256=x%256:=fun x=>by
  exact V114
 rw[hw,BitVec.toNat_xor,B9,B9]
 have hx:∀a b:Nat,((a ^^^ b:Nat):Int)%256=(((a%256) ^^^ (b%256):Nat):Int):=fun a b=>by
  have:=Nat.xor_mod_two_pow (a:=a) (b:=b) (n:=8);rw[show(2:Nat)^8=256 from rfl]at this;rw[<-this];omega
 rw[hx]
 have h1:((h/8589934592)%((2^64:Nat):Int)).toNat%256=(h%mM/8589934592%256).toNat:=by rw[show((2^64:Nat):Int)=18446744073709551616 from rfl];show _=(h%9007199254740992/8589934592%256).toNat;omega
 have h2:((h/35184372088832)%((2^64:Nat):Int)).toNat%256=(h%mM/35184372088832%256).toNat:=by rw[show((2^64:Nat):Int)=18446744073709551616 from rfl];show _=(h%9007199254740992/35184372088832%256).toNat;omega
 rw[h1,h2,d7]
 have hb:byN h<256:=by unfold byN;exact Nat.xor_lt_two_pow (n:=8) o_ o_
 unfold byN at hb⊢;rw[c6 _ o_]
theorem HI (h:Int):byN h<256:=by unfold byN;exact Nat.xor_lt_two_pow (n:=8) o_ o_
theorem JL:∀u:Fin 256,∀lo:Fin 64,∃hi:Fin 4,(u.val ^^^ (lo.val+64*hi.val))%3=2:=by decide+kernel
theorem Ln {B r:Int}(h0:0<=r)(h1:r<2251799813685248):(2251799813685248*B+r)%mM=2251799813685248*(B%4)+r:=by show(2251799813685248*B+r)%9007199254740992=_;omega
theorem Fs {h B r:Int}(h0:0<=r)(h1:r<2251799813685248)(he:h%mM=(2251799813685248*B+r)%mM):byN h=(r/8589934592%256).toNat ^^^ ((r/35184372088832%64).toNat+64*(B%4).toNat):=by unfold byN;rw[he,Ln h0 h1];have e1:(2251799813685248*(B%4)+r)/8589934592%256=r/8589934592%256:=o_;have e2:((2251799813685248*(B%4)+r)/35184372088832%256).toNat=(r/35184372088832%64).toNat+64*(B%4).toNat:=o_;rw[e1,e2]
theorem KB (A:Int)(w:Nat)(hw:w%2=1)(hi:Nat)(hh:hi<4):∃q:Nat,q<4/\(A+3*(q*w:Nat))%4=(hi:Int):=by
 have h4:w%4=1\/w%4=3:=o_;have hA:((hi:Int)-A)%4=0\/((hi:Int)-A)%4=1\/((hi:Int)-A)%4=2\/((hi:Int)-A)%4=3:=o_;rcases hA with h|h|h|h
 ·exact⟨0,o_,o_⟩
 ·rcases h4 with h4|h4
  ·exact⟨3,o_,o_⟩
  ·exact⟨1,o_,o_⟩
 ·exact⟨2,o_,o_⟩
 ·rcases h4 with h4|h4
  ·exact⟨1,o_,o_⟩
  ·exact⟨3,o_,o_⟩
theorem Fb {T v:Nat}(h:Aff T 1 v)(g:Int):itH (3*T) g%mM=(g+3*v)%mM:=by have s1:=h g;have s2:=h (itH T g);have s3:=h (itH T (itH T g));rw[Int.natCast_one,Int.one_mul]at s1 s2 s3;rw[show 3*T=T+(T+T) by omega,lG,lG,s3,A5,s2,<-A5,Int.add_assoc,A5,s1,<-A5];congr 1;omega
theorem xt {T v:Nat}(h:Aff T 1 v):∀(q:Nat) (g:Int),itH (q*(3*T)) g%mM=(g+3*(q*v:Nat))%mM
 | 0,g=>by simp[itH]
 | q+1,g=>by
  have h3:=Fb h g;rw[show(q+1)*(3*T)=3*T+q*(3*T) by rw[p8,Nat.one_mul,Nat.add_comm],lG,xt h q,A5,h3,<-A5];congr 1;rw[p8,Nat.one_mul];omega
theorem Gd (h:Int)(K:Nat):∃k,K<=k/\byN (itH (6*k) h)%3=2:=by
 obtain⟨d1,d2,d3⟩:=Lu;have WO:=DV 51 1 _ _ JG;rw[d1,Nat.one_mul]at WO
 generalize(BZ 51 6364136223846793005 1442695040888963407).2=v at *
 have e51:(2:Nat)^51=2*2^50:=by rw[G7,Nat.mul_comm]
 rw[e51]at WO
 generalize(2:Nat)^50=T at *
 obtain⟨w,rfl⟩:∃w:Nat,v=2251799813685248*w:=⟨v/2251799813685248,o_⟩;have Nl:w%2=1:=o_
 generalize hz:itH (6*K) h=z at *
 obtain⟨A,r,hA,r0,r1⟩:∃A r:Int,z=2251799813685248*A+r/\0<=r/\r<2251799813685248:=⟨z/2251799813685248,z%2251799813685248,o_,o_,o_⟩;obtain⟨hi,WQ⟩:=JL ⟨(r/8589934592%256).toNat,o_⟩ ⟨(r/35184372088832%64).toNat,o_⟩;dsimp only at WQ;obtain⟨q,hq,hqe⟩:=KB A w Nl hi.val hi.isLt;refine⟨K+q*T,Nat.le_add_right _ _,?_⟩
 have e6:6*(K+q*T)=6*K+q*(3*(2*T)):=by rw[Nat.mul_add];congr 1;rw[<-Nat.mul_assoc 3 2 T,Nat.mul_left_comm]
 rw[e6,lG,hz];have hs:=xt WO q z
 rw[hA,show(2251799813685248*A+r+3*((q*(2251799813685248*w):Nat):Int))=2251799813685248*(A+3*(q*w:Nat))+r by
  rw[Nat.mul_left_comm];generalize q*w=y
  omega]at hs
 rw[Fs r0 r1 (by rw[hA];exact hs),hqe,d7];exact WQ
theorem Ew:∀f:Fin 101,IntKind.i64.wrap (BitVec.ofInt IntKind.i64.bits (f.val:Int) &&& BitVec.ofInt IntKind.i64.bits 1).toNat=(f.val:Int)%2:=d_
theorem qj (f:Nat)(b:LG)(image:Int)(hf:f<=100):Sim.Spec prog 63 [.agg b.tr,tvI (f:Int),tvI image] (rB (sl b image f)):=by
 refine bv hΓ aG func63 rfl d_ rfl ?_;unfold sl;have hm:=Ew ⟨f,o_⟩;dsimp only at hm;repeat' ((conv=>whnf);first|apply Wx|apply W6|apply oi|apply fi|intro h|exact Y7|refine e_ rfl ?_)
 all_goals first|exact⟨by rw[h,hm];rfl⟩|exact⟨by rw[h];rfl⟩
theorem wG:∀{L:List (Nat×List LU)},(∀x∈L,x.2.length<=2500)->(ax L).length<=2500*L.length
 | L,h=>by
  have:=kU h (d8 L.length);rwa [gt (d8 _)]at this
theorem V75{p:Prop}(h:p:=by
 repeat' ((conv=>whnf);first|apply Wx|apply W6|apply oi|apply fi|intro h|refine cl hP ?_|refine cl hB ?_|refine cl gb ?_|exact Y5|refine e_ rfl ?_)):p:=h
theorem Q13{p:Prop}(h:p:=by exact⟨⟨by simp only[i8,d5,Pt]<;>omega,by simp only[i8,d5,Pt]<;>omega⟩⟩):p:=h
theorem iI (p:List LP)(b:LG)(image:Int)(hs:aw 1048576 (.lst 4 (p.map LP.tr))):Sim.Spec prog 12 [tvP p,.agg b.tr,tvI image] (rL 8 ((aM p b image).map LU.tr)):=by
 refine bv hΓ aG func12 rfl d_ rfl ?_;have hP:=dR p hs;have hB:=jy b;have gb:=aP image 0 1;by_cases hc:ah p=true/\aS b=true/\af image 0 1=true
 ·have Qs:aM p b image=ax (bV p b image (ay p).length 0 0):=by rw[aM,c7 hc];rfl
  rw[Qs];obtain⟨h1,h2,h3⟩:=hc;rw[h1]at hP;rw[h2]at hB;rw[h3]at gb;obtain⟨h6,QJ⟩:=fB h1;have gF:=cH p o_;have MN:((ay p).map fun n:Nat=>aa n).length=(ay p).length:=s_;have Qw:=fun x (hx:x∈bV p b image (ay p).length 0 0)=>(iD hs hx).1;repeat' ((conv=>whnf);first|apply Wx|apply W6|apply oi|apply fi|intro h|refine cl hP ?_|refine cl hB ?_|refine cl gb ?_|exact Y7|refine e_ rfl ?_)
  conv=>whnf
  refine⟨Lm p b image,fun q=>⟨[(0,vP p),(2,tI .i64 image),(4,.r (.c (.ptr (4,0,0) 0))),(7,.r (.c (.own (15,0,0)))),(8,tI .i64 q.1.2.1),(9,tI .i64 (q.1.1:Int))],[((15,0,0),some (.arr true 8 ((ax q.1.2.2).map LU.tr))),((4,0,0),some (.box [.t (.int .i64 b.Mo),.t (.int .i64 b.Md),.t (.bool b.Mv),.t (.bool b.Mt)]))],[15,4]⟩,fun q=>(ay p).length-q.1.1,⟨(0,0,[]),s_,s_,s_,s_⟩,?_,?_⟩
  ·exact Z2
  intro⟨⟨f,at0,acc⟩,hk,ha,M5,hr⟩;dsimp only at hk ha M5 hr⊢;have XY:(ax acc).length<=2500*acc.length:=wG fun x hx=>Qw x (by rw[<-hr];exact d9.2 (.inl hx));by_cases Mz:f<(ay p).length
  ·obtain⟨n,hn⟩:∃n,(ay p).length-f=n+1:=⟨(ay p).length-f-1,o_⟩;have hi:=qj f b image o_;rw[hn,nI]at hr
   cases hin:sl b image f with
   | false=>
    rw[hin]at hi hr;rw[b8 s_]at hr;repeat' ((conv=>whnf);first|apply Wx|apply W6|apply oi|apply fi|intro h|refine cl gF ?_|refine cl hi ?_|exact Y5|refine e_ rfl ?_)
    conv=>whnf
    refine⟨⟨(f+1,at0,acc),g_,g_,g_,by dsimp only;rw[show(ay p).length-(f+1)=n by omega];exact hr⟩,?_,KD⟩
    exact Z6
   | true=>
    rw[hin]at hi hr;rw[c7 rfl]at hr;have PI:=lb p (f:Int) b hs;obtain⟨f1,f2,f3⟩:=JY (f:=f) hs h1 h2 Mz;have NH:=(jf (p:=p) (f:=(f:Int)) (b:=b) hs).2
    generalize az p (f:Int) b=I at *
    repeat' ((conv=>whnf);first|apply Wx|apply W6|apply oi|apply fi|intro h|refine cl gF ?_|refine cl hi ?_|refine cl PI ?_|exact Y5|refine e_ rfl ?_)
    have Mw:(I.map LO.tr).length=I.length:=s_;have N8:=sn at0 I;have MZ:=fun k (h:k<=I.length)=>ju (at0:=at0) h;have Ov:=gg at0 I;have Zc:=fun k x (h:I[k]?=some x)=>fY (at0:=at0) h;have TR:∀(k:Nat) (x:LO),I[k]?=some x->(il I at0)[k]?=some (LU.mk (atL (aZ at0 I) k) (cN (aZ at0 I) k x)):=fun k x h=>eM h;have Qp:=dV I at0;have PJ:zD at0 I=atL (aZ at0 I) I.length:=rfl;have ye:=Ja (l:=I) (at0:=at0)
    generalize aZ at0 I=S at *
    generalize il I at0=F at *
    generalize zD at0 I=E at *
    conv=>whnf
    refine⟨{k:Nat//k<=I.length},fun k=>⟨[(0,vP p),(2,tI .i64 image),(4,.r (.c (.ptr (4,0,0) 0))),(7,.r (.c (.own (15,0,0)))),(8,tI .i64 (atL S k.1)),(9,tI .i64 (f:Int)),(10,.r (.c (.own (45,0,0)))),(11,.r (.c (.own (46,0,0)))),(12,tI .i64 (k.1:Int))],[((46,0,0),some (.arr true 1 ((S.take k.1).map aa))),((45,0,0),some (.arr true 7 (I.map LO.tr))),((15,0,0),some (.arr true 8 ((ax acc).map LU.tr))),((4,0,0),some (.box [.t (.int .i64 b.Mo),.t (.int .i64 b.Md),.t (.bool b.Mv),.t (.bool b.Mt)]))],[46,45,15,4]⟩,fun k=>I.length-k.1,⟨0,o_⟩,?_,?_⟩
    ·repeat' ((conv=>whnf);first|apply Wx|apply W6|apply oi|apply fi|intro h|exact Y7|refine e_ rfl ?_)
     all_goals try exact⟨by rw[Ov]⟩
    intro⟨k,hk⟩;dsimp only;have P4:=MZ k hk;by_cases O8:k<I.length
    ·obtain⟨x,hx⟩:=ae O8;have hz:=gQ x.J2.I9;have ho:=ki x.J2.I9;have SS:=Zc k x hx;have hg:S[k]?=some (atL S k):=yU o_;have O5:k<(I.map LO.tr).length:=o_;have Vh:(I.map LO.tr)[k]?=some x.tr:=ab hx;repeat' ((conv=>whnf);first|apply Wx|apply W6|apply oi|apply fi|intro h|refine⟨k,rfl,O5,?_⟩|refine⟨_,Vh,?_⟩|refine cl ho ?_|exact Y5|refine e_ rfl ?_)
     all_goals try exact Q1
     conv=>whnf
     refine⟨⟨k+1,o_⟩,?_,KD⟩;repeat' ((conv=>whnf);first|apply Wx|apply W6|apply oi|apply fi|intro h|exact Y8|refine e_ rfl ?_)
     all_goals try exact⟨by rw[dx hg,u4];rfl⟩
     all_goals try exact⟨congrArg (Tr.int .i64) (by rw[SS,c6 _ o_])⟩
    ·have Nf:k=I.length:=o_;subst Nf;have hg:S[I.length]?=some (atL S I.length):=yU o_;repeat' ((conv=>whnf);first|apply Wx|apply W6|apply oi|apply fi|intro h|exact Y5|refine e_ rfl ?_)
     all_goals try exact Q1
     conv=>whnf
     refine⟨{k:Nat//k<=I.length},fun k=>⟨[(0,vP p),(2,tI .i64 image),(4,.r (.c (.ptr (4,0,0) 0))),(7,.r (.c (.own (15,0,0)))),(8,tI .i64 (atL S I.length)),(9,tI .i64 (f:Int)),(10,.r (.c (.own (45,0,0)))),(11,.r (.c (.own (69,0,0)))),(13,tI .i64 (k.1:Int))],[((69,0,0),some (.arr true 1 (S.map aa))),((45,0,0),some (.arr true 7 (I.map LO.tr))),((15,0,0),some (.arr true 8 ((ax acc++F.take k.1).map LU.tr))),((4,0,0),some (.box [.t (.int .i64 b.Mo),.t (.int .i64 b.Md),.t (.bool b.Mv),.t (.bool b.Mt)]))],[69,45,15,4]⟩,fun k=>I.length-k.1,⟨0,o_⟩,?_,?_⟩
     ·repeat' ((conv=>whnf);first|apply Wx|apply W6|apply oi|apply fi|intro h|exact Y7|refine e_ rfl ?_)
      all_goals try exact⟨by rw[show [[Tr.int .i64 (atL S I.length)]]=[atL S I.length].map aa from rfl,<-u4,<-dx hg,gt o_]⟩
      all_goals try exact⟨s_⟩
     intro⟨k,hk⟩;dsimp only;have Pt:((ax acc++F.take k).map LU.tr).length=(ax acc).length+k:=(by rw[e7,c8,l6];omega);have U7:(S.map aa).length=I.length+1:=(by rw[e7];exact N8);have mg:∀j,j<=I.length->(S.map aa)[j]?=some (aa (atL S j)):=fun j hj=>by rw[p6,yU o_];rfl
     by_cases O8:k<I.length
     ·obtain⟨x,hx⟩:=ae O8;have Qq:=TR k x hx;have R7:(ax acc++F.take (k+1)).map LU.tr=(ax acc++F.take k).map LU.tr++[(LU.mk (atL S k) (cN S k x)).tr]:=(by rw[dx Qq,<-j9,u4];rfl);have O5:k<(I.map LO.tr).length:=o_;have Vh:(I.map LO.tr)[k]?=some x.tr:=ab hx;have Nl:IntKind.i64.wrap ((k:Int)+1)=((k+1:Nat):Int):=(by rw[c6 _ o_];rfl);have N1:k<(S.map aa).length:=o_;have hk1:k+1<(S.map aa).length:=o_;have m0:=mg k o_;have m1:=mg (k+1) o_;have b1:=MZ (k+1) o_
      cases OT:oM x with
      | true=>
       obtain⟨ja,jb⟩:=f3 x (c9 hx) OT;have Zp:x.J2.J7=((x.J2.J7.toNat:Nat):Int):=(E5 ja).symm;have NW:x.J2.J7.toNat<(S.map aa).length:=o_;have m2:=mg x.J2.J7.toNat o_;have b2:=MZ x.J2.J7.toNat o_;have NS:cN S k x=yP x (IntKind.i64.wrap (atL S x.J2.J7.toNat-atL S (k+1))):=(by rw[cN,c7 OT,c6 _ o_]);rw[isJump_iff]at OT;repeat' ((conv=>whnf);first|apply Wx|apply W6|apply oi|apply fi|intro h|refine⟨k,rfl,O5,?_⟩|refine⟨_,Vh,?_⟩|refine⟨k,rfl,N1,?_⟩|refine⟨k+1,Nl,hk1,?_⟩|refine⟨_,Zp,NW,?_⟩|refine⟨_,m0,?_⟩|refine⟨_,m1,?_⟩|refine⟨_,m2,?_⟩|exact Y10|refine e_ rfl ?_)
       all_goals try exact Q13
       all_goals(
        conv=>whnf
        refine⟨⟨k+1,o_⟩,?_,KD⟩;repeat' ((conv=>whnf);first|apply Wx|apply W6|apply oi|apply fi|intro h|exact Y8|refine e_ rfl ?_)
        all_goals try exact⟨by dsimp only;rw[R7,NS];rfl⟩)
      | false=>
       have NS:cN S k x=x:=(by rw[cN,b8 (by rw[OT];simp)]);have XA:¬(x.J2.I9=10\/x.J2.I9=11):=(by rw[<-isJump_iff,OT];simp);repeat' ((conv=>whnf);first|apply Wx|apply W6|apply oi|apply fi|intro h|refine⟨k,rfl,O5,?_⟩|refine⟨_,Vh,?_⟩|refine⟨k,rfl,N1,?_⟩|refine⟨_,m0,?_⟩|exact Y10|refine e_ rfl ?_)
       all_goals try exact Q13
       all_goals(
        conv=>whnf
        refine⟨⟨k+1,o_⟩,?_,KD⟩;repeat' ((conv=>whnf);first|apply Wx|apply W6|apply oi|apply fi|intro h|exact Y8|refine e_ rfl ?_)
        all_goals try exact⟨by dsimp only;rw[R7,NS];rfl⟩)
     ·have Nf:k=I.length:=o_;subst Nf;repeat' ((conv=>whnf);first|apply Wx|apply W6|apply oi|apply fi|intro h|exact Y5|refine e_ rfl ?_)
      conv=>whnf
      refine⟨⟨(f+1,E,acc++[(f,F)]),g_,g_,by simp;omega,by dsimp only;rw[j9,show(ay p).length-(f+1)=n by omega];exact hr⟩,?_,KD⟩;repeat' ((conv=>whnf);first|apply Wx|apply W6|apply oi|apply fi|intro h|exact Y8|refine e_ rfl ?_)
      all_goals try exact⟨by rw[PJ]⟩
      all_goals try exact⟨by rw[oQ,gt o_]⟩
  ·rw[show(ay p).length-f=0 by omega]at hr;have M8:acc=bV p b image (ay p).length 0 0:=(by rw[<-hr];simp[bV]);repeat' ((conv=>whnf);first|apply Wx|apply W6|apply oi|apply fi|intro h|refine cl gF ?_|exact Y5|refine e_ rfl ?_)
   all_goals exact⟨by rw[M8]⟩
 ·have Qs:aM p b image=[]:=by rw[aM,b8 hc]
  rw[Qs]
  cases h1:ah p with
  | false=>
   rw[h1]at hP
   exact V75
  | true=>
   rw[h1]at hP
   cases h2:aS b with
   | false=>
    rw[h2]at hB
    exact V75
   | true=>
    rw[h2]at hB
    cases h3:af image 0 1 with
    | true=>exact absurd ⟨h1,h2,h3⟩ hc
    | false=>rw[h3]at gb;exact V75
theorem ir (p:List LP)(b:LG)(image:Int)(hs:aw 1048576 (.lst 4 (p.map LP.tr))):Sim.Spec prog 48 [tvP p,.agg b.tr,tvI image] (.r (.agg ((ag p b image).tr.map tD))):=by
 refine bv hΓ aG func48 rfl d_ rfl ?_;have hP:=iI p b image hs;by_cases hc:ah p=true/\aS b=true/\af image 0 1=true
 ·have Qs:ag p b image=⟨aj (ax (bV p b image (ay p).length 0 0)),co p 0 (bV p b image (ay p).length 0 0)⟩:=by rw[ag,c7 hc]
  have TR:aM p b image=ax (bV p b image (ay p).length 0 0):=by rw[aM,c7 hc];rfl
  rw[Qs];rw[TR]at hP;obtain⟨h1,h2,h3⟩:=hc;obtain⟨h6,QJ⟩:=fB h1;have Oh:=iz p b image (ay p).length 0 0;have Qw:=fun x (hx:x∈bV p b image (ay p).length 0 0)=>(iD hs hx).1;have UF:=fun{i:Nat} {x:Nat×List LU} {j:Nat} {y:LU} (h:(bV p b image (ay p).length 0 0)[i]?=some x) (hy:x.2[j]?=some y)=>fR hs h1 h2 h hy;have UK:=fun{i:Nat} {x:Nat×List LU} (h:(bV p b image (ay p).length 0 0)[i]?=some x)=>(jW hs h1 h2 o_ h).2
  generalize bV p b image (ay p).length 0 0=L at *
  repeat' ((conv=>whnf);first|apply Wx|apply W6|apply oi|apply fi|intro h|refine cl hP ?_|exact Y7|refine e_ rfl ?_)
  conv=>whnf
  refine⟨{q:Nat×Nat//q.1<=L.length/\(∀x,L[q.1]?=some x->q.2<x.2.length)/\(q.1=L.length->q.2=0)},fun q=>⟨[(0,vP p),(6,.r (.c (.ptr (6,0,0) 0))),(7,.r (.c (.ptr (7,0,0) 0))),(8,.r (.c (.own (15,0,0)))),(9,tI .i64 (((ax (L.take q.1.1)).length+q.1.2:Nat):Int))],[((6,0,0),some (.box [.t (.str []),.nils 0])),((7,0,0),some (.box [.t (.str (gw L q.1.1 q.1.2)),.own (7,0,1)])),((7,0,1),some (.arr true 3 ((jE p L q.1.1 q.1.2).map LY.tr))),((15,0,0),some (.arr true 8 ((ax L).map LU.tr)))],[15,7,6]⟩,fun q=>(ax L).length+1-((ax (L.take q.1.1)).length+q.1.2),⟨(0,0),g_,by intro x hx;exact(UK hx).2,fun _=>rfl⟩,?_,?_⟩
  ·repeat' ((conv=>whnf);first|apply Wx|apply W6|apply oi|apply fi|intro h|exact Y7|refine e_ rfl ?_)
   all_goals try exact⟨by rw[Cn];rfl⟩
   all_goals try exact⟨by rw[wa];rfl⟩
  intro⟨⟨i,j⟩,hi,hj,he⟩;dsimp only at hi hj he⊢;by_cases Mz:i<L.length
  ·obtain⟨x,hx⟩:=ae Mz;have OT:=hj x hx;obtain⟨y,hy⟩:=ae OT;obtain⟨Yf,Od⟩:=UF hx hy;have N0:=Au hx hy;have Nf:=aH N0;have M5:=wG Qw;have NW:=A6 2500 (show L.length<=6 by omega);have Xp:(ax (L.take i)).length+j<((ax L).map LU.tr).length:=(by rw[e7];exact Nf);have Xh:((ax L).map LU.tr)[(ax (L.take i)).length+j]?=some y.tr:=ab N0;have hE:=tx y.L3.J2;have hE5:=sA y.L3.J2;obtain⟨⟨i',j'⟩,q1,q2,q3,q4,q5,q6⟩:=HD (p:=p) (fun{i x} h=>(UK (i:=i) h).2) hx OT;dsimp only at q1 q2 q3 q4 q5 q6;rw[Fz hx hy]at q5;rw[yi hx]at q6;have MV:=FB (j:=j) hx;have Zz:=ib (ax (L.take i));have aae:=ib (x.2.take j);have YC:(ax (L.take i)).length<=(ax L).length:=o_;have YA:(x.2.take j).length<=2500:=(by have:=Qw x (c9 hx);rw[l6];omega);have Vt:aj (x.2.take (j+1))=aj (x.2.take j)++bh y.L3.J2:=(by rw[dx hy,aJ,dZ]);rw[Vt,c8]at q6;have Ov:(co p 0 (L.take i)).length=i:=(by rw[lF,l6];omega);rcases v3 j with rfl|Vn
   ·obtain⟨Nd,g,ln,RP,Sx,Vp,hf4⟩:=Yf.head rfl;have N5:bD p x.1=ln.J8:=(by rw[bD,RP];dsimp only;rw[Vp]);rw[wa];have Zj:aj (x.2.take 0)=[]:=(by simp[aj]);rw[Zj]at q6 MV Od;rw[i8]at MV Od
    generalize gw L i 0=C at *
    generalize co p 0 (L.take i)=S0 at *
    generalize bh y.L3.J2=EB at *
    generalize aj (ax (L.take i))=C0 at *
    have OU:IntKind.i64.wrap (((S0.map LY.tr++[[Tr.str ln.J8,Tr.int .i64 y.Mf,Tr.int .i64 0]]).length:Int)-1)=(i:Int):=by rw[c8,e7,Ov];simp only[d5,i8];rw[c6 _ o_];omega
    have Ny:i<(S0.map LY.tr++[[Tr.str ln.J8,Tr.int .i64 y.Mf,Tr.int .i64 0]]).length:=by rw[c8,e7,Ov];simp
    have Wc:(S0.map LY.tr++[[Tr.str ln.J8,Tr.int .i64 y.Mf,Tr.int .i64 0]])[i]?=some [Tr.str ln.J8,Tr.int .i64 y.Mf,Tr.int .i64 0]:=by rw[m5 (by rw[e7,Ov];exact d8 _),e7,Ov];simp
    have fin:∀(KK:List (List Tr)),KK=(S0.map LY.tr++[[Tr.str ln.J8,Tr.int .i64 y.Mf,Tr.int .i64 0]]).set i [Tr.str ln.J8,Tr.int .i64 y.Mf,Tr.int .i64 (IntKind.i64.wrap (((C++EB).length:Int)-y.Mf))]->KK=(jE p L i' j').map LY.tr:=fun KK h=>by
     rw[h,q6,N5,D6 _ _ (by rw[e7,Ov];exact d8 _),e7,Ov,w9,u4,c8,c6 _ o_];simp only[D2,p7,C5,LY.tr];congr 6<;>(simp only[i8];omega)
    rcases Nd with Nd|Nd
    all_goals(
     repeat' ((conv=>whnf);first|apply Wx|apply W6|apply oi|apply fi|intro h|refine⟨_,rfl,Xp,?_⟩|refine⟨_,Xh,?_⟩|refine cl hE ?_|refine⟨g,ln.tr,Sx,ab Vp,?_⟩|refine⟨_,OU,Ny,?_⟩|refine⟨_,Wc,?_⟩|exact Y13|refine e_ rfl ?_)
     all_goals try exact⟨o_⟩
     all_goals try exact⟨⟨by simp only[i8,d5,e7,Ov]<;>omega,by simp only[i8,d5,e7,Ov]<;>omega⟩⟩
     all_goals(
      conv=>whnf
      refine⟨⟨(i',j'),q1,q2,q3⟩,?_,KD⟩;repeat' ((conv=>whnf);first|apply Wx|apply W6|apply oi|apply fi|intro h|exact Y8|refine e_ rfl ?_)
      all_goals try exact⟨by rw[q5]⟩
      all_goals try exact⟨fin _ rfl⟩
      all_goals exact⟨congrArg (Tr.int _) (by dsimp only;rw[c6 _ o_];omega)⟩))
   ·obtain⟨j,rfl⟩:∃j0,j=j0+1:=⟨j-1,o_⟩;obtain⟨Nd,m,ln,Sx,Vp,hf4⟩:=Yf.body Vn;rw[yi hx]
    generalize gw L i (j+1)=C at *
    generalize co p 0 (L.take i)=S0 at *
    generalize bh y.L3.J2=EB at *
    generalize aj (ax (L.take i))=C0 at *
    generalize aj (x.2.take (j+1))=C1 at *
    have OU:IntKind.i64.wrap ((((S0++[(⟨bD p x.1,(C0.length:Int),(C1.length:Int)⟩:LY)]).map LY.tr).length:Int)-1)=(i:Int):=by rw[e7,c8,Ov];simp only[d5,i8];rw[c6 _ o_];omega
    have Ny:i<((S0++[(⟨bD p x.1,(C0.length:Int),(C1.length:Int)⟩:LY)]).map LY.tr).length:=by rw[e7,c8,Ov];simp
    have Wc:((S0++[(⟨bD p x.1,(C0.length:Int),(C1.length:Int)⟩:LY)]).map LY.tr)[i]?=some [Tr.str (bD p x.1),Tr.int .i64 (C0.length:Int),Tr.int .i64 (C1.length:Int)]:=by rw[p6,m5 (by rw[Ov];exact d8 _),Ov];simp[LY.tr]
    have fin:∀(KK:List (List Tr)),KK=((S0++[(⟨bD p x.1,(C0.length:Int),(C1.length:Int)⟩:LY)]).map LY.tr).set i [Tr.str (bD p x.1),Tr.int .i64 (C0.length:Int),Tr.int .i64 (IntKind.i64.wrap (((C++EB).length:Int)-(C0.length:Int)))]->KK=(jE p L i' j').map LY.tr:=fun KK h=>by
     rw[h,q6,u4,D6 _ _ (by rw[e7,Ov];exact d8 _),e7,Ov,w9,u4,c8,c6 _ o_];simp only[D2,p7,C5,LY.tr];congr 6;omega
    repeat' ((conv=>whnf);first|apply Wx|apply W6|apply oi|apply fi|intro h|refine⟨_,rfl,Xp,?_⟩|refine⟨_,Xh,?_⟩|refine cl hE ?_|refine⟨m,ln.tr,Sx,ab Vp,?_⟩|refine⟨_,OU,Ny,?_⟩|refine⟨_,Wc,?_⟩|exact Y13|refine e_ rfl ?_)
    all_goals try exact⟨o_⟩
    all_goals(
     conv=>whnf
     refine⟨⟨(i',j'),q1,q2,q3⟩,?_,KD⟩;repeat' ((conv=>whnf);first|apply Wx|apply W6|apply oi|apply fi|intro h|exact Y8|refine e_ rfl ?_)
     all_goals try exact⟨by rw[q5]⟩
     all_goals try exact⟨fin _ rfl⟩
     all_goals exact⟨congrArg (Tr.int _) (by dsimp only;rw[c6 _ o_];omega)⟩)
  ·have Ny:i=L.length:=o_;subst Ny;have Vn:=he rfl;subst Vn;rw[Gb,FK,gt (d8 _)];repeat' ((conv=>whnf);first|apply Wx|apply W6|apply oi|apply fi|intro h|exact Y7|refine e_ rfl ?_)
   all_goals try(exfalso;simp only[e7,j5]at h;omega)
 ·have Qs:ag p b image=⟨[],[]⟩:=by rw[ag,b8 hc]
  have TR:aM p b image=[]:=by rw[aM,b8 hc]
  rw[Qs];rw[TR]at hP;repeat' ((conv=>whnf);first|apply Wx|apply W6|apply oi|apply fi|intro h|refine cl hP ?_|exact Y7|refine e_ rfl ?_)
  conv=>whnf
  refine⟨Unit,fun _=>⟨[(0,vP p),(6,.r (.c (.ptr (6,0,0) 0))),(7,.r (.c (.ptr (7,0,0) 0))),(8,.r (.c (.own (15,0,0)))),(9,tI .i64 0)],[((6,0,0),some (.box [.t (.str []),.nils 0])),((7,0,0),some (.box [.t (.str []),.own (7,0,1)])),((7,0,1),some (.arr true 3 [])),((15,0,0),some (.arr true 8 []))],[15,7,6]⟩,fun _=>0,(),?_,?_⟩
  ·exact Z2
  intro _;repeat' ((conv=>whnf);first|apply Wx|apply W6|apply oi|apply fi|intro h|exact Y7|refine e_ rfl ?_)
  all_goals try exact Q4
theorem zr {p:List LP}(hs:aw 1048576 (.lst 4 (p.map LP.tr)))(f:Nat):(bD p f).length<=1048576:=by
 unfold bD;split
 ·split
  ·rename_i g _ y hy;have:=bg hs (c9 hy);simp only[LP.tr,aF,aw]at this;omega
  ·simp
 ·simp
theorem qy {p:List LP}(hs:aw 1048576 (.lst 4 (p.map LP.tr))):∀(L:List (Nat×List LU)) (at0:Int) (x:LY),x∈co p at0 L->x.J8.length<=1048576
 | [],_,_,h=>by cases h
 |(f,l)::L,at0,x,h=>by
  rw[co]at h;rcases d6.1 h with rfl|h
  ·exact zr hs f
  ·exact qy hs L _ x h
theorem mW {p:List LP}{b:LG}{image:Int}(hs:aw 1048576 (.lst 4 (p.map LP.tr))):aF 1048576 (ag p b image).tr:=by
 rw[ag];split
 ·rename_i hc;obtain⟨h1,h2,h3⟩:=hc;obtain⟨h6,_⟩:=fB h1;have Oh:=iz p b image (ay p).length 0 0;have M5:=wG fun x (hx:x∈bV p b image (ay p).length 0 0)=>(iD hs hx).1;have MV:=ib (ax (bV p b image (ay p).length 0 0));have NW:=A6 2500 (show(bV p b image (ay p).length 0 0).length<=6 by omega);refine⟨by simp only[aw];omega,?_,trivial⟩
  exact fT (by rw[lF];omega) fun x hx=>by
   have:=qy hs _ _ x hx;simp only[LY.tr,aF,aw];exact⟨o_,trivial,trivial,trivial⟩
 ·simp[LM.tr,aF,aw,eH]
theorem ox {p:List LP}{b:LG}{image:Int}(h6:(ay p).length<=6):(ag p b image).L8.length<=6:=by
 unfold ag;split
 ·dsimp only;rw[lF];have:=iz p b image (ay p).length 0 0;omega
 ·simp
theorem vz {F:Nat->List Int}(h:∀f,(F f).length<=12):∀n,(kl F n).length<=12*n
 | 0=>by simp[kl]
 | n+1=>by have:=vz h n;have:=h n;rw[kl,c8];omega
theorem pf {p:List LP}{b:LG}(hs:aw 1048576 (.lst 4 (p.map LP.tr)))(h6:(ay p).length<=6){first second:Int}:aF 1048576 (aQ p b first second).tr:=by
 have a0:=mW (b:=b) (image:=0) hs;have a1:=mW (b:=b) (image:=1) hs;have hi:∀ns:List Int,ns.length<=1048576->aw 1048576 (.lst 1 (ns.map aa)):=fun ns hn=>fT o_ fun x hx=>by simp[aa,aF,aw]
 refine⟨?_,hi _ (by simp[aQ]),hi _ (by simp[aQ,entries];omega),trivial⟩;simp only[aQ];rw[aw];exact⟨s_,a0,a1,trivial⟩
theorem V82{p:Prop}(h:p:=by
 repeat' ((conv=>whnf);first|apply Wx|apply W6|apply oi|apply fi|intro h|refine cl hP ?_|refine cl hB ?_|exact Y5|refine e_ rfl ?_)):p:=h
theorem V80{p:Prop}(h:p:=by
 repeat' ((conv=>whnf);first|apply Wx|apply W6|apply oi|apply fi|intro h|refine cl gF ?_|refine cl NC ?_|exact Y5|refine e_ rfl ?_)):p:=h
theorem sa (p:List LP)(b:LG)(first second:Int)(hs:aw 1048576 (.lst 4 (p.map LP.tr))):Sim.Spec prog 34 [tvP p,.agg b.tr,tvI first,tvI second] (.tup [.agg ((oSp (gB p b first second)).tr.map tD),.c (.t (.bool (gB p b first second).isSome))]):=by
 refine bv hΓ aG func34 rfl d_ rfl ?_;have hP:=dR p hs;have hB:=jy b
 cases h1:ah p with
 | false=>
  rw[h1]at hP;rw[show gB p b first second=none by rw[gB,b8 (by rw[h1];simp)]]
  exact V82
 | true=>
  rw[h1]at hP
  cases h2:aS b with
  | false=>
   rw[h2]at hB;rw[show gB p b first second=none by rw[gB,b8 (by rw[h2];simp)]]
   exact V82
  | true=>
   rw[h2]at hB;obtain⟨h6,QJ⟩:=fB h1;have ZN:=ir p b 0 hs;have YS:=ir p b 1 hs;have gF:=cH p o_;have MN:((ay p).map fun n:Nat=>aa n).length=(ay p).length:=s_;have NC:=gx (aQ p b first second) (pf hs h6);repeat' ((conv=>whnf);first|(with_reducible apply W1;fail_if_success (with_reducible show Wo _ _ _ _ (Code.region 4 _ _) _ _))|(with_reducible first|apply W2|apply W3|apply W4|apply W5|apply W6|apply W7|apply W8|apply W9)|apply aB|apply oi|apply fi|intro h|refine cl hP ?_|refine cl hB ?_|refine cl ZN ?_|refine cl YS ?_|exact Y5|refine e_ rfl ?_)
   all_goals try exact⟨mt _ (by intro x c hc sz rs e;subst e;simp[LY.tr]at hc)⟩
   have Ov:(ag p b 0).L8.length<=6:=ox h6;have Ze:(ag p b 1).L8.length<=6:=ox h6;have hE:∀f,f<(ay p).length->tU p b (ag p b 0) (ag p b 1) first second f=[cS p b first second f]:=fun f hf=>IK h1 h2 hf first second;have Of:kl (tU p b (ag p b 0) (ag p b 1) first second) (ay p).length=entries p b first second:=xK hE
   have Zo:gB p b first second=if ce (aQ p b first second)=true then some (aQ p b first second)else none:=by
    rw[gB];by_cases PF:ce (aQ p b first second)=true
    ·rw[c7 PF,c7 ⟨h1,h2,PF⟩]
    ·rw[b8 PF,b8 fun h=>PF h.2.2]
   have P7:(aQ p b first second).tr=[.lst 2 [(ag p b 0).tr,(ag p b 1).tr],.lst 1 [aa first,aa second],.lst 1 ((entries p b first second).map aa)]:=rfl;rw[Zo]
   generalize aQ p b first second=cd at *
   generalize ag p b 0=i0 at *
   generalize ag p b 1=i1 at *
   have UT:∀f,(tU p b i0 i1 first second f).length<=12:=fun f=>by
    unfold tU;split
    ·have:=wx (bD p f) second i1.L8;omega
    ·have:=wx (bD p f) first i0.L8;omega
   have Yu:=vz UT;conv=>whnf
   refine BI ⟨[(0,vP p),(5,.r (.c (.ptr (5,0,0) 0))),(8,.r (.c (.ptr (8,0,0) 0))),(10,.r (.c (.ptr (10,0,0) 0)))],[((5,0,0),some (.box (b.tr.map .t))),((8,0,0),some (.box [.nils 0,.nils 0,.nils 0])),((10,0,0),some (.box [.own (10,0,1),.own (10,0,2),.own (10,0,3)])),((10,0,1),some (.arr true 2 [i0.tr,i1.tr])),((10,0,2),some (.arr true 1 [aa first,aa second])),((10,0,3),some (.arr true 1 []))],[10,8,5]⟩ ?_ ?_
   ·exact Z2
   repeat' ((conv=>whnf);first|apply Wx|apply W6|apply oi|apply fi|intro h|exact Y7|refine e_ rfl ?_)
   conv=>whnf
   refine⟨{f:Nat//f<=(ay p).length},fun q=>⟨[(0,vP p),(5,.r (.c (.ptr (5,0,0) 0))),(8,.r (.c (.ptr (8,0,0) 0))),(10,.r (.c (.ptr (10,0,0) 0))),(11,tI .i64 (q.1:Int))],[((5,0,0),some (.box (b.tr.map .t))),((8,0,0),some (.box [.nils 0,.nils 0,.nils 0])),((10,0,0),some (.box [.own (10,0,1),.own (10,0,2),.own (10,0,3)])),((10,0,1),some (.arr true 2 [i0.tr,i1.tr])),((10,0,2),some (.arr true 1 [aa first,aa second])),((10,0,3),some (.arr true 1 ((kl (tU p b i0 i1 first second) q.1).map aa)))],[10,8,5]⟩,fun q=>(ay p).length-q.1,⟨0,o_⟩,?_,?_⟩
   ·exact Z2
   intro⟨f,hf⟩;dsimp only;have hef:=Yu f;by_cases Mz:f<(ay p).length
   ·obtain⟨g,hg⟩:=ae Mz;obtain⟨ln,Xw,_,N5,_⟩:=qp h1 hg
    obtain⟨j,hj,Ve⟩:∃j:Nat,bn b f=(j:Int)/\j<=1:=by
     rcases ga b f with e|e
     ·exact⟨0,by rw[e];rfl,o_⟩
     ·exact⟨1,by rw[e];rfl,o_⟩
    obtain⟨im,base,Ta,RU,Rf,hsy⟩:∃(im:LM) (base:Int),[i0.tr,i1.tr][j]?=some im.tr/\[aa first,aa second][j]?=some (aa base)/\tU p b i0 i1 first second f=kz ln.J8 base im.L8/\im.L8.length<=6:=by
     rcases(show j=0\/j=1 by omega)with rfl|rfl
     ·exact⟨i0,first,rfl,rfl,by rw[tU,hj,b8 (show ¬((0:Nat):Int)=1 by decide),N5],Ov⟩
     ·exact⟨i1,second,rfl,rfl,by rw[tU,hj,c7 (show((1:Nat):Int)=1 from rfl),N5],Ze⟩
    have Qk:=Ew ⟨f,o_⟩;dsimp only at Qk;have NP:j<[i0.tr,i1.tr].length:=(by simp;omega);have XB:j<[aa first,aa second].length:=(by simp;omega);have Ni:f<((ay p).map fun n:Nat=>aa n).length:=o_;have U1:((ay p).map fun n:Nat=>aa n)[f]?=some (aa (g:Int)):=(by rw[p6,hg];rfl);have N8:(im.L8.map LY.tr).length=im.L8.length:=s_;repeat' ((conv=>whnf);first|(with_reducible apply W1;fail_if_success (with_reducible show Wo _ _ _ _ (Code.seq (Code.region 8 _ _) _) _ _))|(with_reducible first|apply W2|apply W3|apply W4|apply W5|apply W6|apply W7|apply W8|apply W9)|apply aB|apply oi|apply fi|intro h|refine cl gF ?_|exact Y5|refine e_ rfl ?_)
    conv=>whnf
    refine nw Unit (fun _=>⟨[(0,vP p),(5,.r (.c (.ptr (5,0,0) 0))),(8,.r (.c (.ptr (8,0,0) 0))),(10,.r (.c (.ptr (10,0,0) 0))),(11,tI .i64 (f:Int)),(12,tI .i64 (j:Int))],[((5,0,0),some (.box (b.tr.map .t))),((8,0,0),some (.box [.nils 0,.nils 0,.nils 0])),((10,0,0),some (.box [.own (10,0,1),.own (10,0,2),.own (10,0,3)])),((10,0,1),some (.arr true 2 [i0.tr,i1.tr])),((10,0,2),some (.arr true 1 [aa first,aa second])),((10,0,3),some (.arr true 1 ((kl (tU p b i0 i1 first second) f).map aa)))],[10,8,5]⟩) ?_ ?_
    ·have PT:=hj;unfold bn at PT
     cases Rk:b.Mt with
     | true=>
      rw[Rk,c7 rfl]at PT;rw[PT]at Qk;repeat' ((conv=>whnf);first|apply Wx|apply W6|apply oi|apply fi|intro h|exact Y7|refine e_ rfl ?_)
      all_goals(conv=>whnf)
      all_goals try(exfalso;rw[Rk]at h;cases h;done)
      refine⟨(),?_⟩;repeat' ((conv=>whnf);first|apply Wx|apply W6|apply oi|apply fi|intro h|exact Y7|refine e_ rfl ?_)
      all_goals exact⟨congrArg (Tr.int _) Qk⟩
     | false=>
      rw[Rk,b8 s_]at PT;repeat' ((conv=>whnf);first|apply Wx|apply W6|apply oi|apply fi|intro h|exact Y7|refine e_ rfl ?_)
      all_goals(conv=>whnf)
      all_goals try(exfalso;rw[Rk]at h;cases h;done)
      refine⟨(),?_⟩;repeat' ((conv=>whnf);first|apply Wx|apply W6|apply oi|apply fi|intro h|exact Y7|refine e_ rfl ?_)
      all_goals exact⟨congrArg (Tr.int _) PT⟩
    intro _;dsimp only;repeat' ((conv=>whnf);first|apply Wx|apply W6|apply oi|apply fi|intro h|exact Y7|refine e_ rfl ?_)
    conv=>whnf
    refine⟨{k:Nat//k<=im.L8.length},fun q=>⟨[(0,vP p),(5,.r (.c (.ptr (5,0,0) 0))),(8,.r (.c (.ptr (8,0,0) 0))),(10,.r (.c (.ptr (10,0,0) 0))),(11,tI .i64 (f:Int)),(12,tI .i64 (j:Int)),(13,tI .i64 (q.1:Int))],[((5,0,0),some (.box (b.tr.map .t))),((8,0,0),some (.box [.nils 0,.nils 0,.nils 0])),((10,0,0),some (.box [.own (10,0,1),.own (10,0,2),.own (10,0,3)])),((10,0,1),some (.arr true 2 [i0.tr,i1.tr])),((10,0,2),some (.arr true 1 [aa first,aa second])),((10,0,3),some (.arr true 1 ((kl (tU p b i0 i1 first second) f++kz ln.J8 base (im.L8.take q.1)).map aa)))],[10,8,5]⟩,fun q=>im.L8.length-q.1,⟨0,o_⟩,?_,?_⟩
    ·repeat' ((conv=>whnf);first|apply Wx|apply W6|apply oi|apply fi|intro h|exact Y7|refine e_ rfl ?_)
     all_goals try exact⟨by simp[Ii]⟩
    intro⟨k,hk⟩;dsimp only;by_cases Nf:k<im.L8.length
    ·obtain⟨y,hy⟩:=ae Nf;have hks:k<(im.L8.map LY.tr).length:=o_;have XJ:(im.L8.map LY.tr)[k]?=some y.tr:=ab hy;have UR:=Gf (nm:=ln.J8) (b:=base) hy;have ZJ:=wx ln.J8 base (im.L8.take k);rw[l6]at ZJ
     cases hq:(y.J8==ln.J8)with
     | true=>
      rw[hq,c7 rfl]at UR;repeat' ((conv=>whnf);first|apply Wx|apply W6|apply oi|apply fi|intro h|refine cl gF ?_|refine⟨j,rfl,NP,?_⟩|refine⟨_,Ta,?_⟩|refine⟨k,y.tr,rfl,XJ,?_⟩|refine⟨f,rfl,Ni,?_⟩|refine⟨_,U1,?_⟩|refine⟨g,ln.tr,rfl,ab Xw,?_⟩|refine⟨j,rfl,XB,?_⟩|refine⟨_,RU,?_⟩|exact Y5|refine e_ rfl ?_)
      all_goals try(exfalso;rw[hq]at h;cases h;done)
      all_goals try exact Q1
      conv=>whnf
      refine⟨⟨k+1,o_⟩,?_,KD⟩;repeat' ((conv=>whnf);first|apply Wx|apply W6|apply oi|apply fi|intro h|exact Y8|refine e_ rfl ?_)
      all_goals exact⟨by dsimp only;rw[UR];simp[j9,aa]⟩
     | false=>
      rw[hq,b8 s_]at UR;repeat' ((conv=>whnf);first|apply Wx|apply W6|apply oi|apply fi|intro h|refine cl gF ?_|refine⟨j,rfl,NP,?_⟩|refine⟨_,Ta,?_⟩|refine⟨k,y.tr,rfl,XJ,?_⟩|refine⟨f,rfl,Ni,?_⟩|refine⟨_,U1,?_⟩|refine⟨g,ln.tr,rfl,ab Xw,?_⟩|refine⟨j,rfl,XB,?_⟩|refine⟨_,RU,?_⟩|exact Y5|refine e_ rfl ?_)
      all_goals try(exfalso;rw[hq]at h;cases h;done)
      conv=>whnf
      refine⟨⟨k+1,o_⟩,?_,KD⟩;repeat' ((conv=>whnf);first|apply Wx|apply W6|apply oi|apply fi|intro h|exact Y8|refine e_ rfl ?_)
      all_goals exact⟨by dsimp only;rw[UR,m6]⟩
    ·obtain rfl:k=im.L8.length:=o_;rw[gt (d8 _),<-Rf];repeat' ((conv=>whnf);first|apply Wx|apply W6|apply oi|apply fi|intro h|refine⟨j,rfl,NP,?_⟩|refine⟨_,Ta,?_⟩|exact Y5|refine e_ rfl ?_)
     conv=>whnf
     refine⟨⟨f+1,o_⟩,?_,KD⟩;exact Z6
   ·obtain rfl:f=(ay p).length:=o_;rw[Of]
    cases PF:ce cd with
    | true=>
     rw[PF]at NC;rw[c7 rfl];rw[P7]at NC;simp only[oSp,P7]
     exact V80
    | false=>rw[PF]at NC;rw[b8 s_];rw[P7]at NC;exact V80
def tl (R:List LZ)(d:Nat):Prop:=0<R.length/\R.length<=5^d/\∀t∈R,t.J8.length<=8
abbrev JF (vars:List (List UInt8))(c:LH):List (Sim.Id×AO):=fk c++[((0,0,1),.arr false 1 (vars.map ao))]
abbrev Cy (m:Int)(names:List (List UInt8))(ars:List Int):List AV:=[gz,tI .i64 m,.r (.c (.own (0,0,1))),vN names,.r (.c (.t (.lst 1 (ars.map aa))))]
abbrev HS (vars:List (List UInt8))(c:LH)(R:List LZ):List (Sim.Id×AO):=JF vars c++[((1,0,0),.arr false 3 (R.map LZ.tr))]
theorem wy (d:Nat):1<=5^d:=Nat.one_le_pow _ _ o_
theorem Ji {d:Nat}(h:d<=8):5^d<=390625:=Nat.pow_le_pow_right (n:=5) o_ h
theorem V96{p:Prop}(h:p:=by
 rw[Int.tdiv_eq_ediv_of_nonneg h0,c6 _ o_];have:(2:Int)^(d+1)=2*2^d:=by rw[Int.pow_succ];omega
 omega):p:=h
theorem GF {m:Int}{d:Nat}(h0:0<=m)(h1:m<2^(d+1))(hb:m<=1000):0<=IntKind.i64.wrap (m.tdiv 4)/\IntKind.i64.wrap (m.tdiv 4)<2^d/\IntKind.i64.wrap (m.tdiv 4)<=1000:=by exact V96
def ud (P:LH->List LZ->LH->Prop)(d:Nat):Nat->LH->List LZ->LH->List LZ->Prop
 | 0,c,acc,c',NM=>c'=c/\NM=acc
 | k+1,c,acc,c',NM=>∃R c1,tl R d/\c1.b=c.b/\c1.ok/\P c R c1/\ud P d k c1 (acc++R) c' NM
theorem Ar {P:LH->List LZ->LH->Prop}{d:Nat}(ih:∀c:LH,c.ok->∃R c1,tl R d/\c1.b=c.b/\c1.ok/\P c R c1):∀(k:Nat) (c:LH) (acc:List LZ),c.ok->∃c' NM,ud P d k c acc c' NM
 | 0,c,acc,_=>⟨c,acc,rfl,rfl⟩
 | k+1,c,acc,hc=>by
  obtain⟨R,c1,h1,h2,h3,h4⟩:=ih c hc;obtain⟨c',NM,h5⟩:=Ar ih k c1 (acc++R) h3;exact⟨c',NM,R,c1,h1,h2,h3,h4,h5⟩
theorem sT {P:LH->List LZ->LH->Prop}{d:Nat}:∀{k:Nat} {c c':LH} {acc NM:List LZ},ud P d k c acc c' NM->c.ok->c'.b=c.b/\c'.ok/\acc.length<=NM.length/\NM.length<=acc.length+k*5^d/\((∀t∈acc,t.J8.length<=8)->∀t∈NM,t.J8.length<=8)
 | 0,c,c',acc,NM,h,hc=>by
  obtain⟨rfl,rfl⟩:=h
  exact⟨rfl,hc,d8 _,o_,fun h=>h⟩
 | k+1,c,c',acc,NM,h,hc=>by
  obtain⟨R,c1,h1,h2,h3,_,h5⟩:=h;obtain⟨g1,g2,g3,g4,g5⟩:=sT h5 h3;rw[c8]at g3 g4;have hR:=h1.2.1;refine⟨g1.trans h2,g2,o_,by rw[p8];omega,fun H=>g5 fun t ht=>?_⟩;rcases d9.1 ht with ht|ht
  ·exact H t ht
  ·exact h1.2.2 t ht
theorem JH {m:Int}{d:Nat}(h0:0<=m)(h1:m<2^(d+1))(hb:m<=1000):0<=IntKind.i64.wrap (m.tdiv 2)/\IntKind.i64.wrap (m.tdiv 2)<2^d/\IntKind.i64.wrap (m.tdiv 2)<=1000:=by exact V96
theorem gj (vars names:List (List UInt8))(ars:List Int)(hv:vars.length<=100)(hn:names.length<=100)(ha:ars.length=names.length)(S8:∀a∈ars,0<=a/\a<=4)(S7:∀s∈vars,s.length<=8)(S2:∀s∈names,s.length<=8):
  ∀(d:Nat) (m:Int) (c:LH),d<=8->0<=m->m<2^d->m<=1000->c.ok->∃(R:List LZ) (c':LH),tl R d/\c'.b=c.b/\c'.ok/\bA prog 254 (Cy m names ars) (JF vars c) (.r (.c (.own (1,0,0)))) (HS vars c' R)
 | d,m,c,hd,h0,h1,hm,hc=>by
  have p5d:=Ji hd;have QI:(vars.map ao).length=vars.length:=s_;have N2:(names.map ao).length=names.length:=s_;obtain⟨k,c1,k1,_,b1,o1,g1⟩:=bG c 10 hc;by_cases Ys:2<m/\k<5
  ·cases d with
   | zero=>omega
   | succ d=>
    obtain⟨kd,c2,k2,_,b2,o2,g2⟩:=bG c1 5 o1;obtain⟨q1,q2,q3⟩:=JH h0 h1 hm;obtain⟨R3,c3,t3,b3,o3,g3⟩:=gj vars names ars hv hn ha S8 S7 S2 d _ c2 o_ q1 q2 q3 o2;obtain⟨R4,c4,t4,b4,o4,g4⟩:=gj vars names ars hv hn ha S8 S7 S2 d _ c3 o_ q1 q2 q3 o3;have p5:=wy d;have Zt:5^(d+1)=5*5^d:=(by rw[G7];omega);have t3l:=t3.2.1;have t4l:=t4.2.1;refine⟨⟨2+kd,0,[]⟩::(R3++R4),c4,⟨s_,?_,?_⟩,((b4.trans b3).trans b2).trans b1,o4,?_⟩
    ·have:=t3.2.1;have:=t4.2.1;rw[d5,c8];omega
    ·intro t ht;rcases d6.1 ht with rfl|ht
     ·simp
     ·rcases d9.1 ht with ht|ht
      ·exact t3.2.2 t ht
      ·exact t4.2.2 t ht
    ·refine aA hΓ aG func254 rfl d_ rfl rfl ?_;repeat' ((conv=>whnf);first|apply Wx|apply W6|apply oi|apply fi|intro h|exact Y7|refine e_ rfl ?_)
     refine cg (g1) ?_;repeat' ((conv=>whnf);first|apply Wx|apply W6|apply oi|apply fi|intro h|exact Y5|refine e_ rfl ?_)
     all_goals try(exfalso;simp at h;omega)
     refine cg (g2) ?_;repeat' ((conv=>whnf);first|apply Wx|apply W6|apply oi|apply fi|intro h|exact Y7|refine e_ rfl ?_)
     refine cg (g3) ?_;repeat' ((conv=>whnf);first|apply Wx|apply W6|apply oi|apply fi|intro h|exact Y7|refine e_ rfl ?_)
     all_goals try exact Q1
     refine cg (g4) ?_;repeat' ((conv=>whnf);first|apply Wx|apply W6|apply oi|apply fi|intro h|exact Y7|refine e_ rfl ?_)
     all_goals try exact Q1
     all_goals exact⟨by rw[c6 _ o_];simp[LZ.tr]⟩
  ·by_cases TP:0<names.length/\1<m/\k<8
   ·cases d with
    | zero=>omega
    | succ d=>
     obtain⟨N7,Oq,hc3⟩:=TP;obtain⟨f,c2,kf,_,b2,o2,g2⟩:=bG c1 ((names.map ao).length:Int) o1;rw[N2]at kf;have P0:f<names.length:=(by have:=kf o_;omega);obtain⟨nm,N5⟩:=ae P0;obtain⟨a,UZ⟩:=ae (l:=ars) (k:=f) o_;have Yx:=S8 a (c9 UZ);obtain⟨an,rfl⟩:=j6 Yx.1;obtain⟨q1,q2,q3⟩:=GF h0 h1 hm;have ih:=fun c hc=>gj vars names ars hv hn ha S8 S7 S2 d (IntKind.i64.wrap (m.tdiv 4)) c o_ q1 q2 q3 hc;have p5:=wy d;have Zt:5^(d+1)=5*5^d:=(by rw[G7];omega);obtain⟨c',R,NH⟩:=Ar (P:=fun c R c'=>bA prog 254 (Cy (IntKind.i64.wrap (m.tdiv 4)) names ars) (JF vars c) (.r (.c (.own (1,0,0)))) (HS vars c' R)) (d:=d) ih an c2 [⟨7,an,nm⟩] o2;have TG:=sT NH o2;refine⟨R,c',⟨by have:=TG.2.2.1;simp at this;omega,by have:=TG.2.2.2.1;have h4:an*5^d<=4*5^d:=l9 _ o_;simp at this;omega,TG.2.2.2.2 (by intro t ht;simp at ht;subst ht;exact S2 nm (c9 N5))⟩,(TG.1.trans b2).trans b1,TG.2.1,?_⟩;refine aA hΓ aG func254 rfl d_ rfl rfl ?_;repeat' ((conv=>whnf);first|apply Wx|apply W6|apply oi|apply fi|intro h|exact Y7|refine e_ rfl ?_)
     refine cg (g1) ?_;repeat' ((conv=>whnf);first|apply Wx|apply W6|apply oi|apply fi|intro h|exact Y5|refine e_ rfl ?_)
     all_goals(
      refine cg (g2) ?_;have Ok:(ars.map aa).length=ars.length:=s_;repeat' ((conv=>whnf);first|apply Wx|apply W6|apply oi|apply fi|intro h|refine⟨f,(aa an),rfl,ab UZ,?_⟩|refine⟨f,(ao nm),rfl,ab N5,?_⟩|exact Y7|refine e_ rfl ?_)
      conv=>whnf
      refine⟨{q:Nat×LH×List LZ//q.1<=an/\q.2.1.ok/\q.2.2.length<=1+q.1*5^d/\ud (fun c R c'=>bA prog 254 (Cy (IntKind.i64.wrap (m.tdiv 4)) names ars) (JF vars c) (.r (.c (.own (1,0,0)))) (HS vars c' R)) d (an-q.1) q.2.1 q.2.2 c' R},fun q=>⟨[(0,gz),(1,tI .i64 m),(2,.r (.c (.own (0,0,1)))),(3,vN names),(4,.r (.c (.t (.lst 1 (ars.map aa))))),(13,tI .i64 (f:Int)),(14,.r (.c (.own (14,0,0)))),(15,tI .i64 (q.1.1:Int))],[((0,0,0),some (.box [.t (.lst 1 (q.1.2.1.b.map aY)),.t (.int .i64 q.1.2.1.i),.t (.int .i64 q.1.2.1.h)])),((0,0,1),some (.arr false 1 (vars.map ao))),((14,0,0),some (.arr false 3 (q.1.2.2.map LZ.tr)))],[14,0]⟩,fun q=>an-q.1.1,⟨(0,c2,[⟨7,an,nm⟩]),g_,o2,s_,NH⟩,?_,?_⟩
      ·exact Z2
      intro⟨⟨i,ci,acc⟩,r1,r2,r3,r4⟩;dsimp only at r1 r2 r3 r4⊢;by_cases Mz:i<an
      ·obtain⟨w,hw⟩:∃w,an-i=w+1:=⟨an-i-1,o_⟩;rw[hw]at r4;obtain⟨R5,c5,t5,b5,o5,g5,r5⟩:=r4;have t5l:=t5.2.1;have i5:i*5^d<=4*5^d:=l9 _ o_;have i6:(i+1)*5^d=i*5^d+5^d:=(by rw[p8];omega);repeat' ((conv=>whnf);first|apply Wx|apply W6|apply oi|apply fi|intro h|refine⟨f,(aa an),rfl,ab UZ,?_⟩|exact Y5|refine e_ rfl ?_)
       refine cg (g5) ?_;repeat' ((conv=>whnf);first|apply Wx|apply W6|apply oi|apply fi|intro h|exact Y7|refine e_ rfl ?_)
       all_goals try exact Q1
       conv=>whnf
       refine⟨⟨(i+1,c5,acc++R5),g_,o5,by simp;omega,by rw[show an-(i+1)=w by omega];exact r5⟩,?_,KD⟩;repeat' ((conv=>whnf);first|apply Wx|apply W6|apply oi|apply fi|intro h|exact Y6|refine e_ rfl ?_)
       all_goals exact⟨s_⟩
      ·rw[show an-i=0 by omega]at r4;obtain⟨rfl,rfl⟩:=r4;repeat' ((conv=>whnf);first|apply Wx|apply W6|apply oi|apply fi|intro h|refine⟨f,(aa an),rfl,ab UZ,?_⟩|exact Y5|refine e_ rfl ?_)
     )
   ·have pick:∀c:LH,c.ok->∃(v:Int) (c':LH),c'.b=c.b/\c'.ok/\bA prog 129 [gz,.r (.c (.own (0,0,1)))] (fk c++[((0,0,1),.arr false 1 (([0,1,2,3,10,999]:List Int).map aa))]) (tI .i64 v) (fk c'++[((0,0,1),.arr false 1 (([0,1,2,3,10,999]:List Int).map aa))]):=fun c hc=>by
     obtain⟨v,c',_,b,o,g⟩:=jG c [0,1,2,3,10,999] hc d_ d_;exact⟨v,c',b,o,g⟩
    have p5:=wy d;have Px:∀(t:LZ),t.J8.length<=8->tl [t] d:=fun t ht=>⟨s_,by simpa using p5,by intro u hu;simp at hu;subst hu;exact ht⟩;by_cases Zi:0<vars.length
    ·obtain⟨o,c2,b2,o2,g2⟩:=dN c1 2 o1
     cases o with
     | true=>
      obtain⟨f,c3,kf,_,b3,o3,g3⟩:=bG c2 ((vars.map ao).length:Int) o2;rw[QI]at kf;have P0:f<vars.length:=(by have:=kf o_;omega);obtain⟨nm,N5⟩:=ae P0;have MN:f<(vars.map ao).length:=(by rw[QI];exact P0);refine⟨[⟨1,0,nm⟩],c3,Px _ (S7 nm (c9 N5)),(b3.trans b2).trans b1,o3,?_⟩;refine aA hΓ aG func254 rfl d_ rfl rfl ?_;repeat' ((conv=>whnf);first|apply Wx|apply W6|apply oi|apply fi|intro h|exact Y7|refine e_ rfl ?_)
      refine cg (g1) ?_;repeat' ((conv=>whnf);first|apply Wx|apply W6|apply oi|apply fi|intro h|exact Y5|refine e_ rfl ?_)
      all_goals try(exfalso;simp at h;omega)
      all_goals(
       refine cg (g2) ?_;repeat' ((conv=>whnf);first|apply Wx|apply W6|apply oi|apply fi|intro h|exact Y7|refine e_ rfl ?_)
       refine cg (g3) ?_;repeat' ((conv=>whnf);first|apply Wx|apply W6|apply oi|apply fi|intro h|refine⟨f,rfl,MN,?_⟩|refine⟨(ao nm),ab N5,?_⟩|exact Y7|refine e_ rfl ?_)
      )
     | false=>
      obtain⟨v,c3,b3,o3,g3⟩:=pick c2 o2;refine⟨[⟨0,v,[]⟩],c3,Px _ s_,(b3.trans b2).trans b1,o3,?_⟩;refine aA hΓ aG func254 rfl d_ rfl rfl ?_;repeat' ((conv=>whnf);first|apply Wx|apply W6|apply oi|apply fi|intro h|exact Y7|refine e_ rfl ?_)
      refine cg (g1) ?_;repeat' ((conv=>whnf);first|apply Wx|apply W6|apply oi|apply fi|intro h|exact Y5|refine e_ rfl ?_)
      all_goals try(exfalso;simp at h;omega)
      all_goals(
       refine cg (g2) ?_;repeat' ((conv=>whnf);first|apply Wx|apply W6|apply oi|apply fi|intro h|exact Y7|refine e_ rfl ?_)
       refine cg (g3) ?_;exact Z2
      )
    ·obtain⟨v,c3,b3,o3,g3⟩:=pick c1 o1;refine⟨[⟨0,v,[]⟩],c3,Px _ s_,b3.trans b1,o3,?_⟩;refine aA hΓ aG func254 rfl d_ rfl rfl ?_;repeat' ((conv=>whnf);first|apply Wx|apply W6|apply oi|apply fi|intro h|exact Y7|refine e_ rfl ?_)
     refine cg (g1) ?_;repeat' ((conv=>whnf);first|apply Wx|apply W6|apply oi|apply fi|intro h|exact Y5|refine e_ rfl ?_)
     all_goals try(exfalso;simp at h;omega)
     all_goals(
      refine cg (g3) ?_;exact Z2
     )
termination_by d=>d
def HA (h:Int)(u:UInt8):Int:=IntKind.i64.wrap ((BitVec.ofInt IntKind.i64.bits (IntKind.i64.wrap (IntKind.i64.wrap (IntKind.i64.wrap (h*131)+IntKind.i64.wrap (u.toNat:Int))+7)) &&& BitVec.ofInt IntKind.i64.bits 1073741823).toNat:Int)
def GV (code:List UInt8):Int:=(code.take 4000).foldl HA (IntKind.i64.wrap (33147+((code.map aY).length:Int)))
theorem wN (code:List UInt8)(hl:code.length<=1048576):bA prog 57 [.r (.c (.t (.lst 1 (code.map aY))))] [] (.r (.c (.ptr (1,0,0) 0))) [((1,0,0),.box [.t (.lst 1 (code.map aY)),.t (.int .i64 0),.t (.int .i64 (GV code))])]:=by
 refine aA hΓ aG func57 rfl d_ rfl rfl ?_;have Mw:(code.map aY).length=code.length:=s_;obtain⟨H,hH⟩:∃H,GV code=H:=⟨_,rfl⟩;rw[hH];have ht:(code.take 4000).length<=4000:=by simp;omega
 repeat' ((conv=>whnf);first|apply Wx|apply W6|apply oi|apply fi|intro h|exact Y7|refine e_ rfl ?_)
 conv=>whnf
 refine⟨{q:Nat×Int//q.1<=code.length/\((code.take 4000).drop q.1).foldl HA q.2=H},fun q=>⟨[(0,.r (.c (.t (.lst 1 (code.map aY))))),(3,tI .i64 q.1.2),(4,tI .i64 (q.1.1:Int))],[],[0]⟩,fun q=>code.length-q.1.1,⟨(0,IntKind.i64.wrap (33147+((code.map aY).length:Int))),g_,hH⟩,?_,?_⟩
 ·exact Z2
 intro⟨⟨i,hv⟩,hi,hr⟩;dsimp only at hi hr⊢;by_cases Mz:i<code.length/\i<4000
 ·obtain⟨u,hu⟩:=ae Mz.1;rw[cF (x:=u) (by rw[n3,c7 Mz.2];exact hu),E9]at hr;repeat' ((conv=>whnf);first|apply Wx|apply W6|apply oi|apply fi|intro h|refine⟨i,(aY u),rfl,ab hu,?_⟩|exact Y5|refine e_ rfl ?_)
  conv=>whnf
  refine⟨⟨(i+1,HA hv u),g_,hr⟩,?_,KD⟩;repeat' ((conv=>whnf);first|apply Wx|apply W6|apply oi|apply fi|intro h|exact Y6|refine e_ rfl ?_)
  all_goals exact⟨rfl⟩
 ·rw[n9 aab]at hr;have hr:hv=H:=hr;subst hr;exact Z7
abbrev KC (vars names:List (List UInt8))(ars:List Int)(c:LH):List (Sim.Id×AO):=[((0,0,0),.box [.ptr (0,0,1) 0,.own (0,0,2),.t (.lst 1 (names.map ao)),.t (.lst 1 (ars.map aa))]),((0,0,1),.box [.t (.lst 1 (c.b.map aY)),.t (.int .i64 c.i),.t (.int .i64 c.h)]),((0,0,2),.arr false 1 (vars.map ao))]
theorem qh (vars names:List (List UInt8))(ars:List Int)(hv:vars.length<=100)(hn:names.length<=100)(ha:ars.length=names.length)(S8:∀a∈ars,0<=a/\a<=4)(S7:∀s∈vars,s.length<=8)(S2:∀s∈names,s.length<=8)
  (d:Nat) (m:Int) (c:LH) (hd:d<=8) (h0:0<=m) (h1:m<2^d) (hm:m<=1000) (hc:c.ok):∃(R:List LZ) (c':LH),tl R d/\c'.b=c.b/\c'.ok/\bA prog 227 [gz,tI .i64 m] (KC vars names ars c) (.r (.c (.own (1,0,0)))) (KC vars names ars c'++[((1,0,0),.arr false 3 (R.map LZ.tr))]):=by
 obtain⟨R,c',t1,b1,o1,g1⟩:=gj vars names ars hv hn ha S8 S7 S2 d m c hd h0 h1 hm hc;refine⟨R,c',t1,b1,o1,?_⟩;refine aA hΓ aG func227 rfl d_ rfl rfl ?_;repeat' ((conv=>whnf);first|apply Wx|apply W6|apply oi|apply fi|intro h|exact Y7|refine e_ rfl ?_)
 refine cg (g1) ?_;exact Z2
noncomputable section
open Classical (propDecidable)
attribute [local instance] propDecidable
def bX (n:Int)(c:LH):Nat×LH:=if h:c.ok then(Classical.choose (bG c n h),Classical.choose (l8 (bG c n h)))else(0,c)
theorem bR {c:LH}(h:c.ok)(n:Int):(0<n->((bX n c).1:Int)<n)/\(bX n c).2.b=c.b/\(bX n c).2.ok/\bA prog 130 [gz,tI .i64 n] (fk c) (tI .i64 (bX n c).1) (fk (bX n c).2):=by rw[bX,dif_pos h];have:=l8 (l8 (bG c n h));exact⟨this.1,this.2.2.1,this.2.2.2.1,this.2.2.2.2⟩
def jv (n:Int)(c:LH):Bool×LH:=if h:c.ok then(Classical.choose (dN c n h),Classical.choose (l8 (dN c n h)))else(false,c)
theorem gY {c:LH}(h:c.ok)(n:Int):(jv n c).2.b=c.b/\(jv n c).2.ok/\bA prog 171 [gz,tI .i64 n] (fk c) (tB (jv n c).1) (fk (jv n c).2):=by rw[jv,dif_pos h];exact l8 (l8 (dN c n h))
structure GP where
 vars:List (List UInt8)
 names:List (List UInt8)
 ars:List Int
structure GP.ok (G:GP):Prop where
 v1:0<G.vars.length
 v:G.vars.length<=100
 n:G.names.length<=100
 a:G.ars.length=G.names.length
 a4:∀a∈G.ars,0<=a/\a<=4
 v8:∀s∈G.vars,s.length<=8
 n8:∀s∈G.names,s.length<=8
abbrev gH (G:GP)(c:LH):List (Sim.Id×AO):=KC G.vars G.names G.ars c
theorem gex {G:GP}(hG:G.ok){c:LH}(hc:c.ok)(m:Nat)(hm:m<8):∃(R:List LZ) (c':LH),tl R 3/\c'.b=c.b/\c'.ok/\bA prog 227 [gz,tI .i64 (m:Int)] (gH G c) (.r (.c (.own (1,0,0)))) (gH G c'++[((1,0,0),.arr false 3 (R.map LZ.tr))]):=
 qh G.vars G.names G.ars hG.v hG.n hG.a hG.a4 hG.v8 hG.n8 3 (m:Int) c o_ o_ (by show(m:Int)<8;omega) o_ hc
def exV (G:GP)(m:Nat)(c:LH):List LZ×LH:=if h:G.ok/\c.ok/\m<8 then(Classical.choose (gex h.1 h.2.1 m h.2.2),Classical.choose (l8 (gex h.1 h.2.1 m h.2.2)))else([],c)
theorem eA {G:GP}(hG:G.ok){c:LH}(hc:c.ok)(m:Nat)(hm:m<8):tl (exV G m c).1 3/\(exV G m c).2.b=c.b/\(exV G m c).2.ok/\bA prog 227 [gz,tI .i64 (m:Int)] (gH G c) (.r (.c (.own (1,0,0)))) (gH G (exV G m c).2++[((1,0,0),.arr false 3 ((exV G m c).1.map LZ.tr))]):=by rw[exV,dif_pos ⟨hG,hc,hm⟩];exact l8 (l8 (gex hG hc m hm))
def jF (G:GP)(rc:Nat->LH->List LP×LH)(dp:Bool)(c:LH):List LP×LH:=
 let k:=(bX 9 c).1
 let c1:=(bX 9 c).2
 if k<4 then
  let v:=bX G.vars.length c1
  let e:=exV G 6 v.2
  ([⟨1,G.vars[v.1]?.getD [],[],e.1⟩],e.2)
 else if k<6 then
  let e:=exV G 5 c1
  ([⟨2,[],[],e.1⟩],e.2)
 else if k=6/\dp=true then
  let e:=exV G 4 c1
  let t:=bX 2 e.2
  let B:=rc (1+t.1) t.2
  let o:=jv 2 B.2
  if o.1=true then
   let E:=rc 1 o.2
   (⟨3,[],[],e.1⟩::(B.1++(⟨4,[],[],[]⟩::(E.1++[⟨7,[],[],[]⟩]))),E.2)
  else(⟨3,[],[],e.1⟩::(B.1++[⟨7,[],[],[]⟩]),o.2)
 else if k=7/\dp=true then
  let t:=bX 3 c1
  let B:=rc 1 t.2
  (⟨5,[],[],[⟨5,0,[]⟩,⟨1,0,[105]⟩,⟨0,(1+t.1:Nat),[]⟩]⟩::(B.1++[⟨1,[105],[],[⟨2,0,[]⟩,⟨1,0,[105]⟩,⟨0,1,[]⟩]⟩,⟨7,[],[],[]⟩]),B.2)
 else
  let o:=jv 3 c1
  if o.1=true then
   let e:=exV G 4 o.2
   ([⟨6,[],[],e.1⟩],e.2)
  else([],o.2)
def mb (G:GP)(rc:Nat->LH->List LP×LH)(dp:Bool):Nat->LH->List LP×LH
 | 0,c=>([],c)
 | n+1,c=>((jF G rc dp c).1++(mb G rc dp n (jF G rc dp c).2).1,(mb G rc dp n (jF G rc dp c).2).2)
def sM (G:GP):Nat->Nat->LH->List LP×LH
 | 0=>mb G (fun _ c=>([],c)) false
 | d+1=>mb G (sM G d) true
end
def sB:Nat->Nat
 | 0=>1
 | d+1=>3+3*sB d
structure BL (x:LP):Prop where
 name:x.J8.length<=8
 args:x.L5=[]
 len:x.K9.length<=125
 tok:∀t∈x.K9,t.J8.length<=8
 kind:1<=x.J1/\x.J1<=7
structure RcOk (s:Nat) (rc:Nat->LH->List LP×LH):Prop where
 len:∀n c,c.ok->(rc n c).1.length<=n*s
 b:∀n c,c.ok->(rc n c).2.b=c.b
 ok:∀n c,c.ok->(rc n c).2.ok
 bl:∀n c,c.ok->∀x∈(rc n c).1,BL x
theorem yf {k:Int}{n:List UInt8}{e:List LZ}(hn:n.length<=8)(h:tl e 3)(hk:1<=k/\k<=7:=by omega):BL ⟨k,n,[],e⟩:=⟨hn,rfl,h.2.1,h.2.2,hk⟩
theorem uJ {k:Int}(hk:1<=k/\k<=7:=by omega):BL ⟨k,[],[],[]⟩:=⟨s_,rfl,s_,s_,hk⟩
theorem yL {G:GP}(hG:G.ok){s:Nat}{rc:Nat->LH->List LP×LH}{dp:Bool}(h:dp=true->RcOk s rc){c:LH}(hc:c.ok):
  (jF G rc dp c).1.length<=3+3*s/\(dp=false->(jF G rc dp c).1.length<=1)/\(jF G rc dp c).2.b=c.b/\(jF G rc dp c).2.ok/\∀x∈(jF G rc dp c).1,BL x:=by
 obtain⟨k1,b1,o1,_⟩:=bR hc 9;unfold jF;dsimp only
 generalize(bX 9 c).1=k at *
 generalize(bX 9 c).2=c1 at *
 split
 ·obtain⟨k2,b2,o2,_⟩:=bR o1 (G.vars.length:Int);obtain⟨t3,b3,o3,_⟩:=eA hG o2 6 o_;refine⟨by simp;omega,fun _=>s_,(b3.trans b2).trans b1,o3,fun x hx=>?_⟩;simp only[t7]at hx;subst hx;refine yf ?_ t3
  cases hv:G.vars[(bX (G.vars.length:Int) c1).1]? with|none=>simp|some v=>exact hG.v8 v (c9 hv)
 split
 ·obtain⟨t3,b3,o3,_⟩:=eA hG o1 5 o_;refine⟨by simp;omega,fun _=>s_,b3.trans b1,o3,fun x hx=>?_⟩;simp only[t7]at hx;subst hx;exact yf s_ t3
 split
 ·rename_i hk;have hr:=h hk.2;obtain⟨t3,b3,o3,_⟩:=eA hG o1 4 o_;obtain⟨k4,b4,o4,_⟩:=bR o3 2;have hl:=hr.len (1+(bX 2 (exV G 4 c1).2).1) _ o4;have Ob:=hr.b (1+(bX 2 (exV G 4 c1).2).1) _ o4;have QE:=hr.ok (1+(bX 2 (exV G 4 c1).2).1) _ o4;have PM:=hr.bl (1+(bX 2 (exV G 4 c1).2).1) _ o4;have Ud:=k4 o_;have Oa:(rc (1+(bX 2 (exV G 4 c1).2).1) (bX 2 (exV G 4 c1).2).2).1.length<=2*s:=v5 hl (l9 _ o_)
  generalize rc (1+(bX 2 (exV G 4 c1).2).1) (bX 2 (exV G 4 c1).2).2=B at *
  obtain⟨b5,o5,_⟩:=gY QE 2;split
  ·have Wb:=hr.len 1 _ o5;have Rp:=hr.b 1 _ o5;have VH:=hr.ok 1 _ o5;have VJ:=hr.bl 1 _ o5
   generalize rc 1 (jv 2 B.2).2=E at *
   refine⟨by simp;omega,(fun e=>by rw[e]at hk;cases hk.2),((((Rp.trans b5).trans Ob).trans b4).trans b3).trans b1,VH,fun x hx=>?_⟩;simp only[d6,d9,l4,or_false]at hx;rcases hx with rfl|hx|rfl|hx|rfl
   ·exact yf s_ t3
   ·exact PM x hx
   ·exact uJ
   ·exact VJ x hx
   ·exact uJ
  ·refine⟨by simp;omega,(fun e=>by rw[e]at hk;cases hk.2),(((b5.trans Ob).trans b4).trans b3).trans b1,o5,fun x hx=>?_⟩;simp only[d6,d9,l4,or_false]at hx;rcases hx with rfl|hx|rfl
   ·exact yf s_ t3
   ·exact PM x hx
   ·exact uJ
 split
 ·rename_i hk;have hr:=h hk.2;obtain⟨k4,b4,o4,_⟩:=bR o1 3;have Wb:=hr.len 1 _ o4;have Rp:=hr.b 1 _ o4;have VH:=hr.ok 1 _ o4;have VJ:=hr.bl 1 _ o4
  generalize rc 1 (bX 3 c1).2=B at *
  refine⟨by simp;omega,(fun e=>by rw[e]at hk;cases hk.2),(Rp.trans b4).trans b1,VH,fun x hx=>?_⟩;simp only[d6,d9,l4,or_false]at hx;rcases hx with rfl|hx|rfl|rfl
  ·exact⟨s_,rfl,s_,s_,s_⟩
  ·exact VJ x hx
  ·exact⟨s_,rfl,s_,s_,s_⟩
  ·exact uJ
 ·obtain⟨b5,o5,_⟩:=gY o1 3;split
  ·obtain⟨t3,b3,o3,_⟩:=eA hG o5 4 o_;refine⟨by simp;omega,fun _=>s_,(b3.trans b5).trans b1,o3,fun x hx=>?_⟩;simp only[t7]at hx;subst hx;exact yf s_ t3
  ·exact⟨s_,fun _=>s_,b5.trans b1,o5,fun x hx=>by cases hx⟩
theorem Iq {G:GP}{rc:Nat->LH->List LP×LH}{dp:Bool}{s:Nat}(hs:∀c:LH,c.ok->(jF G rc dp c).1.length<=s/\(jF G rc dp c).2.b=c.b/\(jF G rc dp c).2.ok/\∀x∈(jF G rc dp c).1,BL x):RcOk s (mb G rc dp):=by
 have key:∀n c,c.ok->(mb G rc dp n c).1.length<=n*s/\(mb G rc dp n c).2.b=c.b/\(mb G rc dp n c).2.ok/\∀x∈(mb G rc dp n c).1,BL x:=by
  intro n
  induction n with
  | zero=>exact fun c hc=>⟨by simp[mb],rfl,hc,fun x hx=>by simp[mb]at hx⟩
  | succ n ih=>
   intro c hc;obtain⟨h1,h2,h3,h4⟩:=hs c hc;obtain⟨i1,i2,i3,i4⟩:=ih _ h3;rw[mb];refine⟨by simp only[c8];rw[Nat.succ_mul];omega,i2.trans h2,i3,fun x hx=>?_⟩;rcases d9.1 hx with hx|hx
   ·exact h4 x hx
   ·exact i4 x hx
 exact⟨fun n c hc=>(key n c hc).1,fun n c hc=>(key n c hc).2.1,fun n c hc=>(key n c hc).2.2.1,fun n c hc=>(key n c hc).2.2.2⟩
theorem nT {G:GP}(hG:G.ok):∀d,RcOk (sB d) (sM G d)
 | 0=>Iq fun c hc=>by
  have:=yL hG (s:=0) (rc:=fun _ c=>([],c)) (dp:=false) (fun e=>by cases e) hc
  exact⟨this.2.1 rfl,this.2.2⟩
 | d+1=>Iq fun c hc=>by
  have:=yL hG (dp:=true) (fun _=>nT hG d) hc;exact⟨this.1,this.2.2⟩
end Go.Proofs.P
namespace Go.Proofs.P
open Go.Sim Tryz
def dr (x:LP):List DC:=match x.K9 with
 | []=>[.t (.int .i64 x.J1),.t (.str x.J8),.t (.lst 0 []),.t (.lst 0 [])]
 | t::l=>[.d (.int .i64 x.J1),.d (.str x.J8),.d (.lst 0 []),.d (.lst 3 ((t::l).map LZ.tr))]
theorem rM (k:Int)(n:List UInt8)(a:List (List UInt8)):dr ⟨k,n,a,[]⟩=[.t (.int .i64 k),.t (.str n),.t (.lst 0 []),.t (.lst 0 [])]:=rfl
theorem IE (k:Int)(n:List UInt8)(a:List (List UInt8))(t:LZ)(l:List LZ):dr ⟨k,n,a,t::l⟩=[.d (.int .i64 k),.d (.str n),.d (.lst 0 []),.d (.lst 3 ((t::l).map LZ.tr))]:=rfl
theorem mf {e:List LZ}(h:0<e.length)(k:Int)(n:List UInt8)(a:List (List UInt8)):dr ⟨k,n,a,e⟩=[.d (.int .i64 k),.d (.str n),.d (.lst 0 []),.d (.lst 3 (e.map LZ.tr))]:=by
 cases e with
 | nil=>cases h
 | cons t l=>rfl
abbrev Gl (G:GP)(n:Nat)(d:Int)(c:LH)(R:List LP×LH):Prop:=bA prog 226 [gz,tI .i64 (n:Int),tI .i64 d] (gH G c) (.r (.c (.own (1,0,0)))) (gH G R.2++[((1,0,0),.dar 4 (R.1.map dr) none)])
theorem Kc {G:GP}(hG:G.ok){rc:Nat->LH->List LP×LH}{dp:Bool}{s d:Nat}(hd:d<=5)(Tm:dp=decide (0<d))(hs:3+3*s<=1000)(hR:dp=true->RcOk s rc)(SU:dp=true->∀n c,n<=2->c.ok->Gl G n ((d:Int)-1) c (rc n c))(n:Nat)(c:LH)(hn:n<=4)(hc:c.ok):
  Gl G n d c (mb G rc dp n c):=by
 refine aA hΓ aG func226 rfl d_ rfl rfl ?_;obtain⟨R,c',PH⟩:∃R c',mb G rc dp n c=(R,c'):=⟨_,_,rfl⟩;rw[PH];have QI:(G.vars.map ao).length=G.vars.length:=s_;repeat' ((conv=>whnf);first|apply Wx|apply W6|apply oi|apply fi|intro h|exact Y7|refine e_ rfl ?_)
 conv=>whnf
 refine⟨{q:Nat×LH×List LP//q.1<=n/\q.2.1.ok/\q.2.2.length+q.1*1000<=4000/\q.2.2++(mb G rc dp q.1 q.2.1).1=R/\(mb G rc dp q.1 q.2.1).2=c'},fun q=>⟨[(0,gz),(1,tI .i64 (q.1.1:Int)),(2,tI .i64 (d:Int)),(7,.r (.c (.own (10,0,0))))],[((0,0,0),some (.box [.ptr (0,0,1) 0,.own (0,0,2),.t (.lst 1 (G.names.map ao)),.t (.lst 1 (G.ars.map aa))])),((0,0,1),some (.box [.t (.lst 1 (q.1.2.1.b.map aY)),.t (.int .i64 q.1.2.1.i),.t (.int .i64 q.1.2.1.h)])),((0,0,2),some (.arr false 1 (G.vars.map ao))),((10,0,0),some (.dar 4 (q.1.2.2.map dr) none))],[10,0]⟩,fun q=>q.1.1,⟨(n,c,[]),g_,hc,by simp;omega,by rw[PH];rfl,by rw[PH]⟩,?_,?_⟩
 ·repeat' ((conv=>whnf);first|apply Wx|apply W6|apply oi|apply fi|intro h|exact Y7|refine e_ rfl ?_)
  all_goals try exact⟨rfl⟩
 intro⟨⟨rem,ci,acc⟩,hi,Ok,M5,NO,M8⟩;dsimp only at hi Ok M5 NO M8⊢
 cases rem with
 | zero=>
  simp only[mb,m6]at NO M8;subst NO;subst M8
  exact Z7
 | succ m=>
  rw[mb]at NO M8;dsimp only at NO M8;obtain⟨s1,_,s3,s4,_⟩:=yL hG hR Ok
  generalize hS:jF G rc dp ci=S at *
  obtain⟨k1,b1,o1,g1⟩:=bR Ok 9;unfold jF at hS;dsimp only at hS
  generalize bX 9 ci=q at *
  rw[<-j9]at NO;have Mw:(acc++S.1).length+m*1000<=4000:=by rw[c8];omega
  by_cases Vr:q.1<4
  ·rw[c7 Vr]at hS;obtain⟨k2,b2,o2,g2⟩:=bR o1 (G.vars.length:Int);obtain⟨t3,b3,o3,g3⟩:=eA hG o2 6 o_
   generalize bX (G.vars.length:Int) q.2=v at *
   generalize exV G 6 v.2=e at *
   subst hS;have kv:=hG.v1;have YV:v.1<(G.vars.map ao).length:=(by have:=k2 o_;omega);obtain⟨nm,N5⟩:=ae (l:=G.vars) (k:=v.1) o_;have YT:(G.vars.map ao)[v.1]?=some (ao nm):=ab N5;rw[QI.symm]at g2;repeat' ((conv=>whnf);first|apply Wx|apply W6|apply oi|apply fi|intro h|exact Y7|refine e_ rfl ?_)
   refine cg (g1) ?_;repeat' ((conv=>whnf);first|apply Wx|apply W6|apply oi|apply fi|intro h|exact Y5|refine e_ rfl ?_)
   refine cg (g2) ?_;repeat' ((conv=>whnf);first|apply Wx|apply W6|apply oi|apply fi|intro h|refine⟨_,rfl,YV,?_⟩|refine⟨_,YT,?_⟩|exact Y7|refine e_ rfl ?_)
   refine cg (g3) ?_;repeat' ((conv=>whnf);first|apply Wx|apply W6|apply oi|apply fi|intro h|exact Y7|refine e_ rfl ?_)
   all_goals try exact Q14
   all_goals try exact Q1
   all_goals try exact Q17
   conv=>whnf
   refine⟨⟨(m,_,_),g_,s4,Mw,NO,M8⟩,?_,KD⟩;repeat' ((conv=>whnf);first|apply Wx|apply W6|apply oi|apply fi|intro h|exact Y14|refine e_ rfl ?_)
   all_goals exact⟨by simp[mf t3.1,N5]⟩
  rw[b8 Vr]at hS;by_cases Xe:q.1<6
  ·rw[c7 Xe]at hS;obtain⟨t3,b3,o3,g3⟩:=eA hG o1 5 o_
   generalize exV G 5 q.2=e at *
   subst hS;repeat' ((conv=>whnf);first|apply Wx|apply W6|apply oi|apply fi|intro h|exact Y7|refine e_ rfl ?_)
   refine cg (g1) ?_;repeat' ((conv=>whnf);first|apply Wx|apply W6|apply oi|apply fi|intro h|exact Y5|refine e_ rfl ?_)
   refine cg (g3) ?_;repeat' ((conv=>whnf);first|apply Wx|apply W6|apply oi|apply fi|intro h|exact Y7|refine e_ rfl ?_)
   all_goals try exact Q14
   all_goals try exact Q1
   all_goals try exact Q17
   conv=>whnf
   refine⟨⟨(m,_,_),g_,s4,Mw,NO,M8⟩,?_,KD⟩;repeat' ((conv=>whnf);first|apply Wx|apply W6|apply oi|apply fi|intro h|exact Y14|refine e_ rfl ?_)
   all_goals exact⟨by simp[mf t3.1]⟩
  rw[b8 Xe]at hS;by_cases QK:q.1=6/\dp=true
  ·rw[c7 QK]at hS;obtain⟨QK,PO⟩:=QK;have QF:0<d:=(by rw[Tm]at PO;exact f0 PO);have UI:=hR PO;obtain⟨t3,b3,o3,g3⟩:=eA hG o1 4 o_
   generalize exV G 4 q.2=e at *
   obtain⟨k4,b4,o4,g4⟩:=bR o3 2
   generalize bX 2 e.2=t at *
   have g5:=SU PO (1+t.1) t.2 (by have:=k4 o_;omega) o4;have l5:=UI.len (1+t.1) t.2 o4;have ob5:=UI.ok (1+t.1) t.2 o4;have l5':(rc (1+t.1) t.2).1.length<=2*s:=v5 l5 (l9 _ (by have:=k4 o_;omega))
   generalize rc (1+t.1) t.2=B at *
   obtain⟨b6,o6,g6⟩:=gY ob5 2
   generalize jv 2 B.2=o at *
   cases ho:o.1 with
   | true=>
    rw[c7 ho]at hS;rw[ho]at g6;have g7:=SU PO 1 o.2 o_ o6;have l7:=UI.len 1 o.2 o6
    generalize rc 1 o.2=E at *
    subst hS;repeat' ((conv=>whnf);first|apply Wx|apply W6|apply oi|apply fi|intro h|exact Y7|refine e_ rfl ?_)
    refine cg (g1) ?_;repeat' ((conv=>whnf);first|apply Wx|apply W6|apply oi|apply fi|intro h|exact Y13|refine e_ rfl ?_)
    refine cg (g3) ?_;repeat' ((conv=>whnf);first|apply Wx|apply W6|apply oi|apply fi|intro h|exact Y7|refine e_ rfl ?_)
    all_goals try exact Q14
    all_goals try exact Q1
    all_goals try exact Q17
    refine cg (g4) ?_;repeat' ((conv=>whnf);first|apply Wx|apply W6|apply oi|apply fi|intro h|exact Y7|refine e_ rfl ?_)
    all_goals try exact Q14
    all_goals try exact Q1
    all_goals try exact Q17
    refine cg (g5) ?_;repeat' ((conv=>whnf);first|apply Wx|apply W6|apply oi|apply fi|intro h|exact Y7|refine e_ rfl ?_)
    all_goals try exact Q14
    all_goals try exact Q1
    all_goals try exact Q17
    refine cg (g6) ?_;repeat' ((conv=>whnf);first|apply Wx|apply W6|apply oi|apply fi|intro h|exact Y7|refine e_ rfl ?_)
    all_goals try exact Q14
    all_goals try exact Q1
    all_goals try exact Q17
    refine cg (g7) ?_;repeat' ((conv=>whnf);first|apply Wx|apply W6|apply oi|apply fi|intro h|exact Y7|refine e_ rfl ?_)
    all_goals try exact Q14
    all_goals try exact Q1
    all_goals try exact Q17
    conv=>whnf
    refine⟨⟨(m,_,_),g_,s4,Mw,NO,M8⟩,?_,KD⟩;repeat' ((conv=>whnf);first|apply Wx|apply W6|apply oi|apply fi|intro h|exact Y14|refine e_ rfl ?_)
    all_goals exact⟨by simp[mf t3.1,rM]⟩
   | false=>
    rw[b8 aag]at hS;rw[ho]at g6;subst hS;repeat' ((conv=>whnf);first|apply Wx|apply W6|apply oi|apply fi|intro h|exact Y7|refine e_ rfl ?_)
    refine cg (g1) ?_;repeat' ((conv=>whnf);first|apply Wx|apply W6|apply oi|apply fi|intro h|exact Y13|refine e_ rfl ?_)
    refine cg (g3) ?_;repeat' ((conv=>whnf);first|apply Wx|apply W6|apply oi|apply fi|intro h|exact Y7|refine e_ rfl ?_)
    all_goals try exact Q14
    all_goals try exact Q1
    all_goals try exact Q17
    refine cg (g4) ?_;repeat' ((conv=>whnf);first|apply Wx|apply W6|apply oi|apply fi|intro h|exact Y7|refine e_ rfl ?_)
    all_goals try exact Q14
    all_goals try exact Q1
    all_goals try exact Q17
    refine cg (g5) ?_;repeat' ((conv=>whnf);first|apply Wx|apply W6|apply oi|apply fi|intro h|exact Y7|refine e_ rfl ?_)
    all_goals try exact Q14
    all_goals try exact Q1
    all_goals try exact Q17
    refine cg (g6) ?_;repeat' ((conv=>whnf);first|apply Wx|apply W6|apply oi|apply fi|intro h|exact Y7|refine e_ rfl ?_)
    all_goals try exact Q14
    all_goals try exact Q1
    all_goals try exact Q17
    conv=>whnf
    refine⟨⟨(m,_,_),g_,s4,Mw,NO,M8⟩,?_,KD⟩;repeat' ((conv=>whnf);first|apply Wx|apply W6|apply oi|apply fi|intro h|exact Y14|refine e_ rfl ?_)
    all_goals exact⟨by simp[mf t3.1,rM]⟩
  rw[b8 QK]at hS;by_cases TL:q.1=7/\dp=true
  ·rw[c7 TL]at hS;obtain⟨TL,PO⟩:=TL;have QF:0<d:=(by rw[Tm]at PO;exact f0 PO);have UI:=hR PO;obtain⟨k4,b4,o4,g4⟩:=bR o1 3
   generalize bX 3 q.2=t at *
   have Ud:=k4 o_;have Se:IntKind.i64.wrap (1+(t.1:Int))=1+(t.1:Int):=c6 _ o_;have g5:=SU PO 1 t.2 o_ o4;have l5:=UI.len 1 t.2 o4
   generalize rc 1 t.2=B at *
   subst hS;repeat' ((conv=>whnf);first|apply Wx|apply W6|apply oi|apply fi|intro h|exact Y7|refine e_ rfl ?_)
   refine cg (g1) ?_;repeat' ((conv=>whnf);first|apply Wx|apply W6|apply oi|apply fi|intro h|exact Y13|refine e_ rfl ?_)
   refine cg (g4) ?_;repeat' ((conv=>whnf);first|apply Wx|apply W6|apply oi|apply fi|intro h|exact Y7|refine e_ rfl ?_)
   all_goals try exact⟨aT [⟨5,0,[]⟩,⟨1,0,[105]⟩,⟨0,IntKind.i64.wrap (1+(t.1:Int)),[]⟩]⟩
   all_goals try exact Q14
   all_goals try exact Q1
   all_goals try exact Q17
   refine cg (g5) ?_;repeat' ((conv=>whnf);first|apply Wx|apply W6|apply oi|apply fi|intro h|exact Y7|refine e_ rfl ?_)
   all_goals try exact⟨aT [⟨2,0,[]⟩,⟨1,0,[105]⟩,⟨0,1,[]⟩]⟩
   all_goals try exact Q14
   all_goals try exact Q1
   all_goals try exact Q17
   conv=>whnf
   refine⟨⟨(m,_,_),g_,s4,Mw,NO,M8⟩,?_,KD⟩;repeat' ((conv=>whnf);first|apply Wx|apply W6|apply oi|apply fi|intro h|exact Y14|refine e_ rfl ?_)
   all_goals exact⟨by simp[rM,IE,LZ.tr,Se]⟩
  rw[b8 TL]at hS;have OR:¬(q.1=6/\0<d)/\¬(q.1=7/\0<d):=⟨fun h=>QK ⟨h.1,by rw[Tm];exact q9 h.2⟩,fun h=>TL ⟨h.1,by rw[Tm];exact q9 h.2⟩⟩;obtain⟨b6,o6,g6⟩:=gY o1 3
  generalize jv 3 q.2=o at *
  cases ho:o.1 with
  | true=>
   rw[c7 ho]at hS;rw[ho]at g6;obtain⟨t3,b3,o3,g3⟩:=eA hG o6 4 o_
   generalize exV G 4 o.2=e at *
   subst hS;repeat' ((conv=>whnf);first|apply Wx|apply W6|apply oi|apply fi|intro h|exact Y7|refine e_ rfl ?_)
   refine cg (g1) ?_;repeat' ((conv=>whnf);first|apply Wx|apply W6|apply oi|apply fi|intro h|exact Y13|refine e_ rfl ?_)
   all_goals(
    refine cg (g6) ?_;repeat' ((conv=>whnf);first|apply Wx|apply W6|apply oi|apply fi|intro h|exact Y7|refine e_ rfl ?_)
    refine cg (g3) ?_;repeat' ((conv=>whnf);first|apply Wx|apply W6|apply oi|apply fi|intro h|exact Y7|refine e_ rfl ?_)
    all_goals try exact Q14
    all_goals try exact Q1
    all_goals try exact Q17
    conv=>whnf
    refine⟨⟨(m,_,_),g_,s4,Mw,NO,M8⟩,?_,KD⟩;repeat' ((conv=>whnf);first|apply Wx|apply W6|apply oi|apply fi|intro h|exact Y14|refine e_ rfl ?_)
    all_goals exact⟨by simp[mf t3.1]⟩)
  | false=>
   rw[b8 aag]at hS;rw[ho]at g6;subst hS;repeat' ((conv=>whnf);first|apply Wx|apply W6|apply oi|apply fi|intro h|exact Y7|refine e_ rfl ?_)
   refine cg (g1) ?_;repeat' ((conv=>whnf);first|apply Wx|apply W6|apply oi|apply fi|intro h|exact Y13|refine e_ rfl ?_)
   all_goals(
    refine cg (g6) ?_;repeat' ((conv=>whnf);first|apply Wx|apply W6|apply oi|apply fi|intro h|exact Y7|refine e_ rfl ?_)
    conv=>whnf
    refine⟨⟨(m,_,_),g_,s4,Mw,NO,M8⟩,?_,KD⟩;repeat' ((conv=>whnf);first|apply Wx|apply W6|apply oi|apply fi|intro h|exact Y14|refine e_ rfl ?_)
    all_goals exact⟨s_⟩)
theorem yz {G:GP}(hG:G.ok):∀(d n:Nat) (c:LH),d<=2->n<=4->c.ok->Gl G n d c (sM G d n c)
 | 0,n,c,_,hn,hc=>Kc hG (s:=0) o_ rfl o_ (fun h=>by cases h) (fun h=>by cases h) n c hn hc
 | d+1,n,c,hd,hn,hc=>Kc hG (s:=sB d) o_ s_ (by
   have:d=0\/d=1:=o_
   rcases this with rfl|rfl<;>simp[sB]) (fun _=>nT hG d) (fun _ m c' hm MB=>by
   have e:(((d+1:Nat):Int)-1)=(d:Int):=o_;rw[e]
   exact yz hG d m c' o_ o_ MB) n c hn hc
def nm0:List (List UInt8):=[[109,97,105,110],[102],[103,103],[104]]
def ar0:List Int:=[0,1,2,1]
def arg0:List (List UInt8):=[[120],[121]]
def arN (k:Nat):Nat:=(ar0[k]?.getD 0).toNat
def nmN (k:Nat):List UInt8:=nm0[k]?.getD []
def gpV (n k:Nat)(b:Bool):GP:=⟨arg0.take (arN k)++[[105],[122]],(nm0.take n).drop (if b=true then k else k+1),(ar0.take n).drop (if b=true then k else k+1)⟩
theorem zv {n k:Nat}(b:Bool):(gpV n k b).ok:=by
 refine⟨by simp[gpV],by simp[gpV,arg0];omega,by simp[gpV,nm0];omega,by simp[gpV,nm0,ar0],fun a ha=>?_,fun s hs=>?_,fun s hs=>?_⟩
 ·have:=t8 (z7 ha);simp[ar0]at this;omega
 ·simp only[gpV,d9]at hs;rcases hs with hs|hs
  ·have:=t8 hs;simp[arg0]at this;rcases this with rfl|rfl<;>simp
  ·simp at hs;rcases hs with rfl|rfl<;>simp
 ·have:=t8 (z7 hs);simp[nm0]at this;rcases this with rfl|rfl|rfl|rfl<;>simp
noncomputable def wT (n k:Nat) (c:LH):List LP×LH:=
 let o:=if 0<k then jv 5 c else(false,c)
 let G:=gpV n k o.1
 let t:=bX 4 o.2
 let u:=bX 2 t.2
 let B:=sM G (1+u.1) (1+t.1) u.2
 let e:=exV G 3 B.2
 (⟨0,nmN k,arg0.take (arN k),[]⟩::(B.1++[⟨6,[],[],e.1⟩,⟨7,[],[],[]⟩]),e.2)
noncomputable def jB (n:Nat):Nat->Nat->LH->List LP×LH
 | 0,_,c=>([],c)
 | r+1,k,c=>((wT n k c).1++(jB n r (k+1) (wT n k c).2).1,(jB n r (k+1) (wT n k c).2).2)
noncomputable def kT (c:LH):List LP×LH:=jB (1+(bX 4 c).1) (1+(bX 4 c).1) 0 (bX 4 c).2
def drP (x:LP):List DC:=if x.J1=0 then [.d (.int .i64 0),.d (.str x.J8),.d (.lst 1 (x.L5.map ao)),.d (.lst 0 [])]else dr x
structure PL (x:LP):Prop where
 name:x.J8.length<=8
 args:x.L5.length<=2/\∀s∈x.L5,s.length<=8
 len:x.K9.length<=125
 tok:∀t∈x.K9,t.J8.length<=8
 fe:x.J1=0->x.K9=[]
 fa:x.J1≠0->x.L5=[]
theorem GU {n k:Nat}{c:LH}(hc:c.ok):(wT n k c).1.length<=200/\(wT n k c).2.b=c.b/\(wT n k c).2.ok/\∀x∈(wT n k c).1,PL x:=by
 unfold wT;dsimp only
 have ho:(if 0<k then jv 5 c else(false,c)).2.b=c.b/\(if 0<k then jv 5 c else(false,c)).2.ok:=by
  split
  ·have:=gY hc 5;exact⟨this.1,this.2.1⟩
  ·exact⟨rfl,hc⟩
 generalize(if 0<k then jv 5 c else(false,c))=o at *
 have hG:=zv (n:=n) (k:=k) o.1
 generalize gpV n k o.1=G at *
 obtain⟨k4,b4,o4,_⟩:=bR ho.2 4;obtain⟨k2,b2,o2,_⟩:=bR o4 2;have Ud:=k4 o_;have k2':=k2 o_;have hB:=nT hG (1+(bX 2 (bX 4 o.2).2).1);have hl:=hB.len (1+(bX 4 o.2).1) _ o2;have hb:=hB.b (1+(bX 4 o.2).1) _ o2;have hk:=hB.ok (1+(bX 4 o.2).1) _ o2;have hx:=hB.bl (1+(bX 4 o.2).1) _ o2
 have hs:sB (1+(bX 2 (bX 4 o.2).2).1)<=21:=by have:(bX 2 (bX 4 o.2).2).1=0\/(bX 2 (bX 4 o.2).2).1=1:=o_;rcases this with e|e<;>rw[e]<;>simp[sB]
 have Oa:=A4 (show 1+(bX 4 o.2).1<=4 by omega) hs
 generalize sM G (1+(bX 2 (bX 4 o.2).2).1) (1+(bX 4 o.2).1) (bX 2 (bX 4 o.2).2).2=B at *
 obtain⟨t3,b3,o3,_⟩:=eA hG hk 3 o_;refine⟨by simp;omega,((b3.trans hb).trans b2).trans (b4.trans ho.1),o3,fun x h=>?_⟩;have PM:∀{x:LP},BL x->PL x:=fun h=>⟨h.name,by rw[h.args];simp,h.len,h.tok,fun e=>by have:=h.kind;omega,fun _=>h.args⟩;simp only[d6,d9,l4,or_false]at h;rcases h with rfl|h|rfl|rfl
 ·refine⟨?_,⟨?_,fun s hs=>?_⟩,s_,s_,fun _=>rfl,fun e=>absurd rfl e⟩
  ·show(nmN k).length<=8;unfold nmN
   cases hn:nm0[k]? with
   | none=>simp
   | some v=>have:=c9 hn;simp[nm0]at this;rcases this with rfl|rfl|rfl|rfl<;>simp
  ·simp[arg0];omega
  ·have:=t8 hs;simp[arg0]at this;rcases this with rfl|rfl<;>simp
 ·exact PM (hx x h)
 ·exact PM (yf s_ t3)
 ·exact PM uJ
theorem zj (n:Nat):∀(r k:Nat) (c:LH),c.ok->(jB n r k c).1.length<=r*200/\(jB n r k c).2.b=c.b/\(jB n r k c).2.ok/\∀x∈(jB n r k c).1,PL x
 | 0,_,c,hc=>⟨by simp[jB],rfl,hc,fun x hx=>by simp[jB]at hx⟩
 | r+1,k,c,hc=>by
  obtain⟨h1,h2,h3,h4⟩:=GU (n:=n) (k:=k) hc;obtain⟨i1,i2,i3,i4⟩:=zj n r (k+1) _ h3;rw[jB];refine⟨by simp only[c8];omega,i2.trans h2,i3,fun x hx=>?_⟩;rcases d9.1 hx with hx|hx
  ·exact h4 x hx
  ·exact i4 x hx
theorem Ec {c:LH}(hc:c.ok):(kT c).1.length<=800/\(kT c).2.b=c.b/\(kT c).2.ok/\∀x∈(kT c).1,PL x:=by obtain⟨k1,b1,o1,_⟩:=bR hc 4;have Vb:=k1 o_;obtain⟨h1,h2,h3,h4⟩:=zj (1+(bX 4 c).1) (1+(bX 4 c).1) 0 _ o1;have:=l9 200 (show 1+(bX 4 c).1<=4 by omega);exact⟨by unfold kT;omega,h2.trans b1,h3,h4⟩
theorem CM {l:List LP}(h:∀x∈l,BL x):l.map dr=l.map drP:=by refine List.map_congr_left fun x hx=>?_;have:=(h x hx).kind;rw[drP,b8 o_]
theorem Jm {x:LP}(h:PL x):((drP x).map DC.tr).length=x.tr.length/\∀(p:Nat) (c d:Tr),((drP x).map DC.tr)[p]?=some c->x.tr[p]?=some d->emE c d:=by
 obtain⟨k,n,a,e⟩:=x
 have key:∃u v,(drP ⟨k,n,a,e⟩).map DC.tr=[.int .i64 k,.str n,u,v]/\emE u (.lst 1 (a.map ao))/\emE v (.lst 3 (e.map LZ.tr)):=by
  by_cases h0:k=0
  ·subst h0;have he:=h.fe rfl;dsimp only at he;subst he;exact⟨_,_,rfl,.inl rfl,.inr ⟨_,_,rfl,rfl⟩⟩
  ·have ha:=h.fa h0;dsimp only at ha;subst ha;rw[drP,b8 h0]
   cases e with|nil=>exact⟨_,_,rfl,.inr ⟨_,_,rfl,rfl⟩,.inr ⟨_,_,rfl,rfl⟩⟩|cons t l=>exact⟨_,_,rfl,.inr ⟨_,_,rfl,rfl⟩,.inl rfl⟩
 obtain⟨u,v,e1,e2,e3⟩:=key;rw[e1];refine⟨rfl,fun p c d hc hd=>?_⟩
 match p with|0=>simp[LP.tr]at hc hd;subst hc;subst hd;exact .inl rfl|1=>simp[LP.tr]at hc hd;subst hc;subst hd;exact .inl rfl|2=>simp[LP.tr]at hc hd;subst hc;subst hd;exact e2|3=>simp[LP.tr]at hc hd;subst hc;subst hd;exact e3|p+4=>simp at hc
theorem Eg:∀{l:List LP},(∀x∈l,PL x)->emR ((l.map drP).map fun x=>x.map DC.tr) (l.map LP.tr)
 | [],_=>trivial
 | x::l,h=>⟨Jm (h x s_),Eg fun y hy=>h y aaJ⟩
theorem V115{p:Prop}(h:p:=by
 have:u.1=0\/u.1=1:=o_
 rcases this with e|e<;>rw[e]<;>simp[sB]):p:=h
theorem Q20{p:Prop}(h:p:=by exact⟨by simp[drP,mf t3.1,rM,hx,y8,arg0,ao]⟩):p:=h
theorem pD (c:LH)(hc:c.ok):bA prog 170 [gz] (fk c) (.r (.c (.t (.lst 4 ((kT c).1.map LP.tr))))) (fk (kT c).2):=by
 obtain⟨k1,b1,o1,g1⟩:=bR hc 4;have Vb:=k1 o_;refine aA hΓ aG func170 rfl d_ rfl rfl ?_;unfold kT
 generalize(bX 4 c).2=c1 at *
 obtain⟨n,hn⟩:∃n,1+(bX 4 c).1=n:=⟨_,rfl⟩;have hw:IntKind.i64.wrap (1+((bX 4 c).1:Int))=(n:Int):=by rw[c6 _ o_];omega
 rw[hn];obtain⟨R,c',PH⟩:∃R c',jB n n 0 c1=(R,c'):=⟨_,_,rfl⟩;have WI:=(zj n n 0 _ o1).2.2.2;rw[PH]at WI⊢;repeat' ((conv=>whnf);first|(with_reducible apply W1;fail_if_success (with_reducible show Wo _ _ _ _ (Code.seq (Code.region 5 _ _) _) _ _))|(with_reducible first|apply W2|apply W3|apply W4|apply W5|apply W6|apply W7|apply W8|apply W9)|apply aB|apply oi|apply fi|intro h|exact Y7|refine e_ rfl ?_)
 refine cg (g1) ?_;repeat' ((conv=>whnf);first|(with_reducible apply W1;fail_if_success (with_reducible show Wo _ _ _ _ (Code.seq (Code.region 5 _ _) _) _ _))|(with_reducible first|apply W2|apply W3|apply W4|apply W5|apply W6|apply W7|apply W8|apply W9)|apply aB|apply oi|apply fi|intro h|exact Y7|refine e_ rfl ?_)
 conv=>whnf
 refine nN ⟨[(0,gz),(3,vN nm0),(4,.r (.c (.t (.lst 1 (ar0.map aa))))),(5,tI .i64 (IntKind.i64.wrap (1+((bX 4 c).1:Int)))),(6,.r (.c (.own (15,0,0))))],[((0,0,0),some (.box [.t (.lst 1 (c1.b.map aY)),.t (.int .i64 c1.i),.t (.int .i64 c1.h)])),((15,0,0),some (.arr true 4 []))],[15,13,11,10,0]⟩ ?_ ?_ rfl ?_
 ·refine⟨.inl rfl,.inr ⟨_,_,rfl,rfl,rfl,?_⟩,.inr ⟨_,_,rfl,rfl,rfl,?_⟩,.inl rfl,.inl rfl,trivial⟩;all_goals(intro q hq;simp only[AC.ids,d6,l4,or_false]at hq;subst hq;rfl)
 ·exact⟨.inr rfl,.inr rfl,trivial⟩
 rw[hw];repeat' ((conv=>whnf);first|apply Wx|apply W6|apply oi|apply fi|intro h|exact Y7|refine e_ rfl ?_)
 conv=>whnf
 refine⟨{q:Nat×LH×List LP//q.1<=n/\q.2.1.ok/\q.2.2.length+(n-q.1)*200<=800/\q.2.2++(jB n (n-q.1) q.1 q.2.1).1=R/\(jB n (n-q.1) q.1 q.2.1).2=c'},fun q=>⟨[(0,gz),(3,vN nm0),(4,.r (.c (.t (.lst 1 (ar0.map aa))))),(5,tI .i64 (n:Int)),(6,.r (.c (.own (15,0,0)))),(7,tI .i64 (q.1.1:Int))],[((0,0,0),some (.box [.t (.lst 1 (q.1.2.1.b.map aY)),.t (.int .i64 q.1.2.1.i),.t (.int .i64 q.1.2.1.h)])),((15,0,0),some (.dar 4 (q.1.2.2.map drP) none))],[15,0]⟩,fun q=>n-q.1.1,⟨(0,c1,[]),g_,o1,by simp;omega,by dsimp only;rw[y0,PH];rfl,by dsimp only;rw[y0,PH]⟩,?_,?_⟩
 ·repeat' ((conv=>whnf);first|apply Wx|apply W6|apply oi|apply fi|intro h|exact Y7|refine e_ rfl ?_)
  all_goals try exact⟨rfl⟩
 intro⟨⟨k,ci,acc⟩,hi,Ok,M5,NO,M8⟩;dsimp only at hi Ok M5 NO M8⊢;by_cases Mz:k<n
 ·obtain⟨m,hm⟩:∃m,n-k=m+1:=⟨n-k-1,o_⟩;rw[hm]at NO M8 M5;rw[jB]at NO M8;dsimp only at NO M8;obtain⟨s1,_,s3,s4⟩:=GU (n:=n) (k:=k) Ok
  generalize hF:wT n k ci=F at *
  rw[<-j9]at NO;have Mw:(acc++F.1).length+(n-(k+1))*200<=800:=by rw[c8];omega
  rw[show m=n-(k+1) by omega]at NO M8;unfold wT at hF;dsimp only at hF;have Vr:k<4:=o_
  have N5:nm0[k]?=some (nmN k):=by have:k=0\/k=1\/k=2\/k=3:=o_;rcases this with rfl|rfl|rfl|rfl<;>rfl
  have Tc:ar0[k]?=some (arN k:Int):=by have:k=0\/k=1\/k=2\/k=3:=o_;rcases this with rfl|rfl|rfl|rfl<;>rfl
  have OG:arN k<=2:=by have:k=0\/k=1\/k=2\/k=3:=o_;rcases this with rfl|rfl|rfl|rfl<;>decide
  have Nl:IntKind.i64.wrap ((k:Int)+1)=((k+1:Nat):Int):=by rw[c6 _ o_];omega
  have N2:(nm0.map ao).length=4:=rfl;have QU:(ar0.map aa).length=4:=rfl;have MN:flat ([]++List.take (arN k) (arg0.map ao)):=by rw[t6,<-y8];exact kV _
  rcases v3 k with N1|N1
  ·rw[b8 o_]at hF
   (try dsimp only at hF)
   have hG:=zv (n:=n) (k:=k) false;obtain⟨k4,b4,o4,g4⟩:=bR Ok 4
   generalize bX 4 ci=t at *
   obtain⟨k5,b5,o5,g5⟩:=bR o4 2
   generalize bX 2 t.2=u at *
   have Ud:=k4 o_;have XD:=k5 o_;have g6:=yz hG (1+u.1) (1+t.1) u.2 o_ o_ o5;have hB:=nT hG (1+u.1);have hl:=hB.len (1+t.1) _ o5;have hk:=hB.ok (1+t.1) _ o5;have hx:=CM (hB.bl (1+t.1) _ o5)
   have hs:sB (1+u.1)<=21:=by exact V115
   have Oa:=A4 (show 1+t.1<=4 by omega) hs
   generalize sM (gpV n k false) (1+u.1) (1+t.1) u.2=B at *
   obtain⟨t3,b3,o3,g3⟩:=eA hG hk 3 o_
   generalize exV (gpV n k false) 3 B.2=e at *
   subst hF;have Ne:Tr.lst 1 ((gpV n k false).names.map ao)=Tr.lst 1 (((nm0.map ao).take n).drop (k+1)):=(by simp[gpV,A9,y8]);have Qh:Tr.lst 1 ((gpV n k false).ars.map aa)=Tr.lst 1 (((ar0.map aa).take n).drop (k+1)):=(by simp[gpV,A9,y8]);have NV:[]++List.take (arN k) (arg0.map ao)++([[105],[122]]:List (List UInt8)).map ao=(gpV n k false).vars.map ao:=(by simp[gpV,y8]);have QG:Tr.int .i64 ((1+t.1:Nat):Int)=Tr.int .i64 (IntKind.i64.wrap (1+(t.1:Int))):=(by rw[c6 _ o_];simp);have PU:Tr.int .i64 ((1+u.1:Nat):Int)=Tr.int .i64 (IntKind.i64.wrap (1+(u.1:Int))):=(by rw[c6 _ o_];simp);repeat' ((conv=>whnf);first|apply Wx|apply W6|apply oi|apply fi|intro h|refine⟨k,(aa (arN k)),rfl,ab Tc,?_⟩|refine⟨0,arN k,rfl,rfl,w6 _,OG,?_⟩|refine⟨k+1,n,Nl,rfl,o_,by(rw[N2];omega),?_⟩|refine⟨k+1,n,Nl,rfl,o_,by(rw[QU];omega),?_⟩|refine⟨k,(ao (nmN k)),rfl,ab N5,?_⟩|exact Y5|refine e_ rfl ?_)
   all_goals try exact⟨OG⟩
   all_goals try exact Q1
   all_goals try exact⟨MN⟩
   refine cg (g4) ?_;repeat' ((conv=>whnf);first|apply Wx|apply W6|apply oi|apply fi|intro h|exact Y7|refine e_ rfl ?_)
   refine cg (g5) ?_;repeat' ((conv=>whnf);first|apply Wx|apply W6|apply oi|apply fi|intro h|exact Y7|refine e_ rfl ?_)
   refine cg (g6) ?_;repeat' ((conv=>whnf);first|apply Wx|apply W6|apply oi|apply fi|intro h|exact Y7|refine e_ rfl ?_)
   all_goals try exact⟨Ne⟩
   all_goals try exact⟨Qh⟩
   all_goals try exact⟨QG⟩
   all_goals try exact⟨PU⟩
   all_goals try exact⟨NV⟩
   all_goals try exact Q1
   refine cg (g3) ?_;repeat' ((conv=>whnf);first|apply Wx|apply W6|apply oi|apply fi|intro h|exact Y7|refine e_ rfl ?_)
   all_goals try exact Q14
   all_goals try exact Q1
   conv=>whnf
   refine⟨⟨(k+1,_,_),g_,s3,Mw,NO,M8⟩,?_,KD⟩;repeat' ((conv=>whnf);first|apply Wx|apply W6|apply oi|apply fi|intro h|exact Y8|refine e_ rfl ?_)
   all_goals try exact Q20
  ·rw[c7 N1]at hF;obtain⟨b7,o7,g7⟩:=gY Ok 5
   generalize jv 5 ci=o at *
   (try dsimp only at hF)
   cases ho:o.1 with
   | true=>
    rw[ho]at hF g7;have hG:=zv (n:=n) (k:=k) true;obtain⟨k4,b4,o4,g4⟩:=bR o7 4
    generalize bX 4 o.2=t at *
    obtain⟨k5,b5,o5,g5⟩:=bR o4 2
    generalize bX 2 t.2=u at *
    have Ud:=k4 o_;have XD:=k5 o_;have g6:=yz hG (1+u.1) (1+t.1) u.2 o_ o_ o5;have hB:=nT hG (1+u.1);have hl:=hB.len (1+t.1) _ o5;have hk:=hB.ok (1+t.1) _ o5;have hx:=CM (hB.bl (1+t.1) _ o5)
    have hs:sB (1+u.1)<=21:=by exact V115
    have Oa:=A4 (show 1+t.1<=4 by omega) hs
    generalize sM (gpV n k true) (1+u.1) (1+t.1) u.2=B at *
    obtain⟨t3,b3,o3,g3⟩:=eA hG hk 3 o_
    generalize exV (gpV n k true) 3 B.2=e at *
    subst hF;have Ne:Tr.lst 1 ((gpV n k true).names.map ao)=Tr.lst 1 (((nm0.map ao).take n).drop (k)):=(by simp[gpV,A9,y8]);have Qh:Tr.lst 1 ((gpV n k true).ars.map aa)=Tr.lst 1 (((ar0.map aa).take n).drop (k)):=(by simp[gpV,A9,y8]);have NV:[]++List.take (arN k) (arg0.map ao)++([[105],[122]]:List (List UInt8)).map ao=(gpV n k true).vars.map ao:=(by simp[gpV,y8]);have QG:Tr.int .i64 ((1+t.1:Nat):Int)=Tr.int .i64 (IntKind.i64.wrap (1+(t.1:Int))):=(by rw[c6 _ o_];simp);have PU:Tr.int .i64 ((1+u.1:Nat):Int)=Tr.int .i64 (IntKind.i64.wrap (1+(u.1:Int))):=(by rw[c6 _ o_];simp);repeat' ((conv=>whnf);first|apply Wx|apply W6|apply oi|apply fi|intro h|refine⟨k,(aa (arN k)),rfl,ab Tc,?_⟩|refine⟨0,arN k,rfl,rfl,w6 _,OG,?_⟩|refine⟨k+1,n,Nl,rfl,o_,by(rw[N2];omega),?_⟩|refine⟨k+1,n,Nl,rfl,o_,by(rw[QU];omega),?_⟩|refine⟨k,(ao (nmN k)),rfl,ab N5,?_⟩|exact Y5|refine e_ rfl ?_)
    all_goals try exact⟨OG⟩
    all_goals try exact Q1
    all_goals try exact⟨MN⟩
    refine cg (g7) ?_;repeat' ((conv=>whnf);first|apply Wx|apply W6|apply oi|apply fi|intro h|refine⟨k,(ao (nmN k)),rfl,ab N5,?_⟩|refine⟨k,n,rfl,rfl,o_,by(rw[N2];omega),?_⟩|refine⟨k,n,rfl,rfl,o_,by(rw[QU];omega),?_⟩|exact Y5|refine e_ rfl ?_)
    all_goals try exact⟨OG⟩
    all_goals try exact Q1
    all_goals try exact⟨MN⟩
    refine cg (g4) ?_;repeat' ((conv=>whnf);first|apply Wx|apply W6|apply oi|apply fi|intro h|exact Y7|refine e_ rfl ?_)
    refine cg (g5) ?_;repeat' ((conv=>whnf);first|apply Wx|apply W6|apply oi|apply fi|intro h|exact Y7|refine e_ rfl ?_)
    refine cg (g6) ?_;repeat' ((conv=>whnf);first|apply Wx|apply W6|apply oi|apply fi|intro h|exact Y7|refine e_ rfl ?_)
    all_goals try exact⟨Ne⟩
    all_goals try exact⟨Qh⟩
    all_goals try exact⟨QG⟩
    all_goals try exact⟨PU⟩
    all_goals try exact⟨NV⟩
    all_goals try exact Q1
    refine cg (g3) ?_;repeat' ((conv=>whnf);first|apply Wx|apply W6|apply oi|apply fi|intro h|exact Y7|refine e_ rfl ?_)
    all_goals try exact Q14
    all_goals try exact Q1
    conv=>whnf
    refine⟨⟨(k+1,_,_),g_,s3,Mw,NO,M8⟩,?_,KD⟩;repeat' ((conv=>whnf);first|apply Wx|apply W6|apply oi|apply fi|intro h|exact Y8|refine e_ rfl ?_)
    all_goals try exact Q20
   | false=>
    rw[ho]at hF g7;have hG:=zv (n:=n) (k:=k) false;obtain⟨k4,b4,o4,g4⟩:=bR o7 4
    generalize bX 4 o.2=t at *
    obtain⟨k5,b5,o5,g5⟩:=bR o4 2
    generalize bX 2 t.2=u at *
    have Ud:=k4 o_;have XD:=k5 o_;have g6:=yz hG (1+u.1) (1+t.1) u.2 o_ o_ o5;have hB:=nT hG (1+u.1);have hl:=hB.len (1+t.1) _ o5;have hk:=hB.ok (1+t.1) _ o5;have hx:=CM (hB.bl (1+t.1) _ o5)
    have hs:sB (1+u.1)<=21:=by exact V115
    have Oa:=A4 (show 1+t.1<=4 by omega) hs
    generalize sM (gpV n k false) (1+u.1) (1+t.1) u.2=B at *
    obtain⟨t3,b3,o3,g3⟩:=eA hG hk 3 o_
    generalize exV (gpV n k false) 3 B.2=e at *
    subst hF;have Ne:Tr.lst 1 ((gpV n k false).names.map ao)=Tr.lst 1 (((nm0.map ao).take n).drop (k+1)):=(by simp[gpV,A9,y8]);have Qh:Tr.lst 1 ((gpV n k false).ars.map aa)=Tr.lst 1 (((ar0.map aa).take n).drop (k+1)):=(by simp[gpV,A9,y8]);have NV:[]++List.take (arN k) (arg0.map ao)++([[105],[122]]:List (List UInt8)).map ao=(gpV n k false).vars.map ao:=(by simp[gpV,y8]);have QG:Tr.int .i64 ((1+t.1:Nat):Int)=Tr.int .i64 (IntKind.i64.wrap (1+(t.1:Int))):=(by rw[c6 _ o_];simp);have PU:Tr.int .i64 ((1+u.1:Nat):Int)=Tr.int .i64 (IntKind.i64.wrap (1+(u.1:Int))):=(by rw[c6 _ o_];simp);repeat' ((conv=>whnf);first|apply Wx|apply W6|apply oi|apply fi|intro h|refine⟨k,(aa (arN k)),rfl,ab Tc,?_⟩|refine⟨0,arN k,rfl,rfl,w6 _,OG,?_⟩|refine⟨k+1,n,Nl,rfl,o_,by(rw[N2];omega),?_⟩|refine⟨k+1,n,Nl,rfl,o_,by(rw[QU];omega),?_⟩|refine⟨k,(ao (nmN k)),rfl,ab N5,?_⟩|exact Y5|refine e_ rfl ?_)
    all_goals try exact⟨OG⟩
    all_goals try exact Q1
    all_goals try exact⟨MN⟩
    refine cg (g7) ?_;repeat' ((conv=>whnf);first|apply Wx|apply W6|apply oi|apply fi|intro h|refine⟨k,(ao (nmN k)),rfl,ab N5,?_⟩|exact Y5|refine e_ rfl ?_)
    all_goals try exact⟨OG⟩
    all_goals try exact Q1
    all_goals try exact⟨MN⟩
    refine cg (g4) ?_;repeat' ((conv=>whnf);first|apply Wx|apply W6|apply oi|apply fi|intro h|exact Y7|refine e_ rfl ?_)
    refine cg (g5) ?_;repeat' ((conv=>whnf);first|apply Wx|apply W6|apply oi|apply fi|intro h|exact Y7|refine e_ rfl ?_)
    refine cg (g6) ?_;repeat' ((conv=>whnf);first|apply Wx|apply W6|apply oi|apply fi|intro h|exact Y7|refine e_ rfl ?_)
    all_goals try exact⟨Ne⟩
    all_goals try exact⟨Qh⟩
    all_goals try exact⟨QG⟩
    all_goals try exact⟨PU⟩
    all_goals try exact⟨NV⟩
    all_goals try exact Q1
    refine cg (g3) ?_;repeat' ((conv=>whnf);first|apply Wx|apply W6|apply oi|apply fi|intro h|exact Y7|refine e_ rfl ?_)
    all_goals try exact Q14
    all_goals try exact Q1
    conv=>whnf
    refine⟨⟨(k+1,_,_),g_,s3,Mw,NO,M8⟩,?_,KD⟩;repeat' ((conv=>whnf);first|apply Wx|apply W6|apply oi|apply fi|intro h|exact Y8|refine e_ rfl ?_)
    all_goals try exact Q20
 ·have OL:k=n:=o_;subst OL;rw[w9]at NO M8;simp only[jB,m6]at NO M8;subst NO;subst M8;dsimp only at WI;refine nN ⟨[(0,gz),(5,tI .i64 (k:Int)),(6,.r (.c (.t (.lst 4 ((acc.map drP).map fun x=>x.map DC.tr))))),(7,tI .i64 (k:Int))],[((0,0,0),some (.box [.t (.lst 1 (ci.b.map aY)),.t (.int .i64 ci.i),.t (.int .i64 ci.h)]))],[15,0]⟩ ?_ ?_ rfl ?_
  ·refine⟨.inl rfl,.inl rfl,.inr ⟨_,_,rfl,rfl,rfl,?_⟩,.inl rfl,trivial⟩;intro q hq;simp only[AC.ids,d6,l4,or_false]at hq;subst hq;rfl
  ·exact⟨.inr rfl,trivial⟩
  refine sK 6 rfl (Eg WI) ?_;exact Z7
theorem vR {l:List LP}(h:∀x∈l,PL x)(hl:l.length<=800):aw 1048576 (.lst 4 (l.map LP.tr)):=by
 refine fT o_ fun x hx=>?_;have hp:=h x hx
 have h1:aw 1048576 (.lst 1 (x.L5.map ao)):=fT (by have:=hp.args.1;omega) fun s hs=>by
  have:=hp.args.2 s hs;simp only[ao,aF,aw];exact⟨o_,trivial⟩
 have h2:aw 1048576 (.lst 3 (x.K9.map LZ.tr)):=fT (by have:=hp.len;omega) fun t ht=>by
  have:=hp.tok t ht;simp only[LZ.tr,aF,aw];exact⟨trivial,trivial,o_,trivial⟩
 have h3:=hp.name;exact⟨trivial,by simp only[aw];omega,h1,h2,trivial⟩
def fbP:List LP:=[⟨0,[109,97,105,110],[],[]⟩,⟨2,[],[],[⟨0,1,[]⟩]⟩,⟨6,[],[],[⟨0,1,[]⟩]⟩,⟨7,[],[],[]⟩]
theorem KA:ah fbP=true:=by decide
theorem Ko:∀x∈fbP,PL x:=by intro x hx;simp only[fbP,d6,l4,or_false]at hx;rcases hx with rfl|rfl|rfl|rfl;all_goals exact⟨s_,s_,s_,s_,s_,s_⟩
noncomputable def jr:Nat->LH->List LP×LH
 | 0,c=>(fbP,c)
 | r+1,c=>if ah (kT c).1=true then kT c else jr r (kT c).2
theorem AX:∀(r:Nat) (c:LH),c.ok->ah (jr r c).1=true/\(jr r c).1.length<=800/\(jr r c).2.b=c.b/\(jr r c).2.ok/\∀x∈(jr r c).1,PL x
 | 0,c,hc=>⟨KA,by simp[jr,fbP],rfl,hc,Ko⟩
 | r+1,c,hc=>by
  obtain⟨h1,h2,h3,h4⟩:=Ec hc;rw[jr];split
  ·rename_i h;exact⟨h,h1,h2,h3,h4⟩
  ·obtain⟨i1,i2,i3,i4,i5⟩:=AX r _ h3;exact⟨i1,i2,i3.trans h2,i4,i5⟩
theorem Lh:emR [[.int .i64 0,.str [109,97,105,110],.lst 0 [],.lst 0 []],[.int .i64 2,.str [],.lst 0 [],.lst 3 [[.int .i64 0,.int .i64 1,.str []]]],[.int .i64 6,.str [],.lst 0 [],.lst 3 [[.int .i64 0,.int .i64 1,.str []]]],[.int .i64 7,.str [],.lst 0 [],.lst 0 []]] (fbP.map LP.tr):=by
 refine⟨⟨rfl,fun p c d hc hd=>?_⟩,⟨rfl,fun p c d hc hd=>?_⟩,⟨rfl,fun p c d hc hd=>?_⟩,⟨rfl,fun p c d hc hd=>?_⟩,trivial⟩
 all_goals(
  match p with
  | 0=>simp[LP.tr]at hc hd;subst hc;subst hd;exact .inl rfl
  | 1=>simp[LP.tr]at hc hd;subst hc;subst hd;exact .inl rfl
  | 2=>simp[LP.tr]at hc hd;subst hc;subst hd;exact .inr ⟨_,_,rfl,rfl⟩
  | 3=>simp[LP.tr,LZ.tr]at hc hd;subst hc;subst hd;first|exact .inl rfl|exact .inr ⟨_,_,rfl,rfl⟩
  | p+4=>simp at hc)
theorem V87{p:Prop}(h:p:=by
 refine⟨.inr ⟨_,_,rfl,rfl,rfl,?_⟩,trivial⟩
 intro q hq;simp only[AC.ids,d6,l4,or_false]at hq;subst hq;rfl):p:=h
theorem qH (c:LH)(hc:c.ok):bA prog 94 [gz] (fk c) (.r (.c (.t (.lst 4 ((jr 5 c).1.map LP.tr))))) (fk (jr 5 c).2):=by
 refine aA hΓ aG func94 rfl d_ rfl rfl ?_
 generalize hR:jr 5 c=R at *
 repeat' ((conv=>whnf);first|apply Wx|apply W6|apply oi|apply fi|intro h|exact Y7|refine e_ rfl ?_)
 conv=>whnf
 refine⟨{q:Nat×LH//q.1<=5/\q.2.ok/\jr (5-q.1) q.2=R},fun q=>⟨[(0,gz),(3,tI .i64 (q.1.1:Int))],[((0,0,0),some (.box [.t (.lst 1 (q.1.2.b.map aY)),.t (.int .i64 q.1.2.i),.t (.int .i64 q.1.2.h)]))],[0]⟩,fun q=>5-q.1.1,⟨(0,c),g_,hc,hR⟩,?_,?_⟩
 ·exact Z2
 intro⟨⟨k,ci⟩,hi,Ok,hr⟩;dsimp only at hi Ok hr⊢;by_cases Mz:k<5
 ·obtain⟨m,hm⟩:∃m,5-k=m+1:=⟨5-k-1,o_⟩;rw[hm,jr]at hr;have gP:=pD ci Ok;obtain⟨h1,h2,h3,h4⟩:=Ec Ok;have hO:=dR (kT ci).1 (vR h4 h1)
  generalize kT ci=Q at *
  cases hq:ah Q.1 with
  | true=>
   rw[c7 hq]at hr;subst hr;rw[hq]at hO;repeat' ((conv=>whnf);first|apply Wx|apply W6|apply oi|apply fi|intro h|exact Y7|refine e_ rfl ?_)
   refine cg (gP) ?_
   repeat' ((conv=>whnf);first|apply Wx|apply W6|apply oi|apply fi|intro h|refine cl hO ?_|exact Y5|refine e_ rfl ?_)
  | false=>
   rw[b8 (by simp[hq])]at hr;rw[hq]at hO;repeat' ((conv=>whnf);first|apply Wx|apply W6|apply oi|apply fi|intro h|exact Y7|refine e_ rfl ?_)
   refine cg (gP) ?_;repeat' ((conv=>whnf);first|apply Wx|apply W6|apply oi|apply fi|intro h|refine cl hO ?_|exact Y5|refine e_ rfl ?_)
   conv=>whnf
   refine⟨⟨(k+1,Q.2),g_,h3,by dsimp only;rw[show 5-(k+1)=m by omega];exact hr⟩,?_,KD⟩;exact Z6
 ·have hk:k=5:=o_;subst hk;rw[show(5:Nat)-5=0 from rfl,jr]at hr;subst hr;repeat' ((conv=>whnf);first|(with_reducible apply W1;fail_if_success (with_reducible show Wo _ _ _ _ (Code.region 8 _ _) _ _))|(with_reducible first|apply W2|apply W3|apply W4|apply W5|apply W6|apply W7|apply W8|apply W9)|apply aB|apply oi|apply fi|intro h|exact Y5|refine e_ rfl ?_)
  conv=>whnf
  refine nN ⟨[(5,.r (.c (.t (.lst 3 [[.int .i64 0,.int .i64 1,.str []]]))))],[((0,0,0),some (.box [.t (.lst 1 (ci.b.map aY)),.t (.int .i64 ci.i),.t (.int .i64 ci.h)]))],[16,0]⟩ ?_ ?_ rfl ?_
  ·exact V87
  ·exact⟨.inr rfl,trivial⟩
  repeat' ((conv=>whnf);first|(with_reducible first|apply W1|apply W2)|apply aB|refine oi ?_ ?_|exact Y7|refine e_ rfl ?_)
  conv=>whnf
  refine nN ⟨[(2,.r (.c (.t (.lst 4 [[.int .i64 0,.str [109,97,105,110],.lst 0 [],.lst 0 []],[.int .i64 2,.str [],.lst 0 [],.lst 3 [[.int .i64 0,.int .i64 1,.str []]]],[.int .i64 6,.str [],.lst 0 [],.lst 3 [[.int .i64 0,.int .i64 1,.str []]]],[.int .i64 7,.str [],.lst 0 [],.lst 0 []]]))))],[((0,0,0),some (.box [.t (.lst 1 (ci.b.map aY)),.t (.int .i64 ci.i),.t (.int .i64 ci.h)]))],[23,16,0]⟩ ?_ ?_ rfl ?_
  ·exact V87
  ·exact⟨.inr rfl,trivial⟩
  refine sK 2 rfl Lh ?_;exact Z2
abbrev Lx (code:List UInt8):AV:= .r (.c (.t (.lst 1 (code.map aY))))
theorem Jz {code:List UInt8}(hl:code.length<=1048576):(⟨code,0,GV code⟩:LH).ok:=⟨s_,hl⟩
theorem Fg {rows:List (List Tr)}(h:∀r∈rows,∃n,r=[.int .u8 n]/\(Lit.int .u8 n).wf=true):∃bs:List UInt8,rows=bs.map aY:=by
 obtain⟨bs,hb,_⟩:=AA (g:=aY) (Q:=fun _=>True) (rows:=rows) fun r hr=>by
  obtain⟨n,rfl,hw⟩:=h r hr;have h1:IntKind.u8.min<=n/\n<=IntKind.u8.max:=by simpa [Lit.wf]using hw
  have h2:0<=n/\n<=255:=h1;refine⟨UInt8.ofNat n.toNat,?_,trivial⟩;rw[aY,show(UInt8.ofNat n.toNat).toNat=n.toNat by simp;omega,E5 h2.1]
 exact⟨bs,hb⟩
end Go.Proofs.P
