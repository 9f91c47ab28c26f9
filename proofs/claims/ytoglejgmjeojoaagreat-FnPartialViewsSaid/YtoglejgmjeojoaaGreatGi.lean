import Derived.Test.YtoglejgmjeojoaaGreatGh
set_option maxRecDepth 100000
set_option maxHeartbeats 4000000
namespace Go.Proofs.P
open Go.Sim Tryz
abbrev HS (x:Int×Int):Res:= .tup [.c (.t (.int .i64 x.1)),.c (.t (.int .i64 x.2))]
theorem V43{p:Prop}(h:p:=by
 have:k=0\/k=1:=o_;rcases this with rfl|rfl
 ·exact⟨i0,b0,rfl,rfl,Pu,Up,fun h=>by rw[<-hR,cM,c7 h];rfl,fun h=>⟨fun _=>h,fun h2=>o_⟩⟩
 ·exact⟨i1,b1,rfl,rfl,NP,RF,fun h=>by rw[<-hR,cM,b8 (hk1 o_),c7 h];rfl,fun h=>⟨fun _=>hk1 o_,fun _=>h⟩⟩):p:=h
theorem V110{p:Prop}(h:p:=by
 have PN:k=2:=o_;subst PN;have P8:R=(-1,-1):=by rw[<-hR,cM,b8 (hk1 o_),b8 (Ni o_)]
 subst P8
 exact Z1):p:=h
theorem oE (i0 i1:Mn)(b0 b1 e:Int)(es:List Int)(Pu:0<=b0/\b0<=1000000)(NP:0<=b1/\b1<=1000000)(Up:i0.J3.length<=1048576)(RF:i1.J3.length<=1048576):Sim.Spec prog 137 [.agg (Mx.mk [i0,i1] [b0,b1] es).tr,tvI e] (HS (cM i0 i1 b0 b1 e)):=by
 refine ag hΓ aE func137 rfl d_ rfl ?_;generalize hR:cM i0 i1 b0 b1 e=R;repeat' ((conv=>whnf);first|refine Or.inl ?_|apply oi|apply fi|intro h|exact Y1|refine e_ rfl ?_)
 conv=>whnf
 refine⟨{k:Nat//k<=2/\(1<=k->¬(b0<=e/\e<b0+i0.J3.length))/\(2<=k->¬(b1<=e/\e<b1+i1.J3.length))},fun k=>⟨[(1,tI .i64 e),(2,.r (.c (.ptr (2,0,0) 0))),(9,.r (.c (.t (.lst 2 [i0.tr,i1.tr])))),(10,tI .i64 2),(11,tI .i64 (k.1:Int))],[((2,0,0),some (.box (th i0 i1 b0 b1 es)))],[2]⟩,fun k=>2-k.1,⟨0,o_,o_,o_⟩,?_,?_⟩
 ·exact Z1
 intro⟨k,hk,hk1,Ni⟩;dsimp only;by_cases M3:k<2
 ·obtain⟨i,b,hi,hb,OL,OS,Pj,Nm⟩:∃(i:Mn) (b:Int),([i0.tr,i1.tr]:List (List Tr))[k]?=some i.tr/\([aa b0,aa b1]:List (List Tr))[k]?=some (aa b)/\(0<=b/\b<=1000000)/\i.J3.length<=1048576/\
    (b<=e/\e<b+i.J3.length->R=((k:Int),e-b))/\(¬(b<=e/\e<b+i.J3.length)->(1<=k+1->¬(b0<=e/\e<b0+i0.J3.length))/\(2<=k+1->¬(b1<=e/\e<b1+i1.J3.length))):=by
   exact V43
  by_cases hin:b<=e/\e<b+i.J3.length
  ·have P8:=Pj hin;have O2:IntKind.i64.wrap (e-b)=e-b:=c6 _ o_;have hB:=aW e b (b+i.J3.length-1);rw[within_iff.2 ⟨hin.1,o_⟩]at hB;subst P8;repeat' ((conv=>whnf);first|refine Or.inl ?_|apply oi|apply fi|intro h|refine⟨k,i.tr,rfl,hi,?_⟩|refine⟨k,aa b,rfl,hb,?_⟩|refine ci hB (ai rfl (ai rfl (ai KW trivial))) ?_|exact Y1|refine e_ rfl ?_)
   all_goals first
    |(exfalso;have h':=e8 h;omega)
    |(refine⟨congrArg (Tr.int _) ?_⟩;rw[O2])
  ·have hB:=aW e b (b+i.J3.length-1)
   have TS:af e b (b+i.J3.length-1)=false:=by cases hw:af e b (b+i.J3.length-1)with|false=>rfl|true=>have:=within_iff.1 hw;exact absurd ⟨this.1,o_⟩ hin
   rw[TS]at hB;repeat' ((conv=>whnf);first|refine Or.inl ?_|apply oi|apply fi|intro h|refine⟨k,i.tr,rfl,hi,?_⟩|refine⟨k,aa b,rfl,hb,?_⟩|refine ci hB (ai rfl (ai rfl (ai KW trivial))) ?_|exact Y1|refine e_ rfl ?_)
   all_goals try exact Q17
   all_goals conv=>whnf
   all_goals refine⟨⟨k+1,o_,Nm hin⟩,?_,KD⟩
   repeat' ((conv=>whnf);first|refine Or.inl ?_|apply oi|apply fi|intro h|exact Y1|refine e_ rfl ?_)
   all_goals exact Q4
 ·exact V110
theorem ij (i0 i1:Mn)(b0 b1 e:Int)(es:List Int)(Pu:0<=b0/\b0<=1000000)(NP:0<=b1/\b1<=1000000)(Up:i0.J3.length<=1048576)(RF:i1.J3.length<=1048576):Sim.Spec prog 135 [.agg (Mx.mk [i0,i1] [b0,b1] es).tr,tvI e] (HS (cM i0 i1 b0 b1 e)):=by
 refine ag hΓ aE func135 rfl d_ rfl ?_;have h2:([i0.tr,i1.tr]:List (List Tr)).length=2:=rfl;generalize hR:cM i0 i1 b0 b1 e=R;repeat' ((conv=>whnf);first|refine Or.inl ?_|apply oi|apply fi|intro h|exact Y1|refine e_ rfl ?_)
 conv=>whnf
 refine⟨{k:Nat//k<=2/\(1<=k->¬(b0<=e/\e<b0+i0.J3.length))/\(2<=k->¬(b1<=e/\e<b1+i1.J3.length))},fun k=>⟨[(1,tI .i64 e),(2,.r (.c (.ptr (2,0,0) 0))),(6,tI .i64 (k.1:Int))],[((2,0,0),some (.box (th i0 i1 b0 b1 es)))],[2]⟩,fun k=>2-k.1,⟨0,o_,o_,o_⟩,?_,?_⟩
 ·exact Z1
 intro⟨k,hk,hk1,Ni⟩;dsimp only;by_cases M3:k<2
 ·obtain⟨i,b,hi,hb,OL,OS,Pj,Nm⟩:∃(i:Mn) (b:Int),([i0.tr,i1.tr]:List (List Tr))[k]?=some i.tr/\([aa b0,aa b1]:List (List Tr))[k]?=some (aa b)/\(0<=b/\b<=1000000)/\i.J3.length<=1048576/\
    (b<=e/\e<b+i.J3.length->R=((k:Int),e-b))/\(¬(b<=e/\e<b+i.J3.length)->(1<=k+1->¬(b0<=e/\e<b0+i0.J3.length))/\(2<=k+1->¬(b1<=e/\e<b1+i1.J3.length))):=by
   exact V43
  by_cases hin:b<=e/\e<b+i.J3.length
  ·have P8:=Pj hin;have O2:IntKind.i64.wrap (e-b)=e-b:=c6 _ o_;have TD:IntKind.i64.wrap (b+(i.J3.length:Int))=b+i.J3.length:=c6 _ o_;subst P8;repeat' ((conv=>whnf);first|refine Or.inl ?_|apply oi|apply fi|intro h|refine⟨k,i.tr,rfl,hi,?_⟩|refine⟨k,aa b,rfl,hb,?_⟩|exact Y1|refine e_ rfl ?_)
   all_goals first
    |(exfalso;have h':=e8 h;(try rw[TD]at h');(try rw[h2]at h');omega)
    |(refine⟨congrArg (Tr.int _) ?_⟩;rw[O2])
  ·have TD:IntKind.i64.wrap (b+(i.J3.length:Int))=b+i.J3.length:=c6 _ o_;repeat' ((conv=>whnf);first|refine Or.inl ?_|apply oi|apply fi|intro h|refine⟨k,i.tr,rfl,hi,?_⟩|refine⟨k,aa b,rfl,hb,?_⟩|exact Y1|refine e_ rfl ?_)
   all_goals try(exfalso;first|(have h':=e8 h;rw[h2]at h';omega)|(rename_i a1;have c1:=d9 a1;have c2:=d9 h;rw[TD]at c2;exact hin ⟨c1,c2⟩))
   all_goals conv=>whnf
   all_goals refine⟨⟨k+1,o_,Nm hin⟩,?_,KD⟩
   repeat' ((conv=>whnf);first|refine Or.inl ?_|apply oi|apply fi|intro h|exact Y1|refine e_ rfl ?_)
   all_goals exact Q4
 ·exact V110
theorem mA {s:Mx}:(∃i0 i1 b0 b1,s=⟨[i0,i1],[b0,b1],s.MF⟩)\/(bF s=false/\¬(s.MT.length=2/\s.MV.length=2)):=by
 obtain⟨im,bs,es⟩:=s
 match im,bs with|[i0,i1],[b0,b1]=>exact .inl ⟨i0,i1,b0,b1,rfl⟩|[],_=>exact .inr ⟨rfl,s_⟩|[_],_=>exact .inr ⟨rfl,s_⟩|_::_::_::_,_=>exact .inr ⟨rfl,s_⟩|[_,_],[]=>exact .inr ⟨rfl,s_⟩|[_,_],[_]=>exact .inr ⟨rfl,s_⟩|[_,_],_::_::_::_=>exact .inr ⟨rfl,s_⟩
theorem vx (s:Mx)(hs:az 1048576 s.tr):Sim.Spec prog 89 [.agg s.tr] (rB (bF s)):=by
 rcases mA (s:=s)with⟨i0,i1,b0,b1,h⟩|⟨h,hn⟩
 ·rw[h]at hs⊢;exact ui i0 i1 b0 b1 s.MF hs
 ·rw[h];have l1:(s.MT.map Mn.tr).length=s.MT.length:=s_;have l2:(s.MV.map aa).length=s.MV.length:=s_;refine ag hΓ aE func89 rfl d_ rfl ?_;repeat' ((conv=>whnf);first|refine Or.inl ?_|apply oi|apply fi|intro h|refine ci (aW _ _ _) (ai rfl (ai rfl (ai rfl trivial))) ?_|exact Y1|refine e_ rfl ?_)
  all_goals(exfalso;apply hn;(simp_all)<;>(constructor<;>omega))
theorem Q9{p:Prop}(h:p:=by exfalso;first|(have h':=e8 h;rw[M0]at h';omega)|(have h':=d9 h;omega)|(simp only[bne,PA]at h;simp at h;first|done|fail)):p:=h
theorem uc (i0 i1:Mn)(b0 b1:Int)(es:List Int)(hs:az 1048576 (Mx.mk [i0,i1] [b0,b1] es).tr):Sim.Spec prog 65 [.agg (Mx.mk [i0,i1] [b0,b1] es).tr] (rB (eD i0 i1 b0 b1 es)):=by
 refine ag hΓ aE func65 rfl d_ rfl ?_;have M0:(es.map aa).length=es.length:=s_;have hE:=aJ es.length 1 6;unfold eD
 cases hw:af es.length 1 6 with
 | false=>exact V60
 | true=>
  rw[hw]at hE;repeat' ((conv=>whnf);first|refine Or.inl ?_|apply oi|apply fi|intro h|refine ci hE (ai KW (ai rfl (ai rfl trivial))) ?_|exact Y1|refine e_ rfl ?_)
  all_goals try exact Q5
  have NY:=hs;simp only[Mx.tr,az]at NY;have Uj:=NY.1;have SE:az 1048576 i0.tr:=aZ Uj s_;have Qa:az 1048576 i1.tr:=aZ Uj s_;have Po:i0.J3.length<=1048576:=by have:=SE;simp only[Mn.tr,az,ao]at this;omega
  have OD:i1.J3.length<=1048576:=by have:=Qa;simp only[Mn.tr,az,ao]at this;omega
  have S4:i0.ME.length<=1048576:=by have:=SE;simp only[Mn.tr,az]at this;exact bi this.2.1
  have S7:i1.ME.length<=1048576:=by have:=Qa;simp only[Mn.tr,az]at this;exact bi this.2.1
  have NC:es.length<=1048576:=bi NY.2.2.1;rw[n7];generalize hR:(bu i0&&(af b0 1 1000000&&(bu i1&&(af b1 1 1000000&&(!(cX i0 i1 b0 b1)&&es.all fun e=>bC i0 b0 e||bC i1 b1 e)))))=R;conv=>whnf
  refine⟨{k:Nat//k<=2/\(1<=k->bu i0=true/\af b0 1 1000000=true)/\(2<=k->bu i1=true/\af b1 1 1000000=true)},fun k=>⟨[(1,.r (.c (.ptr (1,0,0) 0))),(3,tI .i64 (k.1:Int))],[((1,0,0),some (.box (th i0 i1 b0 b1 es)))],[1]⟩,fun k=>2-k.1,⟨0,o_,o_,o_⟩,?_,?_⟩
  ·exact Z1
  intro⟨k,hk,hk1,Ni⟩;dsimp only;by_cases M3:k<2
  ·obtain⟨i,b,hi,hb,XA,Rq,Qf,Pj⟩:∃(i:Mn) (b:Int),([i0.tr,i1.tr]:List (List Tr))[k]?=some i.tr/\([aa b0,aa b1]:List (List Tr))[k]?=some (aa b)/\az 1048576 i.tr/\
     (bu i=false->R=false)/\(af b 1 1000000=false->R=false)/\(bu i=true->af b 1 1000000=true->(1<=k+1->bu i0=true/\af b0 1 1000000=true)/\(2<=k+1->bu i1=true/\af b1 1 1000000=true)):=by
    exact V36
   have hI:=xf i XA;have hB:=aJ b 1 1000000;exact V6
  ·have PN:k=2:=o_;subst PN;obtain⟨g0,w0⟩:=hk1 o_;obtain⟨g1,w1⟩:=Ni o_;have v0:=within_iff.1 w0;have v1:=within_iff.1 w1;rw[g0,g1,w0,w1,n7,n7,n7,n7]at hR;have x0:IntKind.i64.wrap (b1+(i1.J3.length:Int))=b1+i1.J3.length:=c6 _ o_;have x1:IntKind.i64.wrap (b0+(i0.J3.length:Int))=b0+i0.J3.length:=c6 _ o_
   cases ho:cX i0 i1 b0 b1 with
   | true=>exact V20
   | false=>
    rw[ho,F5,n7]at hR
    have Nm:¬(0<i0.J3.length/\0<i1.J3.length/\b0<b1+i1.J3.length/\b1<b0+i0.J3.length):=by exact V117
    have m0:=er (imageOk_iff.1 g0).2 o_;have m1:=er (imageOk_iff.1 g1).2 o_;have l0:=(imageOk_iff.1 g0).1;have l1:=(imageOk_iff.1 g1).1;repeat' ((conv=>whnf);first|refine Or.inl ?_|apply oi|apply fi|intro h|refine⟨0,_,rfl,rfl,?_⟩|refine⟨1,_,rfl,rfl,?_⟩|exact Y1|refine e_ rfl ?_)
    all_goals try(
     exfalso;rename_i a1 a2 a3;have c1:=d9 a1;have c2:=d9 a2;have c3:=d9 a3;have c4:=d9 h;rw[x0]at c3;rw[x1]at c4
     exact Nm ⟨o_,o_,c3,c4⟩)
    all_goals(
     conv=>whnf
     refine⟨{j:Nat//j<=es.length/\((es.drop j).all fun e=>bC i0 b0 e||bC i1 b1 e)=R},fun j=>⟨[(1,.r (.c (.ptr (1,0,0) 0))),(6,tI .i64 (j.1:Int))],[((1,0,0),some (.box (th i0 i1 b0 b1 es)))],[1]⟩,fun j=>es.length-j.1,⟨0,o_,hR⟩,?_,?_⟩
     ·exact Z1
     intro⟨j,hj,hr⟩;dsimp only;by_cases Ol:j<es.length
     ·obtain⟨e,he⟩:=ae Ol;have OM:=ij i0 i1 b0 b1 e es o_ o_ Po OD;rw[cJ he,E9,<-Dh g0 g1 ho,Eg]at hr;by_cases c0:b0<=e/\e<b0+i0.J3.length
      ·have OQ:cM i0 i1 b0 b1 e=(0,e-b0):=(by rw[cM,c7 c0]);rw[OQ]at OM hr;rw[c7 rfl]at hr;have hS:=lX i0 (e-b0) S4;have QG:=na i0.ME (e-b0);dsimp only at hr;rw[nP]at hr
       generalize eR i0.ME (e-b0)=K at *
       rcases QG with rfl|⟨q0,q1⟩
       ·rw[show decide ((0:Int)<=-1)=false from rfl,t6,t6]at hr;subst hr;repeat' ((conv=>whnf);first|refine Or.inl ?_|apply oi|apply fi|intro h|refine⟨j,aa e,rfl,ab he,?_⟩|refine ci OM (ai (ai rfl (ai rfl (ai rfl trivial))) (ai rfl trivial)) ?_|refine⟨0,i0.tr,rfl,rfl,?_⟩|refine ci hS (ai (ai rfl (ai rfl trivial)) (ai rfl trivial)) ?_|exact Y1|refine e_ rfl ?_)
        all_goals(exfalso;first|(have h':=e8 h;rw[M0]at h';omega)|(simp at h;done)|(have h':=d9 h;omega))
       ·obtain⟨n,rfl⟩:=gt q0;obtain⟨x,hx⟩:=ae (l:=i0.ME) (k:=n) o_;rw[d6,hx,q7 q0,n7]at hr;dsimp only at hr
        cases PA:(x.L8==e-b0)with
        | false=>
         rw[PA,t6]at hr;subst hr;repeat' ((conv=>whnf);first|refine Or.inl ?_|apply oi|apply fi|intro h|refine⟨j,aa e,rfl,ab he,?_⟩|refine ci OM (ai (ai rfl (ai rfl (ai rfl trivial))) (ai rfl trivial)) ?_|refine⟨0,i0.tr,rfl,rfl,?_⟩|refine ci hS (ai (ai rfl (ai rfl trivial)) (ai rfl trivial)) ?_|refine⟨n,x.tr,rfl,ab hx,?_⟩|exact Y1|refine e_ rfl ?_)
         all_goals(exfalso;first|(have h':=e8 h;rw[M0]at h';omega)|(have h':=d9 h;omega)|(simp only[bne,PA]at h;simp at h;done))
        | true=>
         rw[PA,n7]at hr;repeat' ((conv=>whnf);first|refine Or.inl ?_|apply oi|apply fi|intro h|refine⟨j,aa e,rfl,ab he,?_⟩|refine ci OM (ai (ai rfl (ai rfl (ai rfl trivial))) (ai rfl trivial)) ?_|refine⟨0,i0.tr,rfl,rfl,?_⟩|refine ci hS (ai (ai rfl (ai rfl trivial)) (ai rfl trivial)) ?_|refine⟨n,x.tr,rfl,ab hx,?_⟩|exact Y1|refine e_ rfl ?_)
         all_goals try exact Q9
         conv=>whnf
         refine⟨⟨j+1,o_,hr⟩,?_,KD⟩;repeat' ((conv=>whnf);first|refine Or.inl ?_|apply oi|apply fi|intro h|exact Y1|refine e_ rfl ?_)
         all_goals exact Q4
      ·by_cases c1:b1<=e/\e<b1+i1.J3.length
       ·have OQ:cM i0 i1 b0 b1 e=(1,e-b1):=(by rw[cM,b8 c0,c7 c1]);rw[OQ]at OM hr;rw[b8 s_,c7 rfl]at hr;have hS:=lX i1 (e-b1) S7;have QG:=na i1.ME (e-b1);dsimp only at hr;rw[nP]at hr
        generalize eR i1.ME (e-b1)=K at *
        rcases QG with rfl|⟨q0,q1⟩
        ·rw[show decide ((0:Int)<=-1)=false from rfl,t6,t6]at hr;subst hr;repeat' ((conv=>whnf);first|refine Or.inl ?_|apply oi|apply fi|intro h|refine⟨j,aa e,rfl,ab he,?_⟩|refine ci OM (ai (ai rfl (ai rfl (ai rfl trivial))) (ai rfl trivial)) ?_|refine⟨1,i1.tr,rfl,rfl,?_⟩|refine ci hS (ai (ai rfl (ai rfl trivial)) (ai rfl trivial)) ?_|exact Y1|refine e_ rfl ?_)
         all_goals(exfalso;first|(have h':=e8 h;rw[M0]at h';omega)|(simp at h;done)|(have h':=d9 h;omega))
        ·obtain⟨n,rfl⟩:=gt q0;obtain⟨x,hx⟩:=ae (l:=i1.ME) (k:=n) o_;rw[d6,hx,q7 q0,n7]at hr;dsimp only at hr
         cases PA:(x.L8==e-b1)with
         | false=>
          rw[PA,t6]at hr;subst hr;repeat' ((conv=>whnf);first|refine Or.inl ?_|apply oi|apply fi|intro h|refine⟨j,aa e,rfl,ab he,?_⟩|refine ci OM (ai (ai rfl (ai rfl (ai rfl trivial))) (ai rfl trivial)) ?_|refine⟨1,i1.tr,rfl,rfl,?_⟩|refine ci hS (ai (ai rfl (ai rfl trivial)) (ai rfl trivial)) ?_|refine⟨n,x.tr,rfl,ab hx,?_⟩|exact Y1|refine e_ rfl ?_)
          all_goals(exfalso;first|(have h':=e8 h;rw[M0]at h';omega)|(have h':=d9 h;omega)|(simp only[bne,PA]at h;simp at h;done))
         | true=>
          rw[PA,n7]at hr;repeat' ((conv=>whnf);first|refine Or.inl ?_|apply oi|apply fi|intro h|refine⟨j,aa e,rfl,ab he,?_⟩|refine ci OM (ai (ai rfl (ai rfl (ai rfl trivial))) (ai rfl trivial)) ?_|refine⟨1,i1.tr,rfl,rfl,?_⟩|refine ci hS (ai (ai rfl (ai rfl trivial)) (ai rfl trivial)) ?_|refine⟨n,x.tr,rfl,ab hx,?_⟩|exact Y1|refine e_ rfl ?_)
          all_goals try exact Q9
          conv=>whnf
          refine⟨⟨j+1,o_,hr⟩,?_,KD⟩;repeat' ((conv=>whnf);first|refine Or.inl ?_|apply oi|apply fi|intro h|exact Y1|refine e_ rfl ?_)
          all_goals exact Q4
       ·have OQ:cM i0 i1 b0 b1 e=(-1,-1):=(by rw[cM,b8 c0,b8 c1]);rw[OQ]at OM hr;rw[b8 s_,b8 s_,t6]at hr;subst hr;repeat' ((conv=>whnf);first|refine Or.inl ?_|apply oi|apply fi|intro h|refine⟨j,aa e,rfl,ab he,?_⟩|refine ci OM (ai (ai rfl (ai rfl (ai rfl trivial))) (ai rfl trivial)) ?_|exact Y1|refine e_ rfl ?_)
        all_goals(exfalso;first|(have h':=e8 h;rw[M0]at h';omega)|(simp at h;done))
     ·have Nk:es.length<=j:=o_;rw[m9 Nk,List.all_nil]at hr;subst hr;repeat' ((conv=>whnf);first|refine Or.inl ?_|apply oi|apply fi|intro h|exact Y1|refine e_ rfl ?_)
      all_goals(exfalso;have h':=d9 h;rw[M0]at h';omega))
theorem gJ (s:Mx)(hs:az 1048576 s.tr):Sim.Spec prog 65 [.agg s.tr] (rB (bF s)):=by
 rcases mA (s:=s)with⟨i0,i1,b0,b1,h⟩|⟨h,hn⟩
 ·rw[h]at hs⊢;exact uc i0 i1 b0 b1 s.MF hs
 ·rw[h];have l1:(s.MT.map Mn.tr).length=s.MT.length:=s_;have l2:(s.MV.map aa).length=s.MV.length:=s_;refine ag hΓ aE func65 rfl d_ rfl ?_;repeat' ((conv=>whnf);first|refine Or.inl ?_|apply oi|apply fi|intro h|refine ci (aJ _ _ _) (ai rfl (ai rfl (ai rfl trivial))) ?_|exact Y1|refine e_ rfl ?_)
  all_goals(exfalso;apply hn;(simp_all)<;>(constructor<;>omega))
theorem iJ {s:Mx}(h:bF s=true):∃i0 i1 b0 b1,s=⟨[i0,i1],[b0,b1],s.MF⟩/\(1<=s.MF.length/\s.MF.length<=6)/\(bu i0=true/\1<=b0/\b0<=1000000)/\(bu i1=true/\1<=b1/\b1<=1000000)/\cX i0 i1 b0 b1=false/\∀e∈s.MF,(bC i0 b0 e||bC i1 b1 e)=true:=by
 rcases mA (s:=s)with⟨i0,i1,b0,b1,hs⟩|⟨h',_⟩
 ·refine⟨i0,i1,b0,b1,hs,?_⟩;rw[hs,bF]at h;dsimp only at h;rw[eD,b9,b9,b9,b9,b9,b9,within_iff,within_iff,within_iff,o8,v2]at h;obtain⟨h1,h2,h3,h4,h5,h6,h7⟩:=h;exact⟨o_,⟨h2,h3⟩,⟨h4,h5⟩,h6,h7⟩
 ·rw[h']at h;cases h
def LK:Mr:=⟨0,0,0,[],[],0,0⟩
def zJ (s:Mx):Mr:=if bF s then⟨s.MF.headD 0,1199,1200,List.replicate 1200 0,[],0,0⟩else LK
theorem pT (s:Mx)(hs:az 1048576 s.tr):Sim.Spec prog 13 [.agg s.tr] (.tup [.agg ((zJ s).tr.map oS),.c (.t (.bool (bF s)))]):=by
 refine ag hΓ aE func13 rfl d_ rfl ?_;have hS:=gJ s hs;unfold zJ
 cases M5:bF s with
 | false=>
  rw[M5]at hS
  repeat' ((conv=>whnf);first|refine Or.inl ?_|apply oi|apply fi|intro h|refine ci hS (ai (ai rfl (ai rfl (ai rfl trivial))) trivial) ?_|exact Y1|refine e_ rfl ?_)
 | true=>
  rw[M5]at hS;obtain⟨i0,i1,b0,b1,_,⟨hl,_⟩,_⟩:=iJ M5
  match he:s.MF,hl with
  | e::es,_=>
   rw[c7 rfl];repeat' ((conv=>whnf);first|refine Or.inl ?_|apply oi|apply fi|intro h|refine ci hS (ai (ai rfl (ai rfl (ai rfl trivial))) trivial) ?_|refine⟨0,aa e,rfl,(by rw[he];rfl),?_⟩|exact Y1|refine e_ rfl ?_)
   all_goals try exact Q5
theorem mi {off:Int}:∀(l:List Mw) (k:Nat),bO off l k= -1\/((k:Int)<=bO off l k/\bO off l k<k+l.length)
 | [],k=> .inl (by rw[bO])
 | x::l,k=>by
  rw[bO];split
  ·exact .inr ⟨o_,by simp only[d5];omega⟩
  ·rcases mi l (k+1)with h|h
   ·exact .inl h
   ·exact .inr ⟨o_,by simp only[d5];omega⟩
theorem gv (l:List Mw)(off:Int):bJ l off= -1\/(gl l=true/\0<=bJ l off/\bJ l off<l.length):=by
 unfold bJ;split
 ·rename_i h;have:=mi (off:=off) l 0;rcases this with h'|h'
  ·exact .inl h'
  ·exact .inr ⟨h,o_,o_⟩
 ·exact .inl rfl
def qO (s:Mx)(a:Int):Int×Int:=match s.MT,s.MV with
 | [i0,i1],[b0,b1]=>cM i0 i1 b0 b1 a
 | _,_=>(-1,-1)
def cR (v:MA)(pc sp fp:Int):MA:=⟨pc,sp,fp,v.MB.drop (sp-v.J6).toNat⟩
def fq (v:MA)(r:Mw):Option MA:=
 if r.MP then(match bZ v v.L4,bZ v (v.L4+1)with
  | some f,some pc=>some (cR v pc (v.L4+2) f)
  | _,_=>none)
 else(match bZ v (v.J6+r.MG)with
  | some pc=>some (cR v pc (v.J6+r.MG+1) v.L4)
  | none=>none)
def dg (rules:List (List Mw))(x:Int×Int):Option Mw:=
 if x.1<0 then none else match rules[x.1.toNat]? with
  | some rl=>if bJ rl x.2<0 then none else rl[(bJ rl x.2).toNat]?
  | none=>none
def aQ (s:Mx)(rules:List (List Mw))(v:MA)(inner:Bool):Option MA:=
 if bF s=true/\cw v=true/\rules.length=2 then
  (
   match dg rules (qO s (if inner then v.L3 else v.L3-1))with
   | some r=>fq v r
   | none=>none)
 else none
theorem bG {v:MA}{a x:Int}(h:bZ v a=some x):cw v=true/\v.J6<=a/\a<v.J6+v.MB.length:=by
 unfold bZ at h;split at h
 ·rename_i hc;have:=within_iff.1 hc.2;exact⟨hc.1,this.1,o_⟩
 ·cases h
theorem jm (v:MA)(pc sp fp:Int)(n:Nat)(h:sp-v.J6=n)(hn:n<=v.MB.length)(hl:v.MB.length<=1048576):Sim.Spec prog 139 [.agg v.tr,tvI pc,tvI sp,tvI fp] (.r (.agg ((cR v pc sp fp).tr.map oS))):=by
 refine ag hΓ aE func139 rfl d_ rfl ?_;have M0:(v.MB.map aa).length=v.MB.length:=s_;have hw:IntKind.i64.wrap (sp-v.J6)=(n:Int):=by rw[c6 _ o_];exact h
 have Va:=mh (cR v pc sp fp) (by simp[cR];omega)
 have hd:(cR v pc sp fp).MB.map aa=((v.MB.map aa).take (v.MB.map aa).length).drop n:=by rw[D4,cR,h,d6,A1]
 repeat' ((conv=>whnf);first|refine aB ?_|apply au|apply oi|apply fi|intro h|exact Y1|refine e_ rfl ?_)
 conv=>whnf
 refine⟨n,(v.MB.map aa).length,?_,rfl,o_,d8 _,?_⟩
 ·show(if(((v.MB.map aa).length:Nat):Int)<IntKind.i64.wrap (sp-v.J6)then(((v.MB.map aa).length:Nat):Int)else IntKind.i64.wrap (sp-v.J6))=(n:Int);rw[hw,M0];split<;>omega
 repeat' ((conv=>whnf);first|refine aB ?_|apply au|apply oi|apply fi|intro h|exact Y1|refine e_ rfl ?_)
 refine Or.inl (pw Va (And.intro (And.intro rfl (And.intro rfl (And.intro rfl (And.intro (congrArg (Tr.lst 1) hd) trivial)))) trivial) ?_);exact Z1
theorem qS {i0 i1:Mn}{b0 b1 a:Int}(Pu:1<=b0/\b0<=1000000)(NP:1<=b1/\b1<=1000000)(Up:i0.J3.length<=1048576)(RF:i1.J3.length<=1048576)(h:a<=0\/3000000<=a):cM i0 i1 b0 b1 a=(-1,-1):=by rw[cM,b8 o_,b8 o_]
theorem jB (i0 i1:Mn)(b0 b1 a:Int):cM i0 i1 b0 b1 a=(-1,-1)\/∃(i:Nat) (off:Int),i<2/\cM i0 i1 b0 b1 a=((i:Int),off):=by
 unfold cM;split
 ·exact .inr ⟨0,_,o_,rfl⟩
 ·split
  ·exact .inr ⟨1,_,o_,rfl⟩
  ·exact .inl rfl
def oV (o:Option MA):MA:=match o with|some v=>v|none=>⟨0,0,0,[]⟩
theorem uw {α:Type}{l:List α}{i:Nat}(h:l.length=2)(hi:i<2):∃x,l[i]?=some x:=ae o_
theorem Ah {s:Mx}{rules:List (List Mw)}{v:MA}{inner:Bool}(h:¬(bF s=true/\cw v=true/\rules.length=2)):aQ s rules v inner=none:=by rw[aQ,b8 h]
theorem V25{p:Prop}(h:p:=by
 rw[Og];repeat' ((conv=>whnf);first|refine Or.inl ?_|apply oi|apply fi|intro h|refine ci hS (ai (ai rfl (ai rfl (ai rfl trivial))) trivial) ?_|refine ci hV (ai (ai rfl (ai rfl (ai rfl (ai rfl trivial)))) trivial) ?_|refine ci hL (ai (ai rfl (ai rfl (ai rfl trivial))) (ai rfl trivial)) ?_|exact Y1|refine e_ rfl ?_)
 all_goals(exfalso;first|(simp at h;done)|(rw[M0,c3]at h;simp at h;done))):p:=h
theorem Q7{p:Prop}(h:p:=by exfalso;first|(simp at h;done)|(rw[M0,c3]at h;simp at h;done)|(have h':=d9 h;omega)|(rw[NF]at h;simp at h;first|done|fail)):p:=h
theorem V2{p:Prop}(h:p:=by
 rw[TQ];have QG:=gv rl off
 generalize bJ rl off=K at *
 rcases QG with rfl|⟨M5,k0,k1⟩
 ·rw[c7 d_];repeat' ((conv=>whnf);first|refine Or.inl ?_|apply oi|apply fi|intro h|refine ci hS (ai (ai rfl (ai rfl (ai rfl trivial))) trivial) ?_|refine ci hV (ai (ai rfl (ai rfl (ai rfl (ai rfl trivial)))) trivial) ?_|refine ci hL (ai (ai rfl (ai rfl (ai rfl trivial))) (ai rfl trivial)) ?_|refine⟨i,(bc 4 Mw.tr rl),rfl,ab NH,?_⟩|refine ci hF (ai rfl (ai rfl trivial)) ?_|exact Y1|refine e_ rfl ?_)
  all_goals(exfalso;first|(simp at h;done)|(rw[M0,c3]at h;simp at h;done)|(have h':=d9 h;omega))
 ·obtain⟨k,rfl⟩:=gt k0;obtain⟨r,N1⟩:=ae (l:=rl) (k:=k) o_;rw[b8 o_,d6,N1];dsimp only;have Xy:=gG (u4 0) M5 r (c9 N1);unfold lg at Xy;unfold fq
  cases NF:r.MP with
  | false=>
   have w1:IntKind.i64.wrap (v.J6+r.MG)=v.J6+r.MG:=c6 _ o_;have hW:=dG v (v.J6+r.MG);rw[b8 s_]
   match hwo:bZ v (v.J6+r.MG)with
   | none=>
    rw[hwo]at hW;repeat' ((conv=>whnf);first|refine Or.inl ?_|apply oi|apply fi|intro h|refine ci hS (ai (ai rfl (ai rfl (ai rfl trivial))) trivial) ?_|refine ci hV (ai (ai rfl (ai rfl (ai rfl (ai rfl trivial)))) trivial) ?_|refine ci hL (ai (ai rfl (ai rfl (ai rfl trivial))) (ai rfl trivial)) ?_|refine⟨i,(bc 4 Mw.tr rl),rfl,ab NH,?_⟩|refine ci hF (ai rfl (ai rfl trivial)) ?_|refine⟨k,r.tr,rfl,ab N1,?_⟩|refine ci hW (ai (ai rfl (ai rfl (ai rfl (ai rfl trivial)))) (ai KW trivial)) ?_|exact Y1|refine e_ rfl ?_)
    all_goals try exact Q7
   | some pc=>
    rw[hwo]at hW;have hin:=bG hwo;obtain⟨n,hn⟩:=gt (show 0<=v.J6+r.MG+1-v.J6 by omega);have hM:=jm v pc (v.J6+r.MG+1) v.L4 n hn o_ SU;repeat' ((conv=>whnf);first|refine Or.inl ?_|apply oi|apply fi|intro h|refine ci hS (ai (ai rfl (ai rfl (ai rfl trivial))) trivial) ?_|refine ci hV (ai (ai rfl (ai rfl (ai rfl (ai rfl trivial)))) trivial) ?_|refine ci hL (ai (ai rfl (ai rfl (ai rfl trivial))) (ai rfl trivial)) ?_|refine⟨i,(bc 4 Mw.tr rl),rfl,ab NH,?_⟩|refine ci hF (ai rfl (ai rfl trivial)) ?_|refine⟨k,r.tr,rfl,ab N1,?_⟩|refine ci hW (ai (ai rfl (ai rfl (ai rfl (ai rfl trivial)))) (ai KW trivial)) ?_|refine ci hM (ai (ai rfl (ai rfl (ai rfl (ai rfl trivial)))) (ai rfl (ai KW (ai rfl trivial)))) ?_|exact Y1|refine e_ rfl ?_)
    all_goals try exact Q7
  | true=>
   rw[c7 rfl];have QI:=dG v v.L4;have Qt:=dG v (IntKind.i64.wrap (v.L4+1))
   match hwo:bZ v v.L4 with
   | none=>
    rw[hwo]at QI;generalize bZ v (IntKind.i64.wrap (v.L4+1))=Z at Qt;repeat' ((conv=>whnf);first|refine Or.inl ?_|apply oi|apply fi|intro h|refine ci hS (ai (ai rfl (ai rfl (ai rfl trivial))) trivial) ?_|refine ci hV (ai (ai rfl (ai rfl (ai rfl (ai rfl trivial)))) trivial) ?_|refine ci hL (ai (ai rfl (ai rfl (ai rfl trivial))) (ai rfl trivial)) ?_|refine⟨i,(bc 4 Mw.tr rl),rfl,ab NH,?_⟩|refine ci hF (ai rfl (ai rfl trivial)) ?_|refine⟨k,r.tr,rfl,ab N1,?_⟩|refine ci QI (ai (ai rfl (ai rfl (ai rfl (ai rfl trivial)))) (ai rfl trivial)) ?_|refine ci Qt (ai (ai rfl (ai rfl (ai rfl (ai rfl trivial)))) (ai rfl trivial)) ?_|exact Y1|refine e_ rfl ?_)
    all_goals try exact Q7
   | some f=>
    rw[hwo]at QI;have hin:=bG hwo;have w2:IntKind.i64.wrap (v.L4+1)=v.L4+1:=c6 _ o_;rw[w2]at Qt
    match hwo2:bZ v (v.L4+1)with
    | none=>
     rw[hwo2]at Qt;repeat' ((conv=>whnf);first|refine Or.inl ?_|apply oi|apply fi|intro h|refine ci hS (ai (ai rfl (ai rfl (ai rfl trivial))) trivial) ?_|refine ci hV (ai (ai rfl (ai rfl (ai rfl (ai rfl trivial)))) trivial) ?_|refine ci hL (ai (ai rfl (ai rfl (ai rfl trivial))) (ai rfl trivial)) ?_|refine⟨i,(bc 4 Mw.tr rl),rfl,ab NH,?_⟩|refine ci hF (ai rfl (ai rfl trivial)) ?_|refine⟨k,r.tr,rfl,ab N1,?_⟩|refine ci QI (ai (ai rfl (ai rfl (ai rfl (ai rfl trivial)))) (ai rfl trivial)) ?_|refine ci Qt (ai (ai rfl (ai rfl (ai rfl (ai rfl trivial)))) (ai KW trivial)) ?_|exact Y1|refine e_ rfl ?_)
     all_goals try exact Q7
    | some pc=>
     rw[hwo2]at Qt;have Qe:=bG hwo2;obtain⟨n,hn⟩:=gt (show 0<=v.L4+2-v.J6 by omega);have hM:=jm v pc (v.L4+2) f n hn o_ SU;repeat' ((conv=>whnf);first|refine Or.inl ?_|apply oi|apply fi|intro h|refine ci hS (ai (ai rfl (ai rfl (ai rfl trivial))) trivial) ?_|refine ci hV (ai (ai rfl (ai rfl (ai rfl (ai rfl trivial)))) trivial) ?_|refine ci hL (ai (ai rfl (ai rfl (ai rfl trivial))) (ai rfl trivial)) ?_|refine⟨i,(bc 4 Mw.tr rl),rfl,ab NH,?_⟩|refine ci hF (ai rfl (ai rfl trivial)) ?_|refine⟨k,r.tr,rfl,ab N1,?_⟩|refine ci QI (ai (ai rfl (ai rfl (ai rfl (ai rfl trivial)))) (ai rfl trivial)) ?_|refine ci Qt (ai (ai rfl (ai rfl (ai rfl (ai rfl trivial)))) (ai KW trivial)) ?_|refine ci hM (ai (ai rfl (ai rfl (ai rfl (ai rfl trivial)))) (ai rfl (ai KW (ai rfl trivial)))) ?_|exact Y1|refine e_ rfl ?_)
     all_goals try(exfalso;first|(simp at h;done)|(rw[M0,c3]at h;simp at h;done)|(have h':=d9 h;omega)|(rw[NF]at h;simp at h;done))):p:=h
theorem V37{p:Prop}(h:p:=by
 repeat' ((conv=>whnf);first|refine Or.inl ?_|apply oi|apply fi|intro h|refine ci hS (ai (ai rfl (ai rfl (ai rfl trivial))) trivial) ?_|refine ci hV (ai (ai rfl (ai rfl (ai rfl (ai rfl trivial)))) trivial) ?_|exact Y1|refine e_ rfl ?_)
 all_goals(exfalso;simp at h;done)):p:=h
theorem pV (s:Mx)(rules:List (List Mw))(v:MA)(inner:Bool)(Nt:inI v.L3)(hs:az 1048576 s.tr)(hr:ao 1048576 (.lst 1 (rules.map (bc 4 Mw.tr))))(hv:az 1048576 v.tr):Sim.Spec prog 66 [.agg s.tr,tvL 1 (rules.map (bc 4 Mw.tr)),.agg v.tr,tvB inner] (.tup [.agg ((oV (aQ s rules v inner)).tr.map oS),.c (.t (.bool (aQ s rules v inner).isSome))]):=by
 have hS:=vx s hs;have hV:=kA v;have N7:=bi hr;have M0:(rules.map (bc 4 Mw.tr)).length=rules.length:=s_;have SU:v.MB.length<=1048576:=by have:=hv;simp only[MA.tr,az]at this;exact bi this.2.2.2.1
 by_cases hc:bF s=true/\cw v=true/\rules.length=2
 ·obtain⟨c1,c2,c3⟩:=hc;rw[c1]at hS;rw[c2]at hV;obtain⟨i0,i1,b0,b1,OT,⟨e1,e2⟩,⟨g0,p0,p1⟩,⟨g1,q0,q1⟩,_,_⟩:=iJ c1;have l0:=(imageOk_iff.1 g0).1;have l1:=(imageOk_iff.1 g1).1;have WM:=viewOk_iff.1 c2
  have hu:aQ s rules v inner=(match dg rules (cM i0 i1 b0 b1 (if inner then v.L3 else v.L3-1))with|some r=>fq v r|none=>none):=by rw[aQ,c7 ⟨c1,c2,c3⟩,OT,qO]
  obtain⟨im,bs,es⟩:=s;dsimp only at OT;injection OT with h1 h2;subst h1;subst h2;rw[hu]
  cases inner with
  | true=>
   rw[c7 rfl];have hL:=oE i0 i1 b0 b1 v.L3 es o_ o_ o_ o_;refine ag hΓ aE func66 rfl d_ rfl ?_;rcases jB i0 i1 b0 b1 v.L3 with hx|⟨i,off,hi,hx⟩
   ·rw[hx]at hL;have Og:dg rules (cM i0 i1 b0 b1 v.L3)=none:=(by rw[hx,dg,c7 d_]);exact V25
   ·rw[hx]at hL;obtain⟨rl,NH⟩:=uw c3 hi;have O3:=aZ hr (c9 NH);simp only[bc,az]at O3;have hF:=mc rl off (bi O3.1)
    have TQ:dg rules (cM i0 i1 b0 b1 v.L3)=if bJ rl off<0 then none else rl[(bJ rl off).toNat]?:=by rw[hx,dg,b8 g_,d6,NH]
    exact V2
  | false=>
   rw[b8 s_]
   have NR:cM i0 i1 b0 b1 (IntKind.i64.wrap (v.L3-1))=cM i0 i1 b0 b1 (v.L3-1):=by
    obtain⟨d1,d2⟩:=Nt;rcases Int.lt_or_le (-9223372036854775808) v.L3 with hp|hp
    ·rw[c6 _ o_]
    ·have:v.L3= -9223372036854775808:=o_;rw[this,show IntKind.i64.wrap (-9223372036854775808-1)=9223372036854775807 by decide,qS (a:=9223372036854775807) ⟨p0,p1⟩ ⟨q0,q1⟩ o_ o_ (.inr o_),qS ⟨p0,p1⟩ ⟨q0,q1⟩ o_ o_ (.inl o_)]
   have hL:=oE i0 i1 b0 b1 (IntKind.i64.wrap (v.L3-1)) es o_ o_ o_ o_;rw[NR]at hL;refine ag hΓ aE func66 rfl d_ rfl ?_;rcases jB i0 i1 b0 b1 (v.L3-1)with hx|⟨i,off,hi,hx⟩
   ·rw[hx]at hL;have Og:dg rules (cM i0 i1 b0 b1 (v.L3-1))=none:=(by rw[hx,dg,c7 d_]);exact V25
   ·rw[hx]at hL;obtain⟨rl,NH⟩:=uw c3 hi;have O3:=aZ hr (c9 NH);simp only[bc,az]at O3;have hF:=mc rl off (bi O3.1)
    have TQ:dg rules (cM i0 i1 b0 b1 (v.L3-1))=if bJ rl off<0 then none else rl[(bJ rl off).toNat]?:=by rw[hx,dg,b8 g_,d6,NH]
    exact V2
 ·rw[Ah hc];refine ag hΓ aE func66 rfl d_ rfl ?_
  cases OI:bF s with
  | false=>
   rw[OI]at hS
   exact V37
  | true=>
   rw[OI]at hS
   cases Vj:cw v with
   | false=>
    rw[Vj]at hV
    exact V37
   | true=>
    rw[Vj]at hV
    have M9:(((rules.map (bc 4 Mw.tr)).length:Int) !=2)=true:=by rw[M0,bne_iff_ne];intro h2;exact hc ⟨OI,Vj,o_⟩
    repeat' ((conv=>whnf);first|refine Or.inl ?_|apply oi|apply fi|intro h|refine ci hS (ai (ai rfl (ai rfl (ai rfl trivial))) trivial) ?_|refine ci hV (ai (ai rfl (ai rfl (ai rfl (ai rfl trivial)))) trivial) ?_|exact Y1|refine e_ rfl ?_)
    all_goals(exfalso;first|(simp at h;done)|(rename_i a1;first|(rw[M9]at a1;cases a1)|(rw[M9]at h;cases h)))
def itH:Nat->Int->Int
 | 0,h=>h
 | n+1,h=>itH n (iM h)
theorem lE:∀(n m:Nat) (h:Int),itH (n+m) h=itH m (itH n h)
 | 0,m,h=>by rw[u6,itH]
 | n+1,m,h=>by rw[show n+1+m=(n+m)+1 by omega,itH,itH,lE n m]
abbrev mM:Int:=9007199254740992
def Aff (n:Nat)(a c:Nat):Prop:=∀h:Int,itH n h%mM=((a:Int)*h+c)%mM
theorem V125{p:Prop}(h:p:=by
 unfold IntKind.wrap;simp[IntKind.bits,IntKind.signed]
 split<;>omega):p:=h
theorem Cs (x:Int):IntKind.i64.wrap x%mM=x%mM:=by
 have h:IntKind.i64.wrap x%18446744073709551616=x%18446744073709551616:=by exact V125
 have h1:IntKind.i64.wrap x%18446744073709551616%mM=IntKind.i64.wrap x%mM:=E6 _ ⟨2048,rfl⟩;have h2:x%18446744073709551616%mM=x%mM:=E6 _ ⟨2048,rfl⟩;rw[<-h1,<-h2,h]
theorem Jr:Aff 1 6364136223846793005 1442695040888963407:=by intro h;show iM h%mM=_;unfold iM;rw[Cs,A8,Cs,<-A8,I8];rfl
theorem JR {n a c m b d:Nat}(h1:Aff n a c)(h2:Aff m b d):Aff (n+m) (a*b%9007199254740992) ((b*c+d)%9007199254740992):=by
 intro h;rw[lE,h2,A8,J0,h1,<-J0,<-A8];have e1:(((a*b%9007199254740992:Nat):Int))=((a:Int)*b)%mM:=by rw[Int.natCast_emod,Int.natCast_mul];rfl
 have e2:((((b*c+d)%9007199254740992:Nat):Int))=((b:Int)*c+d)%mM:=by rw[Int.natCast_emod,Int.natCast_add,Int.natCast_mul];rfl
 rw[e1,e2,A8 (((a:Int)*b)%mM*h),J0 (((a:Int)*b)%mM),E6 _ (Int.dvd_refl _),E6 _ (Int.dvd_refl _),<-J0,<-A8];congr 1;rw[Int.mul_add,<-Int.mul_assoc,I8 (b:Int) a,Int.add_assoc]
def CL:Nat->Nat->Nat->Nat×Nat
 | 0,a,c=>(a,c)
 | k+1,a,c=>CL k (a*a%9007199254740992) ((a*c+c)%9007199254740992)
theorem EL:∀(k n a c:Nat),Aff n a c->Aff (n*2^k) (CL k a c).1 (CL k a c).2
 | 0,n,a,c,h=>by rw[Nat.pow_zero,Nat.mul_one];exact h
 | k+1,n,a,c,h=>by
  rw[CL,show n*2^(k+1)=(n+n)*2^k by rw[G8,p8,<-Nat.mul_two,Nat.mul_assoc]];exact EL k (n+n) _ _ (JR h h)
theorem Mb:(CL 51 6364136223846793005 1442695040888963407).1=1/\(CL 51 6364136223846793005 1442695040888963407).2%2251799813685248=0/\(CL 51 6364136223846793005 1442695040888963407).2/2251799813685248%2=1:=by decide+kernel
def byW (h:Int):Int:=IntKind.i64.wrap ((BitVec.ofInt IntKind.i64.bits (IntKind.i64.wrap ((BitVec.ofInt IntKind.i64.bits (h.fdiv (2^min (Int.toNat 33) IntKind.i64.bits)) ^^^ BitVec.ofInt IntKind.i64.bits (h.fdiv (2^min (Int.toNat 45) IntKind.i64.bits))).toNat:Int)) &&& BitVec.ofInt IntKind.i64.bits 255).toNat:Int)
def byN (h:Int):Nat:=(h%mM/8589934592%256).toNat ^^^ (h%mM/35184372088832%256).toNat
theorem HJ (x:Int):(BitVec.ofInt 64 x &&& BitVec.ofInt 64 255).toNat=(x%256).toNat:=by have e:(BitVec.ofInt 64 255).toNat=2^8-1:=d_;rw[I5,e,D3,C3];omega
theorem KN (h:Int):byW h=(byN h:Int):=by
 have e33:h.fdiv (2^min (Int.toNat 33) IntKind.i64.bits)=h/8589934592:=by rw[show(2:Int)^min (Int.toNat 33) IntKind.i64.bits=8589934592 from rfl,E5 _ d_]
 have e45:h.fdiv (2^min (Int.toNat 45) IntKind.i64.bits)=h/35184372088832:=by rw[show(2:Int)^min (Int.toNat 45) IntKind.i64.bits=35184372088832 from rfl,E5 _ d_]
 unfold byW;rw[e33,e45];show IntKind.i64.wrap (((BitVec.ofInt 64 (IntKind.i64.wrap ((BitVec.ofInt 64 (h/8589934592) ^^^ BitVec.ofInt 64 (h/35184372088832)).toNat:Int)) &&& BitVec.ofInt 64 255).toNat:Nat):Int)=_;rw[HJ]
 have hw:∀x:Int,IntKind.i64.wrap x%256=x%256:=fun x=>by
  exact V125
 rw[hw,BitVec.toNat_xor,C3,C3]
 have hx:∀a b:Nat,((a ^^^ b:Nat):Int)%256=(((a%256) ^^^ (b%256):Nat):Int):=fun a b=>by
  have:=Nat.xor_mod_two_pow (a:=a) (b:=b) (n:=8);rw[show(2:Nat)^8=256 from rfl]at this;rw[<-this];omega
 rw[hx]
 have h1:((h/8589934592)%((2^64:Nat):Int)).toNat%256=(h%mM/8589934592%256).toNat:=by rw[show((2^64:Nat):Int)=18446744073709551616 from rfl];show _=(h%9007199254740992/8589934592%256).toNat;omega
 have h2:((h/35184372088832)%((2^64:Nat):Int)).toNat%256=(h%mM/35184372088832%256).toNat:=by rw[show((2^64:Nat):Int)=18446744073709551616 from rfl];show _=(h%9007199254740992/35184372088832%256).toNat;omega
 rw[h1,h2,d6]
 have hb:byN h<256:=by unfold byN;exact Nat.xor_lt_two_pow (n:=8) o_ o_
 unfold byN at hb⊢;rw[c6 _ o_]
theorem Hw (h:Int):byN h<256:=by unfold byN;exact Nat.xor_lt_two_pow (n:=8) o_ o_
theorem JU:∀u:Fin 256,∀lo:Fin 64,∃hi:Fin 4,(u.val ^^^ (lo.val+64*hi.val))%3=2:=by decide+kernel
theorem LL {B r:Int}(h0:0<=r)(h1:r<2251799813685248):(2251799813685248*B+r)%mM=2251799813685248*(B%4)+r:=by show(2251799813685248*B+r)%9007199254740992=_;omega
theorem Gm {h B r:Int}(h0:0<=r)(h1:r<2251799813685248)(he:h%mM=(2251799813685248*B+r)%mM):byN h=(r/8589934592%256).toNat ^^^ ((r/35184372088832%64).toNat+64*(B%4).toNat):=by unfold byN;rw[he,LL h0 h1];have e1:(2251799813685248*(B%4)+r)/8589934592%256=r/8589934592%256:=o_;have e2:((2251799813685248*(B%4)+r)/35184372088832%256).toNat=(r/35184372088832%64).toNat+64*(B%4).toNat:=o_;rw[e1,e2]
theorem Lp (A:Int)(w:Nat)(hw:w%2=1)(hi:Nat)(hh:hi<4):∃q:Nat,q<4/\(A+3*(q*w:Nat))%4=(hi:Int):=by
 have h4:w%4=1\/w%4=3:=o_;have hA:((hi:Int)-A)%4=0\/((hi:Int)-A)%4=1\/((hi:Int)-A)%4=2\/((hi:Int)-A)%4=3:=o_;rcases hA with h|h|h|h
 ·exact⟨0,o_,o_⟩
 ·rcases h4 with h4|h4
  ·exact⟨3,o_,o_⟩
  ·exact⟨1,o_,o_⟩
 ·exact⟨2,o_,o_⟩
 ·rcases h4 with h4|h4
  ·exact⟨1,o_,o_⟩
  ·exact⟨3,o_,o_⟩
theorem Gd {T v:Nat}(h:Aff T 1 v)(g:Int):itH (3*T) g%mM=(g+3*v)%mM:=by have s1:=h g;have s2:=h (itH T g);have s3:=h (itH T (itH T g));rw[Int.natCast_one,Int.one_mul]at s1 s2 s3;rw[show 3*T=T+(T+T) by omega,lE,lE,s3,A8,s2,<-A8,Int.add_assoc,A8,s1,<-A8];congr 1;omega
theorem xP {T v:Nat}(h:Aff T 1 v):∀(q:Nat) (g:Int),itH (q*(3*T)) g%mM=(g+3*(q*v:Nat))%mM
 | 0,g=>by simp[itH]
 | q+1,g=>by
  have h3:=Gd h g;rw[show(q+1)*(3*T)=3*T+q*(3*T) by rw[p8,Nat.one_mul,Nat.add_comm],lE,xP h q,A8,h3,<-A8];congr 1;rw[p8,Nat.one_mul];omega
theorem GA (h:Int)(K:Nat):∃k,K<=k/\byN (itH (6*k) h)%3=2:=by
 obtain⟨d1,d2,d3⟩:=Mb;have XC:=EL 51 1 _ _ Jr;rw[d1,Nat.one_mul]at XC
 generalize(CL 51 6364136223846793005 1442695040888963407).2=v at *
 have e51:(2:Nat)^51=2*2^50:=by rw[G8,Nat.mul_comm]
 rw[e51]at XC
 generalize(2:Nat)^50=T at *
 obtain⟨w,rfl⟩:∃w:Nat,v=2251799813685248*w:=⟨v/2251799813685248,o_⟩;have NT:w%2=1:=o_
 generalize hz:itH (6*K) h=z at *
 obtain⟨A,r,hA,r0,r1⟩:∃A r:Int,z=2251799813685248*A+r/\0<=r/\r<2251799813685248:=⟨z/2251799813685248,z%2251799813685248,o_,o_,o_⟩;obtain⟨hi,WP⟩:=JU ⟨(r/8589934592%256).toNat,o_⟩ ⟨(r/35184372088832%64).toNat,o_⟩;dsimp only at WP;obtain⟨q,hq,hqe⟩:=Lp A w NT hi.val hi.isLt;refine⟨K+q*T,Nat.le_add_right _ _,?_⟩
 have e6:6*(K+q*T)=6*K+q*(3*(2*T)):=by rw[Nat.mul_add];congr 1;rw[<-Nat.mul_assoc 3 2 T,Nat.mul_left_comm]
 rw[e6,lE,hz];have hs:=xP XC q z
 rw[hA,show(2251799813685248*A+r+3*((q*(2251799813685248*w):Nat):Int))=2251799813685248*(A+3*(q*w:Nat))+r by
  rw[Nat.mul_left_comm];generalize q*w=y
  omega]at hs
 rw[Gm r0 r1 (by rw[hA];exact hs),hqe,d6];exact WP
theorem EP:∀f:Fin 101,IntKind.i64.wrap (BitVec.ofInt IntKind.i64.bits (f.val:Int) &&& BitVec.ofInt IntKind.i64.bits 1).toNat=(f.val:Int)%2:=d_
theorem qK (f:Nat)(b:Mi)(image:Int)(hf:f<=100):Sim.Spec prog 63 [.agg b.tr,tvI (f:Int),tvI image] (rB (sQ b image f)):=by
 refine bI hΓ aE func63 rfl d_ rfl ?_;unfold sQ;have hm:=EP ⟨f,o_⟩;dsimp only at hm;repeat' ((conv=>whnf);first|apply Wx|apply W6|apply oi|apply fi|intro h|exact Y7|refine e_ rfl ?_)
 all_goals first|exact⟨by rw[h,hm];rfl⟩|exact⟨by rw[h];rfl⟩
theorem vH:∀{L:List (Nat×List Mu)},(∀x∈L,x.2.length<=2500)->(ay L).length<=2500*L.length
 | L,h=>by
  have:=kV h (d8 L.length);rwa [i7 (d8 _)]at this
theorem V85{p:Prop}(h:p:=by
 repeat' ((conv=>whnf);first|apply Wx|apply W6|apply oi|apply fi|intro h|refine cl hP ?_|refine cl hB ?_|refine cl gb ?_|exact Y5|refine e_ rfl ?_)):p:=h
theorem Q12{p:Prop}(h:p:=by exact⟨⟨by simp only[i9,d5,PS]<;>omega,by simp only[i9,d5,PS]<;>omega⟩⟩):p:=h
theorem iY (p:List Mq)(b:Mi)(image:Int)(hs:ao 1048576 (.lst 4 (p.map Mq.tr))):Sim.Spec prog 12 [tvP p,.agg b.tr,tvI image] (rL 8 ((bv p b image).map Mu.tr)):=by
 refine bI hΓ aE func12 rfl d_ rfl ?_;have hP:=dQ p hs;have hB:=jw b;have gb:=aJ image 0 1;by_cases hc:aj p=true/\aS b=true/\af image 0 1=true
 ·have Qx:bv p b image=ay (cj p b image (aA p).length 0 0):=by rw[bv,c7 hc];rfl
  rw[Qx];obtain⟨h1,h2,h3⟩:=hc;rw[h1]at hP;rw[h2]at hB;rw[h3]at gb;obtain⟨h6,RK⟩:=iH h1;have gF:=cN p o_;have Nh:((aA p).map fun n:Nat=>aa n).length=(aA p).length:=s_;have QM:=fun x (hx:x∈cj p b image (aA p).length 0 0)=>(iG hs hx).1;repeat' ((conv=>whnf);first|apply Wx|apply W6|apply oi|apply fi|intro h|refine cl hP ?_|refine cl hB ?_|refine cl gb ?_|exact Y7|refine e_ rfl ?_)
  conv=>whnf
  refine⟨Ma p b image,fun q=>⟨[(0,vP p),(2,tI .i64 image),(4,.r (.c (.ptr (4,0,0) 0))),(7,.r (.c (.own (15,0,0)))),(8,tI .i64 q.1.2.1),(9,tI .i64 (q.1.1:Int))],[((15,0,0),some (.arr true 8 ((ay q.1.2.2).map Mu.tr))),((4,0,0),some (.box [.t (.int .i64 b.MS),.t (.int .i64 b.MJ),.t (.bool b.MY),.t (.bool b.MX)]))],[15,4]⟩,fun q=>(aA p).length-q.1.1,⟨(0,0,[]),s_,s_,s_,s_⟩,?_,?_⟩
  ·exact Z2
  intro⟨⟨f,at0,acc⟩,hk,ha,NA,hr⟩;dsimp only at hk ha NA hr⊢;have Ye:(ay acc).length<=2500*acc.length:=vH fun x hx=>QM x (by rw[<-hr];exact f0.2 (.inl hx));by_cases M3:f<(aA p).length
  ·obtain⟨n,hn⟩:∃n,(aA p).length-f=n+1:=⟨(aA p).length-f-1,o_⟩;have hi:=qK f b image o_;rw[hn,nZ]at hr
   cases hin:sQ b image f with
   | false=>
    rw[hin]at hi hr;rw[b8 s_]at hr;repeat' ((conv=>whnf);first|apply Wx|apply W6|apply oi|apply fi|intro h|refine cl gF ?_|refine cl hi ?_|exact Y5|refine e_ rfl ?_)
    conv=>whnf
    refine⟨⟨(f+1,at0,acc),g_,g_,g_,by dsimp only;rw[show(aA p).length-(f+1)=n by omega];exact hr⟩,?_,KD⟩
    exact Z6
   | true=>
    rw[hin]at hi hr;rw[c7 rfl]at hr;have P7:=lp p (f:Int) b hs;obtain⟨f1,f2,f3⟩:=Kr (f:=f) hs h1 h2 M3;have Of:=(jh (p:=p) (f:=(f:Int)) (b:=b) hs).2
    generalize aC p (f:Int) b=I at *
    repeat' ((conv=>whnf);first|apply Wx|apply W6|apply oi|apply fi|intro h|refine cl gF ?_|refine cl hi ?_|refine cl P7 ?_|exact Y5|refine e_ rfl ?_)
    have M0:(I.map Mp.tr).length=I.length:=s_;have OC:=sX at0 I;have Nu:=fun k (h:k<=I.length)=>jL (at0:=at0) h;have O8:=gC at0 I;have WU:=fun k x (h:I[k]?=some x)=>gn (at0:=at0) h;have Vu:∀(k:Nat) (x:Mp),I[k]?=some x->(iB I at0)[k]?=some (Mu.mk (atL (bb at0 I) k) (cT (bb at0 I) k x)):=fun k x h=>eV h;have QA:=dY I at0;have Qd:zW at0 I=atL (bb at0 I) I.length:=rfl;have ye:=Jn (l:=I) (at0:=at0)
    generalize bb at0 I=S at *
    generalize iB I at0=F at *
    generalize zW at0 I=E at *
    conv=>whnf
    refine⟨{k:Nat//k<=I.length},fun k=>⟨[(0,vP p),(2,tI .i64 image),(4,.r (.c (.ptr (4,0,0) 0))),(7,.r (.c (.own (15,0,0)))),(8,tI .i64 (atL S k.1)),(9,tI .i64 (f:Int)),(10,.r (.c (.own (45,0,0)))),(11,.r (.c (.own (46,0,0)))),(12,tI .i64 (k.1:Int))],[((46,0,0),some (.arr true 1 ((S.take k.1).map aa))),((45,0,0),some (.arr true 7 (I.map Mp.tr))),((15,0,0),some (.arr true 8 ((ay acc).map Mu.tr))),((4,0,0),some (.box [.t (.int .i64 b.MS),.t (.int .i64 b.MJ),.t (.bool b.MY),.t (.bool b.MX)]))],[46,45,15,4]⟩,fun k=>I.length-k.1,⟨0,o_⟩,?_,?_⟩
    ·repeat' ((conv=>whnf);first|apply Wx|apply W6|apply oi|apply fi|intro h|exact Y7|refine e_ rfl ?_)
     all_goals try exact⟨by rw[O8]⟩
    intro⟨k,hk⟩;dsimp only;have QU:=Nu k hk;by_cases PG:k<I.length
    ·obtain⟨x,hx⟩:=ae PG;have hz:=gW x.J7.J3;have ho:=ku x.J7.J3;have T3:=WU k x hx;have hg:S[k]?=some (atL S k):=zq o_;have PK:k<(I.map Mp.tr).length:=o_;have Wf:(I.map Mp.tr)[k]?=some x.tr:=ab hx;repeat' ((conv=>whnf);first|apply Wx|apply W6|apply oi|apply fi|intro h|refine⟨k,rfl,PK,?_⟩|refine⟨_,Wf,?_⟩|refine cl ho ?_|exact Y5|refine e_ rfl ?_)
     all_goals try exact Q1
     conv=>whnf
     refine⟨⟨k+1,o_⟩,?_,KD⟩;repeat' ((conv=>whnf);first|apply Wx|apply W6|apply oi|apply fi|intro h|exact Y8|refine e_ rfl ?_)
     all_goals try exact⟨by rw[dA hg,u5];rfl⟩
     all_goals try exact⟨congrArg (Tr.int .i64) (by rw[T3,c6 _ o_])⟩
    ·have NL:k=I.length:=o_;subst NL;have hg:S[I.length]?=some (atL S I.length):=zq o_;repeat' ((conv=>whnf);first|apply Wx|apply W6|apply oi|apply fi|intro h|exact Y5|refine e_ rfl ?_)
     all_goals try exact Q1
     conv=>whnf
     refine⟨{k:Nat//k<=I.length},fun k=>⟨[(0,vP p),(2,tI .i64 image),(4,.r (.c (.ptr (4,0,0) 0))),(7,.r (.c (.own (15,0,0)))),(8,tI .i64 (atL S I.length)),(9,tI .i64 (f:Int)),(10,.r (.c (.own (45,0,0)))),(11,.r (.c (.own (69,0,0)))),(13,tI .i64 (k.1:Int))],[((69,0,0),some (.arr true 1 (S.map aa))),((45,0,0),some (.arr true 7 (I.map Mp.tr))),((15,0,0),some (.arr true 8 ((ay acc++F.take k.1).map Mu.tr))),((4,0,0),some (.box [.t (.int .i64 b.MS),.t (.int .i64 b.MJ),.t (.bool b.MY),.t (.bool b.MX)]))],[69,45,15,4]⟩,fun k=>I.length-k.1,⟨0,o_⟩,?_,?_⟩
     ·repeat' ((conv=>whnf);first|apply Wx|apply W6|apply oi|apply fi|intro h|exact Y7|refine e_ rfl ?_)
      all_goals try exact⟨by rw[show [[Tr.int .i64 (atL S I.length)]]=[atL S I.length].map aa from rfl,<-u5,<-dA hg,i7 o_]⟩
      all_goals try exact⟨s_⟩
     intro⟨k,hk⟩;dsimp only;have PS:((ay acc++F.take k).map Mu.tr).length=(ay acc).length+k:=(by rw[e7,c8,j8];omega);have Wh:(S.map aa).length=I.length+1:=(by rw[e7];exact OC);have mg:∀j,j<=I.length->(S.map aa)[j]?=some (aa (atL S j)):=fun j hj=>by rw[p6,zq o_];rfl
     by_cases PG:k<I.length
     ·obtain⟨x,hx⟩:=ae PG;have QV:=Vu k x hx;have SI:(ay acc++F.take (k+1)).map Mu.tr=(ay acc++F.take k).map Mu.tr++[(Mu.mk (atL S k) (cT S k x)).tr]:=(by rw[dA QV,<-j9,u5];rfl);have PK:k<(I.map Mp.tr).length:=o_;have Wf:(I.map Mp.tr)[k]?=some x.tr:=ab hx;have NT:IntKind.i64.wrap ((k:Int)+1)=((k+1:Nat):Int):=(by rw[c6 _ o_];rfl);have Oz:k<(S.map aa).length:=o_;have hk1:k+1<(S.map aa).length:=o_;have m0:=mg k o_;have m1:=mg (k+1) o_;have b1:=Nu (k+1) o_
      cases Pp:pE x with
      | true=>
       obtain⟨ja,jb⟩:=f3 x (c9 hx) Pp;have hwa:x.J7.K9=((x.J7.K9.toNat:Nat):Int):=(D0 ja).symm;have N8:x.J7.K9.toNat<(S.map aa).length:=o_;have m2:=mg x.J7.K9.toNat o_;have b2:=Nu x.J7.K9.toNat o_;have On:cT S k x=zM x (IntKind.i64.wrap (atL S x.J7.K9.toNat-atL S (k+1))):=(by rw[cT,c7 Pp,c6 _ o_]);rw[isJump_iff]at Pp;repeat' ((conv=>whnf);first|apply Wx|apply W6|apply oi|apply fi|intro h|refine⟨k,rfl,PK,?_⟩|refine⟨_,Wf,?_⟩|refine⟨k,rfl,Oz,?_⟩|refine⟨k+1,NT,hk1,?_⟩|refine⟨_,hwa,N8,?_⟩|refine⟨_,m0,?_⟩|refine⟨_,m1,?_⟩|refine⟨_,m2,?_⟩|exact Y10|refine e_ rfl ?_)
       all_goals try exact Q12
       all_goals(
        conv=>whnf
        refine⟨⟨k+1,o_⟩,?_,KD⟩;repeat' ((conv=>whnf);first|apply Wx|apply W6|apply oi|apply fi|intro h|exact Y8|refine e_ rfl ?_)
        all_goals try exact⟨by dsimp only;rw[SI,On];rfl⟩)
      | false=>
       have On:cT S k x=x:=(by rw[cT,b8 (by rw[Pp];simp)]);have Yo:¬(x.J7.J3=10\/x.J7.J3=11):=(by rw[<-isJump_iff,Pp];simp);repeat' ((conv=>whnf);first|apply Wx|apply W6|apply oi|apply fi|intro h|refine⟨k,rfl,PK,?_⟩|refine⟨_,Wf,?_⟩|refine⟨k,rfl,Oz,?_⟩|refine⟨_,m0,?_⟩|exact Y10|refine e_ rfl ?_)
       all_goals try exact Q12
       all_goals(
        conv=>whnf
        refine⟨⟨k+1,o_⟩,?_,KD⟩;repeat' ((conv=>whnf);first|apply Wx|apply W6|apply oi|apply fi|intro h|exact Y8|refine e_ rfl ?_)
        all_goals try exact⟨by dsimp only;rw[SI,On];rfl⟩)
     ·have NL:k=I.length:=o_;subst NL;repeat' ((conv=>whnf);first|apply Wx|apply W6|apply oi|apply fi|intro h|exact Y5|refine e_ rfl ?_)
      conv=>whnf
      refine⟨⟨(f+1,E,acc++[(f,F)]),g_,g_,by simp;omega,by dsimp only;rw[j9,show(aA p).length-(f+1)=n by omega];exact hr⟩,?_,KD⟩;repeat' ((conv=>whnf);first|apply Wx|apply W6|apply oi|apply fi|intro h|exact Y8|refine e_ rfl ?_)
      all_goals try exact⟨by rw[Qd]⟩
      all_goals try exact⟨by rw[px,i7 o_]⟩
  ·rw[show(aA p).length-f=0 by omega]at hr;have ND:acc=cj p b image (aA p).length 0 0:=(by rw[<-hr];simp[cj]);repeat' ((conv=>whnf);first|apply Wx|apply W6|apply oi|apply fi|intro h|refine cl gF ?_|exact Y5|refine e_ rfl ?_)
   all_goals exact⟨by rw[ND]⟩
 ·have Qx:bv p b image=[]:=by rw[bv,b8 hc]
  rw[Qx]
  cases h1:aj p with
  | false=>
   rw[h1]at hP
   exact V85
  | true=>
   rw[h1]at hP
   cases h2:aS b with
   | false=>
    rw[h2]at hB
    exact V85
   | true=>
    rw[h2]at hB
    cases h3:af image 0 1 with
    | true=>exact absurd ⟨h1,h2,h3⟩ hc
    | false=>rw[h3]at gb;exact V85
theorem iR (p:List Mq)(b:Mi)(image:Int)(hs:ao 1048576 (.lst 4 (p.map Mq.tr))):Sim.Spec prog 48 [tvP p,.agg b.tr,tvI image] (.r (.agg ((ah p b image).tr.map oS))):=by
 refine bI hΓ aE func48 rfl d_ rfl ?_;have hP:=iY p b image hs;by_cases hc:aj p=true/\aS b=true/\af image 0 1=true
 ·have Qx:ah p b image=⟨ak (ay (cj p b image (aA p).length 0 0)),cu p 0 (cj p b image (aA p).length 0 0)⟩:=by rw[ah,c7 hc]
  have Vu:bv p b image=ay (cj p b image (aA p).length 0 0):=by rw[bv,c7 hc];rfl
  rw[Qx];rw[Vu]at hP;obtain⟨h1,h2,h3⟩:=hc;obtain⟨h6,RK⟩:=iH h1;have OS:=iO p b image (aA p).length 0 0;have QM:=fun x (hx:x∈cj p b image (aA p).length 0 0)=>(iG hs hx).1;have Ut:=fun{i:Nat} {x:Nat×List Mu} {j:Nat} {y:Mu} (h:(cj p b image (aA p).length 0 0)[i]?=some x) (hy:x.2[j]?=some y)=>fV hs h1 h2 h hy;have Vd:=fun{i:Nat} {x:Nat×List Mu} (h:(cj p b image (aA p).length 0 0)[i]?=some x)=>(kl hs h1 h2 o_ h).2
  generalize cj p b image (aA p).length 0 0=L at *
  repeat' ((conv=>whnf);first|apply Wx|apply W6|apply oi|apply fi|intro h|refine cl hP ?_|exact Y7|refine e_ rfl ?_)
  conv=>whnf
  refine⟨{q:Nat×Nat//q.1<=L.length/\(∀x,L[q.1]?=some x->q.2<x.2.length)/\(q.1=L.length->q.2=0)},fun q=>⟨[(0,vP p),(6,.r (.c (.ptr (6,0,0) 0))),(7,.r (.c (.ptr (7,0,0) 0))),(8,.r (.c (.own (15,0,0)))),(9,tI .i64 (((ay (L.take q.1.1)).length+q.1.2:Nat):Int))],[((6,0,0),some (.box [.t (.str []),.nils 0])),((7,0,0),some (.box [.t (.str (gx L q.1.1 q.1.2)),.own (7,0,1)])),((7,0,1),some (.arr true 3 ((jN p L q.1.1 q.1.2).map My.tr))),((15,0,0),some (.arr true 8 ((ay L).map Mu.tr)))],[15,7,6]⟩,fun q=>(ay L).length+1-((ay (L.take q.1.1)).length+q.1.2),⟨(0,0),g_,by intro x hx;exact(Vd hx).2,fun _=>rfl⟩,?_,?_⟩
  ·repeat' ((conv=>whnf);first|apply Wx|apply W6|apply oi|apply fi|intro h|exact Y7|refine e_ rfl ?_)
   all_goals try exact⟨by rw[DS];rfl⟩
   all_goals try exact⟨by rw[uV];rfl⟩
  intro⟨⟨i,j⟩,hi,hj,he⟩;dsimp only at hi hj he⊢;by_cases M3:i<L.length
  ·obtain⟨x,hx⟩:=ae M3;have Pp:=hj x hx;obtain⟨y,hy⟩:=ae Pp;obtain⟨Yl,OJ⟩:=Ut hx hy;have OA:=BK hx hy;have NL:=aI OA;have NA:=vH QM;have N8:=A9 2500 (show L.length<=6 by omega);have Yz:(ay (L.take i)).length+j<((ay L).map Mu.tr).length:=(by rw[e7];exact NL);have Ys:((ay L).map Mu.tr)[(ay (L.take i)).length+j]?=some y.tr:=ab OA;have hE:=tZ y.L7.J7;have hE5:=sU y.L7.J7;obtain⟨⟨i',j'⟩,q1,q2,q3,q4,q5,q6⟩:=He (p:=p) (fun{i x} h=>(Vd (i:=i) h).2) hx Pp;dsimp only at q1 q2 q3 q4 q5 q6;rw[FN hx hy]at q5;rw[yk hx]at q6;have Np:=Gl (j:=j) hx;have aa0:=gU (ay (L.take i));have aaL:=gU (x.2.take j);have aaw:(ay (L.take i)).length<=(ay L).length:=o_;have aac:(x.2.take j).length<=2500:=(by have:=QM x (c9 hx);rw[j8];omega);have XW:ak (x.2.take (j+1))=ak (x.2.take j)++bk y.L7.J7:=(by rw[dA hy,aK,eb]);rw[XW,c8]at q6;have O8:(cu p 0 (L.take i)).length=i:=(by rw[lm,j8];omega);rcases v4 j with rfl|Wg
   ·obtain⟨NI,g,ln,Sw,Tw,VC,Zl⟩:=Yl.head rfl;have OE:bK p x.1=ln.L0:=(by rw[bK,Sw];dsimp only;rw[VC]);rw[uV];have ZK:ak (x.2.take 0)=[]:=(by simp[ak]);rw[ZK]at q6 Np OJ;rw[i9]at Np OJ
    generalize gx L i 0=C at *
    generalize cu p 0 (L.take i)=S0 at *
    generalize bk y.L7.J7=EB at *
    generalize ak (ay (L.take i))=C0 at *
    have PZ:IntKind.i64.wrap (((S0.map My.tr++[[Tr.str ln.L0,Tr.int .i64 y.MK,Tr.int .i64 0]]).length:Int)-1)=(i:Int):=by rw[c8,e7,O8];simp only[d5,i9];rw[c6 _ o_];omega
    have N6:i<(S0.map My.tr++[[Tr.str ln.L0,Tr.int .i64 y.MK,Tr.int .i64 0]]).length:=by rw[c8,e7,O8];simp
    have Xb:(S0.map My.tr++[[Tr.str ln.L0,Tr.int .i64 y.MK,Tr.int .i64 0]])[i]?=some [Tr.str ln.L0,Tr.int .i64 y.MK,Tr.int .i64 0]:=by rw[m6 (by rw[e7,O8];exact d8 _),e7,O8];simp
    have fin:∀(KK:List (List Tr)),KK=(S0.map My.tr++[[Tr.str ln.L0,Tr.int .i64 y.MK,Tr.int .i64 0]]).set i [Tr.str ln.L0,Tr.int .i64 y.MK,Tr.int .i64 (IntKind.i64.wrap (((C++EB).length:Int)-y.MK))]->KK=(jN p L i' j').map My.tr:=fun KK h=>by
     rw[h,q6,OE,D9 _ _ (by rw[e7,O8];exact d8 _),e7,O8,x6,u5,c8,c6 _ o_];simp only[D6,p7,C7,My.tr];congr 6<;>(simp only[i9];omega)
    rcases NI with NI|NI
    all_goals(
     repeat' ((conv=>whnf);first|apply Wx|apply W6|apply oi|apply fi|intro h|refine⟨_,rfl,Yz,?_⟩|refine⟨_,Ys,?_⟩|refine cl hE ?_|refine⟨g,ln.tr,Tw,ab VC,?_⟩|refine⟨_,PZ,N6,?_⟩|refine⟨_,Xb,?_⟩|exact Y13|refine e_ rfl ?_)
     all_goals try exact⟨o_⟩
     all_goals try exact⟨⟨by simp only[i9,d5,e7,O8]<;>omega,by simp only[i9,d5,e7,O8]<;>omega⟩⟩
     all_goals(
      conv=>whnf
      refine⟨⟨(i',j'),q1,q2,q3⟩,?_,KD⟩;repeat' ((conv=>whnf);first|apply Wx|apply W6|apply oi|apply fi|intro h|exact Y8|refine e_ rfl ?_)
      all_goals try exact⟨by rw[q5]⟩
      all_goals try exact⟨fin _ rfl⟩
      all_goals exact⟨congrArg (Tr.int _) (by dsimp only;rw[c6 _ o_];omega)⟩))
   ·obtain⟨j,rfl⟩:∃j0,j=j0+1:=⟨j-1,o_⟩;obtain⟨NI,m,ln,Tw,VC,Zl⟩:=Yl.body Wg;rw[yk hx]
    generalize gx L i (j+1)=C at *
    generalize cu p 0 (L.take i)=S0 at *
    generalize bk y.L7.J7=EB at *
    generalize ak (ay (L.take i))=C0 at *
    generalize ak (x.2.take (j+1))=C1 at *
    have PZ:IntKind.i64.wrap ((((S0++[(⟨bK p x.1,(C0.length:Int),(C1.length:Int)⟩:My)]).map My.tr).length:Int)-1)=(i:Int):=by rw[e7,c8,O8];simp only[d5,i9];rw[c6 _ o_];omega
    have N6:i<((S0++[(⟨bK p x.1,(C0.length:Int),(C1.length:Int)⟩:My)]).map My.tr).length:=by rw[e7,c8,O8];simp
    have Xb:((S0++[(⟨bK p x.1,(C0.length:Int),(C1.length:Int)⟩:My)]).map My.tr)[i]?=some [Tr.str (bK p x.1),Tr.int .i64 (C0.length:Int),Tr.int .i64 (C1.length:Int)]:=by rw[p6,m6 (by rw[O8];exact d8 _),O8];simp[My.tr]
    have fin:∀(KK:List (List Tr)),KK=((S0++[(⟨bK p x.1,(C0.length:Int),(C1.length:Int)⟩:My)]).map My.tr).set i [Tr.str (bK p x.1),Tr.int .i64 (C0.length:Int),Tr.int .i64 (IntKind.i64.wrap (((C++EB).length:Int)-(C0.length:Int)))]->KK=(jN p L i' j').map My.tr:=fun KK h=>by
     rw[h,q6,u5,D9 _ _ (by rw[e7,O8];exact d8 _),e7,O8,x6,u5,c8,c6 _ o_];simp only[D6,p7,C7,My.tr];congr 6;omega
    repeat' ((conv=>whnf);first|apply Wx|apply W6|apply oi|apply fi|intro h|refine⟨_,rfl,Yz,?_⟩|refine⟨_,Ys,?_⟩|refine cl hE ?_|refine⟨m,ln.tr,Tw,ab VC,?_⟩|refine⟨_,PZ,N6,?_⟩|refine⟨_,Xb,?_⟩|exact Y13|refine e_ rfl ?_)
    all_goals try exact⟨o_⟩
    all_goals(
     conv=>whnf
     refine⟨⟨(i',j'),q1,q2,q3⟩,?_,KD⟩;repeat' ((conv=>whnf);first|apply Wx|apply W6|apply oi|apply fi|intro h|exact Y8|refine e_ rfl ?_)
     all_goals try exact⟨by rw[q5]⟩
     all_goals try exact⟨fin _ rfl⟩
     all_goals exact⟨congrArg (Tr.int _) (by dsimp only;rw[c6 _ o_];omega)⟩)
  ·have N6:i=L.length:=o_;subst N6;have Wg:=he rfl;subst Wg;rw[Ga,GJ,i7 (d8 _)];repeat' ((conv=>whnf);first|apply Wx|apply W6|apply oi|apply fi|intro h|exact Y7|refine e_ rfl ?_)
   all_goals try(exfalso;simp only[e7,j6]at h;omega)
 ·have Qx:ah p b image=⟨[],[]⟩:=by rw[ah,b8 hc]
  have Vu:bv p b image=[]:=by rw[bv,b8 hc]
  rw[Qx];rw[Vu]at hP;repeat' ((conv=>whnf);first|apply Wx|apply W6|apply oi|apply fi|intro h|refine cl hP ?_|exact Y7|refine e_ rfl ?_)
  conv=>whnf
  refine⟨Unit,fun _=>⟨[(0,vP p),(6,.r (.c (.ptr (6,0,0) 0))),(7,.r (.c (.ptr (7,0,0) 0))),(8,.r (.c (.own (15,0,0)))),(9,tI .i64 0)],[((6,0,0),some (.box [.t (.str []),.nils 0])),((7,0,0),some (.box [.t (.str []),.own (7,0,1)])),((7,0,1),some (.arr true 3 [])),((15,0,0),some (.arr true 8 []))],[15,7,6]⟩,fun _=>0,(),?_,?_⟩
  ·exact Z2
  intro _;repeat' ((conv=>whnf);first|apply Wx|apply W6|apply oi|apply fi|intro h|exact Y7|refine e_ rfl ?_)
  all_goals try exact Q5
theorem Ae {p:List Mq}(hs:ao 1048576 (.lst 4 (p.map Mq.tr)))(f:Nat):(bK p f).length<=1048576:=by
 unfold bK;split
 ·split
  ·rename_i g _ y hy;have:=aZ hs (c9 hy);simp only[Mq.tr,az,ao]at this;omega
  ·simp
 ·simp
theorem rd {p:List Mq}(hs:ao 1048576 (.lst 4 (p.map Mq.tr))):∀(L:List (Nat×List Mu)) (at0:Int) (x:My),x∈cu p at0 L->x.L0.length<=1048576
 | [],_,_,h=>by cases h
 |(f,l)::L,at0,x,h=>by
  rw[cu]at h;rcases d7.1 h with rfl|h
  ·exact Ae hs f
  ·exact rd hs L _ x h
theorem mJ {p:List Mq}{b:Mi}{image:Int}(hs:ao 1048576 (.lst 4 (p.map Mq.tr))):az 1048576 (ah p b image).tr:=by
 rw[ah];split
 ·rename_i hc;obtain⟨h1,h2,h3⟩:=hc;obtain⟨h6,_⟩:=iH h1;have OS:=iO p b image (aA p).length 0 0;have NA:=vH fun x (hx:x∈cj p b image (aA p).length 0 0)=>(iG hs hx).1;have Np:=gU (ay (cj p b image (aA p).length 0 0));have N8:=A9 2500 (show(cj p b image (aA p).length 0 0).length<=6 by omega);refine⟨by simp only[ao];omega,?_,trivial⟩
  exact fX (by rw[lm];omega) fun x hx=>by
   have:=rd hs _ _ x hx;simp only[My.tr,az,ao];exact⟨o_,trivial,trivial,trivial⟩
 ·simp[Mn.tr,az,ao,eM]
theorem oO {p:List Mq}{b:Mi}{image:Int}(h6:(aA p).length<=6):(ah p b image).ME.length<=6:=by
 unfold ah;split
 ·dsimp only;rw[lm];have:=iO p b image (aA p).length 0 0;omega
 ·simp
theorem wX {F:Nat->List Int}(h:∀f,(F f).length<=12):∀n,(kC F n).length<=12*n
 | 0=>by simp[kC]
 | n+1=>by have:=wX h n;have:=h n;rw[kC,c8];omega
theorem wu {p:List Mq}{b:Mi}(hs:ao 1048576 (.lst 4 (p.map Mq.tr)))(h6:(aA p).length<=6){first second:Int}:az 1048576 (aP p b first second).tr:=by
 have a0:=mJ (b:=b) (image:=0) hs;have a1:=mJ (b:=b) (image:=1) hs;have hi:∀ns:List Int,ns.length<=1048576->ao 1048576 (.lst 1 (ns.map aa)):=fun ns hn=>fX o_ fun x hx=>by simp[aa,az,ao]
 refine⟨?_,hi _ (by simp[aP]),hi _ (by simp[aP,entries];omega),trivial⟩;simp only[aP];rw[ao];exact⟨s_,a0,a1,trivial⟩
theorem V92{p:Prop}(h:p:=by
 repeat' ((conv=>whnf);first|apply Wx|apply W6|apply oi|apply fi|intro h|refine cl hP ?_|refine cl hB ?_|exact Y5|refine e_ rfl ?_)):p:=h
theorem V90{p:Prop}(h:p:=by
 repeat' ((conv=>whnf);first|apply Wx|apply W6|apply oi|apply fi|intro h|refine cl gF ?_|refine cl NY ?_|exact Y5|refine e_ rfl ?_)):p:=h
theorem rq (p:List Mq)(b:Mi)(first second:Int)(hs:ao 1048576 (.lst 4 (p.map Mq.tr))):Sim.Spec prog 34 [tvP p,.agg b.tr,tvI first,tvI second] (.tup [.agg ((oSp (gQ p b first second)).tr.map oS),.c (.t (.bool (gQ p b first second).isSome))]):=by
 refine bI hΓ aE func34 rfl d_ rfl ?_;have hP:=dQ p hs;have hB:=jw b
 cases h1:aj p with
 | false=>
  rw[h1]at hP;rw[show gQ p b first second=none by rw[gQ,b8 (by rw[h1];simp)]]
  exact V92
 | true=>
  rw[h1]at hP
  cases h2:aS b with
  | false=>
   rw[h2]at hB;rw[show gQ p b first second=none by rw[gQ,b8 (by rw[h2];simp)]]
   exact V92
  | true=>
   rw[h2]at hB;obtain⟨h6,RK⟩:=iH h1;have T0:=iR p b 0 hs;have UM:=iR p b 1 hs;have gF:=cN p o_;have Nh:((aA p).map fun n:Nat=>aa n).length=(aA p).length:=s_;have NY:=gJ (aP p b first second) (wu hs h6);repeat' ((conv=>whnf);first|(with_reducible apply W1;fail_if_success (with_reducible show Wo _ _ _ _ (Code.region 4 _ _) _ _))|(with_reducible first|apply W2|apply W3|apply W4|apply W5|apply W6|apply W7|apply W8|apply W9)|apply au|apply oi|apply fi|intro h|refine cl hP ?_|refine cl hB ?_|refine cl T0 ?_|refine cl UM ?_|exact Y5|refine e_ rfl ?_)
   all_goals try exact⟨nk _ (by intro x c hc sz rs e;subst e;simp[My.tr]at hc)⟩
   have O8:(ah p b 0).ME.length<=6:=oO h6;have ZA:(ah p b 1).ME.length<=6:=oO h6;have hE:∀f,f<(aA p).length->uj p b (ah p b 0) (ah p b 1) first second f=[cW p b first second f]:=fun f hf=>JZ h1 h2 hf first second;have ON:kC (uj p b (ah p b 0) (ah p b 1) first second) (aA p).length=entries p b first second:=ya hE
   have hld:gQ p b first second=if bF (aP p b first second)=true then some (aP p b first second)else none:=by
    rw[gQ];by_cases OI:bF (aP p b first second)=true
    ·rw[c7 OI,c7 ⟨h1,h2,OI⟩]
    ·rw[b8 OI,b8 fun h=>OI h.2.2]
   have Re:(aP p b first second).tr=[.lst 2 [(ah p b 0).tr,(ah p b 1).tr],.lst 1 [aa first,aa second],.lst 1 ((entries p b first second).map aa)]:=rfl;rw[hld]
   generalize aP p b first second=cd at *
   generalize ah p b 0=i0 at *
   generalize ah p b 1=i1 at *
   have Wt:∀f,(uj p b i0 i1 first second f).length<=12:=fun f=>by
    unfold uj;split
    ·have:=wj (bK p f) second i1.ME;omega
    ·have:=wj (bK p f) first i0.ME;omega
   have hEt:=wX Wt;conv=>whnf
   refine BN ⟨[(0,vP p),(5,.r (.c (.ptr (5,0,0) 0))),(8,.r (.c (.ptr (8,0,0) 0))),(10,.r (.c (.ptr (10,0,0) 0)))],[((5,0,0),some (.box (b.tr.map .t))),((8,0,0),some (.box [.nils 0,.nils 0,.nils 0])),((10,0,0),some (.box [.own (10,0,1),.own (10,0,2),.own (10,0,3)])),((10,0,1),some (.arr true 2 [i0.tr,i1.tr])),((10,0,2),some (.arr true 1 [aa first,aa second])),((10,0,3),some (.arr true 1 []))],[10,8,5]⟩ ?_ ?_
   ·exact Z2
   repeat' ((conv=>whnf);first|apply Wx|apply W6|apply oi|apply fi|intro h|exact Y7|refine e_ rfl ?_)
   conv=>whnf
   refine⟨{f:Nat//f<=(aA p).length},fun q=>⟨[(0,vP p),(5,.r (.c (.ptr (5,0,0) 0))),(8,.r (.c (.ptr (8,0,0) 0))),(10,.r (.c (.ptr (10,0,0) 0))),(11,tI .i64 (q.1:Int))],[((5,0,0),some (.box (b.tr.map .t))),((8,0,0),some (.box [.nils 0,.nils 0,.nils 0])),((10,0,0),some (.box [.own (10,0,1),.own (10,0,2),.own (10,0,3)])),((10,0,1),some (.arr true 2 [i0.tr,i1.tr])),((10,0,2),some (.arr true 1 [aa first,aa second])),((10,0,3),some (.arr true 1 ((kC (uj p b i0 i1 first second) q.1).map aa)))],[10,8,5]⟩,fun q=>(aA p).length-q.1,⟨0,o_⟩,?_,?_⟩
   ·exact Z2
   intro⟨f,hf⟩;dsimp only;have hef:=hEt f;by_cases M3:f<(aA p).length
   ·obtain⟨g,hg⟩:=ae M3;obtain⟨ln,Zh,_,OE,_⟩:=qJ h1 hg
    obtain⟨j,hj,Wk⟩:∃j:Nat,br b f=(j:Int)/\j<=1:=by
     rcases gz b f with e|e
     ·exact⟨0,by rw[e];rfl,o_⟩
     ·exact⟨1,by rw[e];rfl,o_⟩
    obtain⟨im,base,TW,SM,RJ,hsy⟩:∃(im:Mn) (base:Int),[i0.tr,i1.tr][j]?=some im.tr/\[aa first,aa second][j]?=some (aa base)/\uj p b i0 i1 first second f=kT ln.L0 base im.ME/\im.ME.length<=6:=by
     rcases(show j=0\/j=1 by omega)with rfl|rfl
     ·exact⟨i0,first,rfl,rfl,by rw[uj,hj,b8 (show ¬((0:Nat):Int)=1 by decide),OE],O8⟩
     ·exact⟨i1,second,rfl,rfl,by rw[uj,hj,c7 (show((1:Nat):Int)=1 from rfl),OE],ZA⟩
    have QF:=EP ⟨f,o_⟩;dsimp only at QF;have Ol:j<[i0.tr,i1.tr].length:=(by simp;omega);have YA:j<[aa first,aa second].length:=(by simp;omega);have NF:f<((aA p).map fun n:Nat=>aa n).length:=o_;have Wq:((aA p).map fun n:Nat=>aa n)[f]?=some (aa (g:Int)):=(by rw[p6,hg];rfl);have OC:(im.ME.map My.tr).length=im.ME.length:=s_;repeat' ((conv=>whnf);first|(with_reducible apply W1;fail_if_success (with_reducible show Wo _ _ _ _ (Code.seq (Code.region 8 _ _) _) _ _))|(with_reducible first|apply W2|apply W3|apply W4|apply W5|apply W6|apply W7|apply W8|apply W9)|apply au|apply oi|apply fi|intro h|refine cl gF ?_|exact Y5|refine e_ rfl ?_)
    conv=>whnf
    refine nW Unit (fun _=>⟨[(0,vP p),(5,.r (.c (.ptr (5,0,0) 0))),(8,.r (.c (.ptr (8,0,0) 0))),(10,.r (.c (.ptr (10,0,0) 0))),(11,tI .i64 (f:Int)),(12,tI .i64 (j:Int))],[((5,0,0),some (.box (b.tr.map .t))),((8,0,0),some (.box [.nils 0,.nils 0,.nils 0])),((10,0,0),some (.box [.own (10,0,1),.own (10,0,2),.own (10,0,3)])),((10,0,1),some (.arr true 2 [i0.tr,i1.tr])),((10,0,2),some (.arr true 1 [aa first,aa second])),((10,0,3),some (.arr true 1 ((kC (uj p b i0 i1 first second) f).map aa)))],[10,8,5]⟩) ?_ ?_
    ·have Qs:=hj;unfold br at Qs
     cases RI:b.MX with
     | true=>
      rw[RI,c7 rfl]at Qs;rw[Qs]at QF;repeat' ((conv=>whnf);first|apply Wx|apply W6|apply oi|apply fi|intro h|exact Y7|refine e_ rfl ?_)
      all_goals(conv=>whnf)
      all_goals try(exfalso;rw[RI]at h;cases h;done)
      refine⟨(),?_⟩;repeat' ((conv=>whnf);first|apply Wx|apply W6|apply oi|apply fi|intro h|exact Y7|refine e_ rfl ?_)
      all_goals exact⟨congrArg (Tr.int _) QF⟩
     | false=>
      rw[RI,b8 s_]at Qs;repeat' ((conv=>whnf);first|apply Wx|apply W6|apply oi|apply fi|intro h|exact Y7|refine e_ rfl ?_)
      all_goals(conv=>whnf)
      all_goals try(exfalso;rw[RI]at h;cases h;done)
      refine⟨(),?_⟩;repeat' ((conv=>whnf);first|apply Wx|apply W6|apply oi|apply fi|intro h|exact Y7|refine e_ rfl ?_)
      all_goals exact⟨congrArg (Tr.int _) Qs⟩
    intro _;dsimp only;repeat' ((conv=>whnf);first|apply Wx|apply W6|apply oi|apply fi|intro h|exact Y7|refine e_ rfl ?_)
    conv=>whnf
    refine⟨{k:Nat//k<=im.ME.length},fun q=>⟨[(0,vP p),(5,.r (.c (.ptr (5,0,0) 0))),(8,.r (.c (.ptr (8,0,0) 0))),(10,.r (.c (.ptr (10,0,0) 0))),(11,tI .i64 (f:Int)),(12,tI .i64 (j:Int)),(13,tI .i64 (q.1:Int))],[((5,0,0),some (.box (b.tr.map .t))),((8,0,0),some (.box [.nils 0,.nils 0,.nils 0])),((10,0,0),some (.box [.own (10,0,1),.own (10,0,2),.own (10,0,3)])),((10,0,1),some (.arr true 2 [i0.tr,i1.tr])),((10,0,2),some (.arr true 1 [aa first,aa second])),((10,0,3),some (.arr true 1 ((kC (uj p b i0 i1 first second) f++kT ln.L0 base (im.ME.take q.1)).map aa)))],[10,8,5]⟩,fun q=>im.ME.length-q.1,⟨0,o_⟩,?_,?_⟩
    ·repeat' ((conv=>whnf);first|apply Wx|apply W6|apply oi|apply fi|intro h|exact Y7|refine e_ rfl ?_)
     all_goals try exact⟨by simp[Ie]⟩
    intro⟨k,hk⟩;dsimp only;by_cases NL:k<im.ME.length
    ·obtain⟨y,hy⟩:=ae NL;have hks:k<(im.ME.map My.tr).length:=o_;have VL:(im.ME.map My.tr)[k]?=some y.tr:=ab hy;have VA:=FA (nm:=ln.L0) (b:=base) hy;have ZP:=wj ln.L0 base (im.ME.take k);rw[j8]at ZP
     cases hq:(y.L0==ln.L0)with
     | true=>
      rw[hq,c7 rfl]at VA;repeat' ((conv=>whnf);first|apply Wx|apply W6|apply oi|apply fi|intro h|refine cl gF ?_|refine⟨j,rfl,Ol,?_⟩|refine⟨_,TW,?_⟩|refine⟨k,y.tr,rfl,VL,?_⟩|refine⟨f,rfl,NF,?_⟩|refine⟨_,Wq,?_⟩|refine⟨g,ln.tr,rfl,ab Zh,?_⟩|refine⟨j,rfl,YA,?_⟩|refine⟨_,SM,?_⟩|exact Y5|refine e_ rfl ?_)
      all_goals try(exfalso;rw[hq]at h;cases h;done)
      all_goals try exact Q1
      conv=>whnf
      refine⟨⟨k+1,o_⟩,?_,KD⟩;repeat' ((conv=>whnf);first|apply Wx|apply W6|apply oi|apply fi|intro h|exact Y8|refine e_ rfl ?_)
      all_goals exact⟨by dsimp only;rw[VA];simp[j9,aa]⟩
     | false=>
      rw[hq,b8 s_]at VA;repeat' ((conv=>whnf);first|apply Wx|apply W6|apply oi|apply fi|intro h|refine cl gF ?_|refine⟨j,rfl,Ol,?_⟩|refine⟨_,TW,?_⟩|refine⟨k,y.tr,rfl,VL,?_⟩|refine⟨f,rfl,NF,?_⟩|refine⟨_,Wq,?_⟩|refine⟨g,ln.tr,rfl,ab Zh,?_⟩|refine⟨j,rfl,YA,?_⟩|refine⟨_,SM,?_⟩|exact Y5|refine e_ rfl ?_)
      all_goals try(exfalso;rw[hq]at h;cases h;done)
      conv=>whnf
      refine⟨⟨k+1,o_⟩,?_,KD⟩;repeat' ((conv=>whnf);first|apply Wx|apply W6|apply oi|apply fi|intro h|exact Y8|refine e_ rfl ?_)
      all_goals exact⟨by dsimp only;rw[VA,m7]⟩
    ·obtain rfl:k=im.ME.length:=o_;rw[i7 (d8 _),<-RJ];repeat' ((conv=>whnf);first|apply Wx|apply W6|apply oi|apply fi|intro h|refine⟨j,rfl,Ol,?_⟩|refine⟨_,TW,?_⟩|exact Y5|refine e_ rfl ?_)
     conv=>whnf
     refine⟨⟨f+1,o_⟩,?_,KD⟩;exact Z6
   ·obtain rfl:f=(aA p).length:=o_;rw[ON]
    cases OI:bF cd with
    | true=>
     rw[OI]at NY;rw[c7 rfl];rw[Re]at NY;simp only[oSp,Re]
     exact V90
    | false=>rw[OI]at NY;rw[b8 s_];rw[Re]at NY;exact V90
def tQ (R:List Mz)(d:Nat):Prop:=0<R.length/\R.length<=5^d/\∀t∈R,t.L0.length<=8
abbrev Jq (vars:List (List UInt8))(c:Mj):List (Sim.Id×AO):=fB c++[((0,0,1),.arr false 1 (vars.map aq))]
abbrev Da (m:Int)(names:List (List UInt8))(ars:List Int):List AV:=[gO,tI .i64 m,.r (.c (.own (0,0,1))),vN names,.r (.c (.t (.lst 1 (ars.map aa))))]
abbrev Hg (vars:List (List UInt8))(c:Mj)(R:List Mz):List (Sim.Id×AO):=Jq vars c++[((1,0,0),.arr false 3 (R.map Mz.tr))]
theorem wQ (d:Nat):1<=5^d:=Nat.one_le_pow _ _ o_
theorem JD {d:Nat}(h:d<=8):5^d<=390625:=Nat.pow_le_pow_right (n:=5) o_ h
theorem V107{p:Prop}(h:p:=by
 rw[Int.tdiv_eq_ediv_of_nonneg h0,c6 _ o_];have:(2:Int)^(d+1)=2*2^d:=by rw[Int.pow_succ];omega
 omega):p:=h
theorem IK {m:Int}{d:Nat}(h0:0<=m)(h1:m<2^(d+1))(hb:m<=1000):0<=IntKind.i64.wrap (m.tdiv 4)/\IntKind.i64.wrap (m.tdiv 4)<2^d/\IntKind.i64.wrap (m.tdiv 4)<=1000:=by exact V107
def uu (P:Mj->List Mz->Mj->Prop)(d:Nat):Nat->Mj->List Mz->Mj->List Mz->Prop
 | 0,c,acc,c',Ok=>c'=c/\Ok=acc
 | k+1,c,acc,c',Ok=>∃R c1,tQ R d/\c1.b=c.b/\c1.ok/\P c R c1/\uu P d k c1 (acc++R) c' Ok
theorem Cu {P:Mj->List Mz->Mj->Prop}{d:Nat}(ih:∀c:Mj,c.ok->∃R c1,tQ R d/\c1.b=c.b/\c1.ok/\P c R c1):∀(k:Nat) (c:Mj) (acc:List Mz),c.ok->∃c' Ok,uu P d k c acc c' Ok
 | 0,c,acc,_=>⟨c,acc,rfl,rfl⟩
 | k+1,c,acc,hc=>by
  obtain⟨R,c1,h1,h2,h3,h4⟩:=ih c hc;obtain⟨c',Ok,h5⟩:=Cu ih k c1 (acc++R) h3;exact⟨c',Ok,R,c1,h1,h2,h3,h4,h5⟩
theorem ta {P:Mj->List Mz->Mj->Prop}{d:Nat}:∀{k:Nat} {c c':Mj} {acc Ok:List Mz},uu P d k c acc c' Ok->c.ok->c'.b=c.b/\c'.ok/\acc.length<=Ok.length/\Ok.length<=acc.length+k*5^d/\((∀t∈acc,t.L0.length<=8)->∀t∈Ok,t.L0.length<=8)
 | 0,c,c',acc,Ok,h,hc=>by
  obtain⟨rfl,rfl⟩:=h
  exact⟨rfl,hc,d8 _,o_,fun h=>h⟩
 | k+1,c,c',acc,Ok,h,hc=>by
  obtain⟨R,c1,h1,h2,h3,_,h5⟩:=h;obtain⟨g1,g2,g3,g4,g5⟩:=ta h5 h3;rw[c8]at g3 g4;have hR:=h1.2.1;refine⟨g1.trans h2,g2,o_,by rw[p8];omega,fun H=>g5 fun t ht=>?_⟩;rcases f0.1 ht with ht|ht
  ·exact H t ht
  ·exact h1.2.2 t ht
theorem Jv {m:Int}{d:Nat}(h0:0<=m)(h1:m<2^(d+1))(hb:m<=1000):0<=IntKind.i64.wrap (m.tdiv 2)/\IntKind.i64.wrap (m.tdiv 2)<2^d/\IntKind.i64.wrap (m.tdiv 2)<=1000:=by exact V107
theorem Q21{p:Prop}(h:p:=by exfalso;simp at h;omega):p:=h
theorem gw (vars names:List (List UInt8))(ars:List Int)(hv:vars.length<=100)(hn:names.length<=100)(ha:ars.length=names.length)(TK:∀a∈ars,0<=a/\a<=4)(TR:∀s∈vars,s.length<=8)(TX:∀s∈names,s.length<=8):
  ∀(d:Nat) (m:Int) (c:Mj),d<=8->0<=m->m<2^d->m<=1000->c.ok->∃(R:List Mz) (c':Mj),tQ R d/\c'.b=c.b/\c'.ok/\bE prog 254 (Da m names ars) (Jq vars c) (.r (.c (.own (1,0,0)))) (Hg vars c' R)
 | d,m,c,hd,h0,h1,hm,hc=>by
  have p5d:=JD hd;have P9:(vars.map aq).length=vars.length:=s_;have Ox:(names.map aq).length=names.length:=s_;obtain⟨k,c1,k1,_,b1,o1,g1⟩:=bM c 10 hc;by_cases aas:2<m/\k<5
  ·cases d with
   | zero=>omega
   | succ d=>
    obtain⟨kd,c2,k2,_,b2,o2,g2⟩:=bM c1 5 o1;obtain⟨q1,q2,q3⟩:=Jv h0 h1 hm;obtain⟨R3,c3,t3,b3,o3,g3⟩:=gw vars names ars hv hn ha TK TR TX d _ c2 o_ q1 q2 q3 o2;obtain⟨R4,c4,t4,b4,o4,g4⟩:=gw vars names ars hv hn ha TK TR TX d _ c3 o_ q1 q2 q3 o3;have p5:=wQ d;have p5':5^(d+1)=5*5^d:=(by rw[G8];omega);have t3l:=t3.2.1;have t4l:=t4.2.1;refine⟨⟨2+kd,0,[]⟩::(R3++R4),c4,⟨s_,?_,?_⟩,((b4.trans b3).trans b2).trans b1,o4,?_⟩
    ·have:=t3.2.1;have:=t4.2.1;rw[d5,c8];omega
    ·intro t ht;rcases d7.1 ht with rfl|ht
     ·simp
     ·rcases f0.1 ht with ht|ht
      ·exact t3.2.2 t ht
      ·exact t4.2.2 t ht
    ·refine aD hΓ aE func254 rfl d_ rfl rfl ?_;repeat' ((conv=>whnf);first|apply Wx|apply W6|apply oi|apply fi|intro h|exact Y7|refine e_ rfl ?_)
     refine cg (g1) ?_;repeat' ((conv=>whnf);first|apply Wx|apply W6|apply oi|apply fi|intro h|exact Y5|refine e_ rfl ?_)
     all_goals try exact Q21
     refine cg (g2) ?_;repeat' ((conv=>whnf);first|apply Wx|apply W6|apply oi|apply fi|intro h|exact Y7|refine e_ rfl ?_)
     refine cg (g3) ?_;repeat' ((conv=>whnf);first|apply Wx|apply W6|apply oi|apply fi|intro h|exact Y7|refine e_ rfl ?_)
     all_goals try exact Q1
     refine cg (g4) ?_;repeat' ((conv=>whnf);first|apply Wx|apply W6|apply oi|apply fi|intro h|exact Y7|refine e_ rfl ?_)
     all_goals try exact Q1
     all_goals exact⟨by rw[c6 _ o_];simp[Mz.tr]⟩
  ·by_cases UZ:0<names.length/\1<m/\k<8
   ·cases d with
    | zero=>omega
    | succ d=>
     obtain⟨OD,RA,hc3⟩:=UZ;obtain⟨f,c2,kf,_,b2,o2,g2⟩:=bM c1 ((names.map aq).length:Int) o1;rw[Ox]at kf;have QW:f<names.length:=(by have:=kf o_;omega);obtain⟨nm,OE⟩:=ae QW;obtain⟨a,Wb⟩:=ae (l:=ars) (k:=f) o_;have Zw:=TK a (c9 Wb);obtain⟨an,rfl⟩:=gt Zw.1;obtain⟨q1,q2,q3⟩:=IK h0 h1 hm;have ih:=fun c hc=>gw vars names ars hv hn ha TK TR TX d (IntKind.i64.wrap (m.tdiv 4)) c o_ q1 q2 q3 hc;have p5:=wQ d;have p5':5^(d+1)=5*5^d:=(by rw[G8];omega);obtain⟨c',R,Of⟩:=Cu (P:=fun c R c'=>bE prog 254 (Da (IntKind.i64.wrap (m.tdiv 4)) names ars) (Jq vars c) (.r (.c (.own (1,0,0)))) (Hg vars c' R)) (d:=d) ih an c2 [⟨7,an,nm⟩] o2;have U9:=ta Of o2;refine⟨R,c',⟨by have:=U9.2.2.1;simp at this;omega,by have:=U9.2.2.2.1;have h4:an*5^d<=4*5^d:=l8 _ o_;simp at this;omega,U9.2.2.2.2 (by intro t ht;simp at ht;subst ht;exact TX nm (c9 OE))⟩,(U9.1.trans b2).trans b1,U9.2.1,?_⟩;refine aD hΓ aE func254 rfl d_ rfl rfl ?_;repeat' ((conv=>whnf);first|apply Wx|apply W6|apply oi|apply fi|intro h|exact Y7|refine e_ rfl ?_)
     refine cg (g1) ?_;repeat' ((conv=>whnf);first|apply Wx|apply W6|apply oi|apply fi|intro h|exact Y5|refine e_ rfl ?_)
     all_goals(
      refine cg (g2) ?_;have OV:(ars.map aa).length=ars.length:=s_;repeat' ((conv=>whnf);first|apply Wx|apply W6|apply oi|apply fi|intro h|refine⟨f,(aa an),rfl,ab Wb,?_⟩|refine⟨f,(aq nm),rfl,ab OE,?_⟩|exact Y7|refine e_ rfl ?_)
      conv=>whnf
      refine⟨{q:Nat×Mj×List Mz//q.1<=an/\q.2.1.ok/\q.2.2.length<=1+q.1*5^d/\uu (fun c R c'=>bE prog 254 (Da (IntKind.i64.wrap (m.tdiv 4)) names ars) (Jq vars c) (.r (.c (.own (1,0,0)))) (Hg vars c' R)) d (an-q.1) q.2.1 q.2.2 c' R},fun q=>⟨[(0,gO),(1,tI .i64 m),(2,.r (.c (.own (0,0,1)))),(3,vN names),(4,.r (.c (.t (.lst 1 (ars.map aa))))),(13,tI .i64 (f:Int)),(14,.r (.c (.own (14,0,0)))),(15,tI .i64 (q.1.1:Int))],[((0,0,0),some (.box [.t (.lst 1 (q.1.2.1.b.map aT)),.t (.int .i64 q.1.2.1.i),.t (.int .i64 q.1.2.1.h)])),((0,0,1),some (.arr false 1 (vars.map aq))),((14,0,0),some (.arr false 3 (q.1.2.2.map Mz.tr)))],[14,0]⟩,fun q=>an-q.1.1,⟨(0,c2,[⟨7,an,nm⟩]),g_,o2,s_,Of⟩,?_,?_⟩
      ·exact Z2
      intro⟨⟨i,ci,acc⟩,r1,r2,r3,r4⟩;dsimp only at r1 r2 r3 r4⊢;by_cases M3:i<an
      ·obtain⟨w,hw⟩:∃w,an-i=w+1:=⟨an-i-1,o_⟩;rw[hw]at r4;obtain⟨R5,c5,t5,b5,o5,g5,r5⟩:=r4;have t5l:=t5.2.1;have i5:i*5^d<=4*5^d:=l8 _ o_;have i6:(i+1)*5^d=i*5^d+5^d:=(by rw[p8];omega);repeat' ((conv=>whnf);first|apply Wx|apply W6|apply oi|apply fi|intro h|refine⟨f,(aa an),rfl,ab Wb,?_⟩|exact Y5|refine e_ rfl ?_)
       refine cg (g5) ?_;repeat' ((conv=>whnf);first|apply Wx|apply W6|apply oi|apply fi|intro h|exact Y7|refine e_ rfl ?_)
       all_goals try exact Q1
       conv=>whnf
       refine⟨⟨(i+1,c5,acc++R5),g_,o5,by simp;omega,by rw[show an-(i+1)=w by omega];exact r5⟩,?_,KD⟩;repeat' ((conv=>whnf);first|apply Wx|apply W6|apply oi|apply fi|intro h|exact Y6|refine e_ rfl ?_)
       all_goals exact⟨s_⟩
      ·rw[show an-i=0 by omega]at r4;obtain⟨rfl,rfl⟩:=r4;repeat' ((conv=>whnf);first|apply Wx|apply W6|apply oi|apply fi|intro h|refine⟨f,(aa an),rfl,ab Wb,?_⟩|exact Y5|refine e_ rfl ?_)
     )
   ·have pick:∀c:Mj,c.ok->∃(v:Int) (c':Mj),c'.b=c.b/\c'.ok/\bE prog 129 [gO,.r (.c (.own (0,0,1)))] (fB c++[((0,0,1),.arr false 1 (([0,1,2,3,10,999]:List Int).map aa))]) (tI .i64 v) (fB c'++[((0,0,1),.arr false 1 (([0,1,2,3,10,999]:List Int).map aa))]):=fun c hc=>by
     obtain⟨v,c',_,b,o,g⟩:=jF c [0,1,2,3,10,999] hc d_ d_;exact⟨v,c',b,o,g⟩
    have p5:=wQ d;have P3:∀(t:Mz),t.L0.length<=8->tQ [t] d:=fun t ht=>⟨s_,by simpa using p5,by intro u hu;simp at hu;subst hu;exact ht⟩;by_cases ZD:0<vars.length
    ·obtain⟨o,c2,b2,o2,g2⟩:=dP c1 2 o1
     cases o with
     | true=>
      obtain⟨f,c3,kf,_,b3,o3,g3⟩:=bM c2 ((vars.map aq).length:Int) o2;rw[P9]at kf;have QW:f<vars.length:=(by have:=kf o_;omega);obtain⟨nm,OE⟩:=ae QW;have Nh:f<(vars.map aq).length:=(by rw[P9];exact QW);refine⟨[⟨1,0,nm⟩],c3,P3 _ (TR nm (c9 OE)),(b3.trans b2).trans b1,o3,?_⟩;refine aD hΓ aE func254 rfl d_ rfl rfl ?_;repeat' ((conv=>whnf);first|apply Wx|apply W6|apply oi|apply fi|intro h|exact Y7|refine e_ rfl ?_)
      refine cg (g1) ?_;repeat' ((conv=>whnf);first|apply Wx|apply W6|apply oi|apply fi|intro h|exact Y5|refine e_ rfl ?_)
      all_goals try exact Q21
      all_goals(
       refine cg (g2) ?_;repeat' ((conv=>whnf);first|apply Wx|apply W6|apply oi|apply fi|intro h|exact Y7|refine e_ rfl ?_)
       refine cg (g3) ?_;repeat' ((conv=>whnf);first|apply Wx|apply W6|apply oi|apply fi|intro h|refine⟨f,rfl,Nh,?_⟩|refine⟨(aq nm),ab OE,?_⟩|exact Y7|refine e_ rfl ?_)
      )
     | false=>
      obtain⟨v,c3,b3,o3,g3⟩:=pick c2 o2;refine⟨[⟨0,v,[]⟩],c3,P3 _ s_,(b3.trans b2).trans b1,o3,?_⟩;refine aD hΓ aE func254 rfl d_ rfl rfl ?_;repeat' ((conv=>whnf);first|apply Wx|apply W6|apply oi|apply fi|intro h|exact Y7|refine e_ rfl ?_)
      refine cg (g1) ?_;repeat' ((conv=>whnf);first|apply Wx|apply W6|apply oi|apply fi|intro h|exact Y5|refine e_ rfl ?_)
      all_goals try exact Q21
      all_goals(
       refine cg (g2) ?_;repeat' ((conv=>whnf);first|apply Wx|apply W6|apply oi|apply fi|intro h|exact Y7|refine e_ rfl ?_)
       refine cg (g3) ?_;exact Z2
      )
    ·obtain⟨v,c3,b3,o3,g3⟩:=pick c1 o1;refine⟨[⟨0,v,[]⟩],c3,P3 _ s_,b3.trans b1,o3,?_⟩;refine aD hΓ aE func254 rfl d_ rfl rfl ?_;repeat' ((conv=>whnf);first|apply Wx|apply W6|apply oi|apply fi|intro h|exact Y7|refine e_ rfl ?_)
     refine cg (g1) ?_;repeat' ((conv=>whnf);first|apply Wx|apply W6|apply oi|apply fi|intro h|exact Y5|refine e_ rfl ?_)
     all_goals try exact Q21
     all_goals(
      refine cg (g3) ?_;exact Z2
     )
termination_by d=>d
def It (h:Int)(u:UInt8):Int:=IntKind.i64.wrap ((BitVec.ofInt IntKind.i64.bits (IntKind.i64.wrap (IntKind.i64.wrap (IntKind.i64.wrap (h*131)+IntKind.i64.wrap (u.toNat:Int))+7)) &&& BitVec.ofInt IntKind.i64.bits 1073741823).toNat:Int)
def Im (code:List UInt8):Int:=(code.take 4000).foldl It (IntKind.i64.wrap (33147+((code.map aT).length:Int)))
theorem xE (code:List UInt8)(hl:code.length<=1048576):bE prog 57 [.r (.c (.t (.lst 1 (code.map aT))))] [] (.r (.c (.ptr (1,0,0) 0))) [((1,0,0),.box [.t (.lst 1 (code.map aT)),.t (.int .i64 0),.t (.int .i64 (Im code))])]:=by
 refine aD hΓ aE func57 rfl d_ rfl rfl ?_;have M0:(code.map aT).length=code.length:=s_;obtain⟨H,hH⟩:∃H,Im code=H:=⟨_,rfl⟩;rw[hH];have ht:(code.take 4000).length<=4000:=by simp;omega
 repeat' ((conv=>whnf);first|apply Wx|apply W6|apply oi|apply fi|intro h|exact Y7|refine e_ rfl ?_)
 conv=>whnf
 refine⟨{q:Nat×Int//q.1<=code.length/\((code.take 4000).drop q.1).foldl It q.2=H},fun q=>⟨[(0,.r (.c (.t (.lst 1 (code.map aT))))),(3,tI .i64 q.1.2),(4,tI .i64 (q.1.1:Int))],[],[0]⟩,fun q=>code.length-q.1.1,⟨(0,IntKind.i64.wrap (33147+((code.map aT).length:Int))),g_,hH⟩,?_,?_⟩
 ·exact Z2
 intro⟨⟨i,hv⟩,hi,hr⟩;dsimp only at hi hr⊢;by_cases M3:i<code.length/\i<4000
 ·obtain⟨u,hu⟩:=ae M3.1;rw[cJ (x:=u) (by rw[n3,c7 M3.2];exact hu),F1]at hr;repeat' ((conv=>whnf);first|apply Wx|apply W6|apply oi|apply fi|intro h|refine⟨i,(aT u),rfl,ab hu,?_⟩|exact Y5|refine e_ rfl ?_)
  conv=>whnf
  refine⟨⟨(i+1,It hv u),g_,hr⟩,?_,KD⟩;repeat' ((conv=>whnf);first|apply Wx|apply W6|apply oi|apply fi|intro h|exact Y6|refine e_ rfl ?_)
  all_goals exact⟨rfl⟩
 ·rw[m9 aab]at hr;have hr:hv=H:=hr;subst hr;exact Z7
abbrev Ln (vars names:List (List UInt8))(ars:List Int)(c:Mj):List (Sim.Id×AO):=[((0,0,0),.box [.ptr (0,0,1) 0,.own (0,0,2),.t (.lst 1 (names.map aq)),.t (.lst 1 (ars.map aa))]),((0,0,1),.box [.t (.lst 1 (c.b.map aT)),.t (.int .i64 c.i),.t (.int .i64 c.h)]),((0,0,2),.arr false 1 (vars.map aq))]
theorem pY (vars names:List (List UInt8))(ars:List Int)(hv:vars.length<=100)(hn:names.length<=100)(ha:ars.length=names.length)(TK:∀a∈ars,0<=a/\a<=4)(TR:∀s∈vars,s.length<=8)(TX:∀s∈names,s.length<=8)
  (d:Nat) (m:Int) (c:Mj) (hd:d<=8) (h0:0<=m) (h1:m<2^d) (hm:m<=1000) (hc:c.ok):∃(R:List Mz) (c':Mj),tQ R d/\c'.b=c.b/\c'.ok/\bE prog 227 [gO,tI .i64 m] (Ln vars names ars c) (.r (.c (.own (1,0,0)))) (Ln vars names ars c'++[((1,0,0),.arr false 3 (R.map Mz.tr))]):=by
 obtain⟨R,c',t1,b1,o1,g1⟩:=gw vars names ars hv hn ha TK TR TX d m c hd h0 h1 hm hc;refine⟨R,c',t1,b1,o1,?_⟩;refine aD hΓ aE func227 rfl d_ rfl rfl ?_;repeat' ((conv=>whnf);first|apply Wx|apply W6|apply oi|apply fi|intro h|exact Y7|refine e_ rfl ?_)
 refine cg (g1) ?_;exact Z2
noncomputable section
open Classical (propDecidable)
attribute [local instance] propDecidable
def cn (n:Int)(c:Mj):Nat×Mj:=if h:c.ok then(Classical.choose (bM c n h),Classical.choose (l6 (bM c n h)))else(0,c)
theorem bX {c:Mj}(h:c.ok)(n:Int):(0<n->((cn n c).1:Int)<n)/\(cn n c).2.b=c.b/\(cn n c).2.ok/\bE prog 130 [gO,tI .i64 n] (fB c) (tI .i64 (cn n c).1) (fB (cn n c).2):=by rw[cn,dif_pos h];have:=l6 (l6 (bM c n h));exact⟨this.1,this.2.2.1,this.2.2.2.1,this.2.2.2.2⟩
def jE (n:Int)(c:Mj):Bool×Mj:=if h:c.ok then(Classical.choose (dP c n h),Classical.choose (l6 (dP c n h)))else(false,c)
theorem gY {c:Mj}(h:c.ok)(n:Int):(jE n c).2.b=c.b/\(jE n c).2.ok/\bE prog 171 [gO,tI .i64 n] (fB c) (tB (jE n c).1) (fB (jE n c).2):=by rw[jE,dif_pos h];exact l6 (l6 (dP c n h))
structure GP where
 vars:List (List UInt8)
 names:List (List UInt8)
 ars:List Int
structure GP.ok (G:GP):Prop where
 v1:0<G.vars.length
 v:G.vars.length<=100
 n:G.names.length<=100
 a:G.ars.length=G.names.length
 a4:∀a∈G.ars,0<=a/\a<=4
 v8:∀s∈G.vars,s.length<=8
 n8:∀s∈G.names,s.length<=8
abbrev gH (G:GP)(c:Mj):List (Sim.Id×AO):=Ln G.vars G.names G.ars c
theorem gex {G:GP}(hG:G.ok){c:Mj}(hc:c.ok)(m:Nat)(hm:m<8):∃(R:List Mz) (c':Mj),tQ R 3/\c'.b=c.b/\c'.ok/\bE prog 227 [gO,tI .i64 (m:Int)] (gH G c) (.r (.c (.own (1,0,0)))) (gH G c'++[((1,0,0),.arr false 3 (R.map Mz.tr))]):=
 pY G.vars G.names G.ars hG.v hG.n hG.a hG.a4 hG.v8 hG.n8 3 (m:Int) c o_ o_ (by show(m:Int)<8;omega) o_ hc
def exV (G:GP)(m:Nat)(c:Mj):List Mz×Mj:=if h:G.ok/\c.ok/\m<8 then(Classical.choose (gex h.1 h.2.1 m h.2.2),Classical.choose (l6 (gex h.1 h.2.1 m h.2.2)))else([],c)
theorem eE {G:GP}(hG:G.ok){c:Mj}(hc:c.ok)(m:Nat)(hm:m<8):tQ (exV G m c).1 3/\(exV G m c).2.b=c.b/\(exV G m c).2.ok/\bE prog 227 [gO,tI .i64 (m:Int)] (gH G c) (.r (.c (.own (1,0,0)))) (gH G (exV G m c).2++[((1,0,0),.arr false 3 ((exV G m c).1.map Mz.tr))]):=by rw[exV,dif_pos ⟨hG,hc,hm⟩];exact l6 (l6 (gex hG hc m hm))
def jA (G:GP)(rc:Nat->Mj->List Mq×Mj)(dp:Bool)(c:Mj):List Mq×Mj:=
 let k:=(cn 9 c).1
 let c1:=(cn 9 c).2
 if k<4 then
  let v:=cn G.vars.length c1
  let e:=exV G 6 v.2
  ([⟨1,G.vars[v.1]?.getD [],[],e.1⟩],e.2)
 else if k<6 then
  let e:=exV G 5 c1
  ([⟨2,[],[],e.1⟩],e.2)
 else if k=6/\dp=true then
  let e:=exV G 4 c1
  let t:=cn 2 e.2
  let B:=rc (1+t.1) t.2
  let o:=jE 2 B.2
  if o.1=true then
   let E:=rc 1 o.2
   (⟨3,[],[],e.1⟩::(B.1++(⟨4,[],[],[]⟩::(E.1++[⟨7,[],[],[]⟩]))),E.2)
  else(⟨3,[],[],e.1⟩::(B.1++[⟨7,[],[],[]⟩]),o.2)
 else if k=7/\dp=true then
  let t:=cn 3 c1
  let B:=rc 1 t.2
  (⟨5,[],[],[⟨5,0,[]⟩,⟨1,0,[105]⟩,⟨0,(1+t.1:Nat),[]⟩]⟩::(B.1++[⟨1,[105],[],[⟨2,0,[]⟩,⟨1,0,[105]⟩,⟨0,1,[]⟩]⟩,⟨7,[],[],[]⟩]),B.2)
 else
  let o:=jE 3 c1
  if o.1=true then
   let e:=exV G 4 o.2
   ([⟨6,[],[],e.1⟩],e.2)
  else([],o.2)
def mn (G:GP)(rc:Nat->Mj->List Mq×Mj)(dp:Bool):Nat->Mj->List Mq×Mj
 | 0,c=>([],c)
 | n+1,c=>((jA G rc dp c).1++(mn G rc dp n (jA G rc dp c).2).1,(mn G rc dp n (jA G rc dp c).2).2)
def sK (G:GP):Nat->Nat->Mj->List Mq×Mj
 | 0=>mn G (fun _ c=>([],c)) false
 | d+1=>mn G (sK G d) true
end
def sB:Nat->Nat
 | 0=>1
 | d+1=>3+3*sB d
structure BL (x:Mq):Prop where
 name:x.L0.length<=8
 args:x.L9=[]
 len:x.L5.length<=125
 tok:∀t∈x.L5,t.L0.length<=8
 kind:1<=x.J5/\x.J5<=7
structure RcOk (s:Nat) (rc:Nat->Mj->List Mq×Mj):Prop where
 len:∀n c,c.ok->(rc n c).1.length<=n*s
 b:∀n c,c.ok->(rc n c).2.b=c.b
 ok:∀n c,c.ok->(rc n c).2.ok
 bl:∀n c,c.ok->∀x∈(rc n c).1,BL x
theorem yV {k:Int}{n:List UInt8}{e:List Mz}(hn:n.length<=8)(h:tQ e 3)(hk:1<=k/\k<=7:=by omega):BL ⟨k,n,[],e⟩:=⟨hn,rfl,h.2.1,h.2.2,hk⟩
theorem vc {k:Int}(hk:1<=k/\k<=7:=by omega):BL ⟨k,[],[],[]⟩:=⟨s_,rfl,s_,s_,hk⟩
theorem zl {G:GP}(hG:G.ok){s:Nat}{rc:Nat->Mj->List Mq×Mj}{dp:Bool}(h:dp=true->RcOk s rc){c:Mj}(hc:c.ok):
  (jA G rc dp c).1.length<=3+3*s/\(dp=false->(jA G rc dp c).1.length<=1)/\(jA G rc dp c).2.b=c.b/\(jA G rc dp c).2.ok/\∀x∈(jA G rc dp c).1,BL x:=by
 obtain⟨k1,b1,o1,_⟩:=bX hc 9;unfold jA;dsimp only
 generalize(cn 9 c).1=k at *
 generalize(cn 9 c).2=c1 at *
 split
 ·obtain⟨k2,b2,o2,_⟩:=bX o1 (G.vars.length:Int);obtain⟨t3,b3,o3,_⟩:=eE hG o2 6 o_;refine⟨by simp;omega,fun _=>s_,(b3.trans b2).trans b1,o3,fun x hx=>?_⟩;simp only[t8]at hx;subst hx;refine yV ?_ t3
  cases hv:G.vars[(cn (G.vars.length:Int) c1).1]? with|none=>simp|some v=>exact hG.v8 v (c9 hv)
 split
 ·obtain⟨t3,b3,o3,_⟩:=eE hG o1 5 o_;refine⟨by simp;omega,fun _=>s_,b3.trans b1,o3,fun x hx=>?_⟩;simp only[t8]at hx;subst hx;exact yV s_ t3
 split
 ·rename_i hk;have hr:=h hk.2;obtain⟨t3,b3,o3,_⟩:=eE hG o1 4 o_;obtain⟨k4,b4,o4,_⟩:=bX o3 2;have hl:=hr.len (1+(cn 2 (exV G 4 c1).2).1) _ o4;have OL:=hr.b (1+(cn 2 (exV G 4 c1).2).1) _ o4;have RE:=hr.ok (1+(cn 2 (exV G 4 c1).2).1) _ o4;have P4:=hr.bl (1+(cn 2 (exV G 4 c1).2).1) _ o4;have Vq:=k4 o_;have OQ:(rc (1+(cn 2 (exV G 4 c1).2).1) (cn 2 (exV G 4 c1).2).2).1.length<=2*s:=v6 hl (l8 _ o_)
  generalize rc (1+(cn 2 (exV G 4 c1).2).1) (cn 2 (exV G 4 c1).2).2=B at *
  obtain⟨b5,o5,_⟩:=gY RE 2;split
  ·have WG:=hr.len 1 _ o5;have RQ:=hr.b 1 _ o5;have WD:=hr.ok 1 _ o5;have X6:=hr.bl 1 _ o5
   generalize rc 1 (jE 2 B.2).2=E at *
   refine⟨by simp;omega,(fun e=>by rw[e]at hk;cases hk.2),((((RQ.trans b5).trans OL).trans b4).trans b3).trans b1,WD,fun x hx=>?_⟩;simp only[d7,f0,l9,or_false]at hx;rcases hx with rfl|hx|rfl|hx|rfl
   ·exact yV s_ t3
   ·exact P4 x hx
   ·exact vc
   ·exact X6 x hx
   ·exact vc
  ·refine⟨by simp;omega,(fun e=>by rw[e]at hk;cases hk.2),(((b5.trans OL).trans b4).trans b3).trans b1,o5,fun x hx=>?_⟩;simp only[d7,f0,l9,or_false]at hx;rcases hx with rfl|hx|rfl
   ·exact yV s_ t3
   ·exact P4 x hx
   ·exact vc
 split
 ·rename_i hk;have hr:=h hk.2;obtain⟨k4,b4,o4,_⟩:=bX o1 3;have WG:=hr.len 1 _ o4;have RQ:=hr.b 1 _ o4;have WD:=hr.ok 1 _ o4;have X6:=hr.bl 1 _ o4
  generalize rc 1 (cn 3 c1).2=B at *
  refine⟨by simp;omega,(fun e=>by rw[e]at hk;cases hk.2),(RQ.trans b4).trans b1,WD,fun x hx=>?_⟩;simp only[d7,f0,l9,or_false]at hx;rcases hx with rfl|hx|rfl|rfl
  ·exact⟨s_,rfl,s_,s_,s_⟩
  ·exact X6 x hx
  ·exact⟨s_,rfl,s_,s_,s_⟩
  ·exact vc
 ·obtain⟨b5,o5,_⟩:=gY o1 3;split
  ·obtain⟨t3,b3,o3,_⟩:=eE hG o5 4 o_;refine⟨by simp;omega,fun _=>s_,(b3.trans b5).trans b1,o3,fun x hx=>?_⟩;simp only[t8]at hx;subst hx;exact yV s_ t3
  ·exact⟨s_,fun _=>s_,b5.trans b1,o5,fun x hx=>by cases hx⟩
theorem IB {G:GP}{rc:Nat->Mj->List Mq×Mj}{dp:Bool}{s:Nat}(hs:∀c:Mj,c.ok->(jA G rc dp c).1.length<=s/\(jA G rc dp c).2.b=c.b/\(jA G rc dp c).2.ok/\∀x∈(jA G rc dp c).1,BL x):RcOk s (mn G rc dp):=by
 have key:∀n c,c.ok->(mn G rc dp n c).1.length<=n*s/\(mn G rc dp n c).2.b=c.b/\(mn G rc dp n c).2.ok/\∀x∈(mn G rc dp n c).1,BL x:=by
  intro n
  induction n with
  | zero=>exact fun c hc=>⟨by simp[mn],rfl,hc,fun x hx=>by simp[mn]at hx⟩
  | succ n ih=>
   intro c hc;obtain⟨h1,h2,h3,h4⟩:=hs c hc;obtain⟨i1,i2,i3,i4⟩:=ih _ h3;rw[mn];refine⟨by simp only[c8];rw[Nat.succ_mul];omega,i2.trans h2,i3,fun x hx=>?_⟩;rcases f0.1 hx with hx|hx
   ·exact h4 x hx
   ·exact i4 x hx
 exact⟨fun n c hc=>(key n c hc).1,fun n c hc=>(key n c hc).2.1,fun n c hc=>(key n c hc).2.2.1,fun n c hc=>(key n c hc).2.2.2⟩
theorem ob {G:GP}(hG:G.ok):∀d,RcOk (sB d) (sK G d)
 | 0=>IB fun c hc=>by
  have:=zl hG (s:=0) (rc:=fun _ c=>([],c)) (dp:=false) (fun e=>by cases e) hc
  exact⟨this.2.1 rfl,this.2.2⟩
 | d+1=>IB fun c hc=>by
  have:=zl hG (dp:=true) (fun _=>ob hG d) hc;exact⟨this.1,this.2.2⟩
end Go.Proofs.P
namespace Go.Proofs.P
open Go.Sim Tryz
def dr (x:Mq):List DC:=match x.L5 with
 | []=>[.t (.int .i64 x.J5),.t (.str x.L0),.t (.lst 0 []),.t (.lst 0 [])]
 | t::l=>[.d (.int .i64 x.J5),.d (.str x.L0),.d (.lst 0 []),.d (.lst 3 ((t::l).map Mz.tr))]
theorem rZ (k:Int)(n:List UInt8)(a:List (List UInt8)):dr ⟨k,n,a,[]⟩=[.t (.int .i64 k),.t (.str n),.t (.lst 0 []),.t (.lst 0 [])]:=rfl
theorem Je (k:Int)(n:List UInt8)(a:List (List UInt8))(t:Mz)(l:List Mz):dr ⟨k,n,a,t::l⟩=[.d (.int .i64 k),.d (.str n),.d (.lst 0 []),.d (.lst 3 ((t::l).map Mz.tr))]:=rfl
theorem mO {e:List Mz}(h:0<e.length)(k:Int)(n:List UInt8)(a:List (List UInt8)):dr ⟨k,n,a,e⟩=[.d (.int .i64 k),.d (.str n),.d (.lst 0 []),.d (.lst 3 (e.map Mz.tr))]:=by
 cases e with
 | nil=>cases h
 | cons t l=>rfl
abbrev Hf (G:GP)(n:Nat)(d:Int)(c:Mj)(R:List Mq×Mj):Prop:=bE prog 226 [gO,tI .i64 (n:Int),tI .i64 d] (gH G c) (.r (.c (.own (1,0,0)))) (gH G R.2++[((1,0,0),.dar 4 (R.1.map dr) none)])
theorem Ks {G:GP}(hG:G.ok){rc:Nat->Mj->List Mq×Mj}{dp:Bool}{s d:Nat}(hd:d<=5)(T5:dp=decide (0<d))(hs:3+3*s<=1000)(hR:dp=true->RcOk s rc)(T9:dp=true->∀n c,n<=2->c.ok->Hf G n ((d:Int)-1) c (rc n c))(n:Nat)(c:Mj)(hn:n<=4)(hc:c.ok):
  Hf G n d c (mn G rc dp n c):=by
 refine aD hΓ aE func226 rfl d_ rfl rfl ?_;obtain⟨R,c',P8⟩:∃R c',mn G rc dp n c=(R,c'):=⟨_,_,rfl⟩;rw[P8];have P9:(G.vars.map aq).length=G.vars.length:=s_;repeat' ((conv=>whnf);first|apply Wx|apply W6|apply oi|apply fi|intro h|exact Y7|refine e_ rfl ?_)
 conv=>whnf
 refine⟨{q:Nat×Mj×List Mq//q.1<=n/\q.2.1.ok/\q.2.2.length+q.1*1000<=4000/\q.2.2++(mn G rc dp q.1 q.2.1).1=R/\(mn G rc dp q.1 q.2.1).2=c'},fun q=>⟨[(0,gO),(1,tI .i64 (q.1.1:Int)),(2,tI .i64 (d:Int)),(7,.r (.c (.own (10,0,0))))],[((0,0,0),some (.box [.ptr (0,0,1) 0,.own (0,0,2),.t (.lst 1 (G.names.map aq)),.t (.lst 1 (G.ars.map aa))])),((0,0,1),some (.box [.t (.lst 1 (q.1.2.1.b.map aT)),.t (.int .i64 q.1.2.1.i),.t (.int .i64 q.1.2.1.h)])),((0,0,2),some (.arr false 1 (G.vars.map aq))),((10,0,0),some (.dar 4 (q.1.2.2.map dr) none))],[10,0]⟩,fun q=>q.1.1,⟨(n,c,[]),g_,hc,by simp;omega,by rw[P8];rfl,by rw[P8]⟩,?_,?_⟩
 ·repeat' ((conv=>whnf);first|apply Wx|apply W6|apply oi|apply fi|intro h|exact Y7|refine e_ rfl ?_)
  all_goals try exact⟨rfl⟩
 intro⟨⟨rem,ci,acc⟩,hi,OV,NA,Om,ND⟩;dsimp only at hi OV NA Om ND⊢
 cases rem with
 | zero=>
  simp only[mn,m7]at Om ND;subst Om;subst ND
  exact Z7
 | succ m=>
  rw[mn]at Om ND;dsimp only at Om ND;obtain⟨s1,_,s3,s4,_⟩:=zl hG hR OV
  generalize hS:jA G rc dp ci=S at *
  obtain⟨k1,b1,o1,g1⟩:=bX OV 9;unfold jA at hS;dsimp only at hS
  generalize cn 9 ci=q at *
  rw[<-j9]at Om;have M0:(acc++S.1).length+m*1000<=4000:=by rw[c8];omega
  by_cases X4:q.1<4
  ·rw[c7 X4]at hS;obtain⟨k2,b2,o2,g2⟩:=bX o1 (G.vars.length:Int);obtain⟨t3,b3,o3,g3⟩:=eE hG o2 6 o_
   generalize cn (G.vars.length:Int) q.2=v at *
   generalize exV G 6 v.2=e at *
   subst hS;have kv:=hG.v1;have Zq:v.1<(G.vars.map aq).length:=(by have:=k2 o_;omega);obtain⟨nm,OE⟩:=ae (l:=G.vars) (k:=v.1) o_;have Z8:(G.vars.map aq)[v.1]?=some (aq nm):=ab OE;rw[P9.symm]at g2;repeat' ((conv=>whnf);first|apply Wx|apply W6|apply oi|apply fi|intro h|exact Y7|refine e_ rfl ?_)
   refine cg (g1) ?_;repeat' ((conv=>whnf);first|apply Wx|apply W6|apply oi|apply fi|intro h|exact Y5|refine e_ rfl ?_)
   refine cg (g2) ?_;repeat' ((conv=>whnf);first|apply Wx|apply W6|apply oi|apply fi|intro h|refine⟨_,rfl,Zq,?_⟩|refine⟨_,Z8,?_⟩|exact Y7|refine e_ rfl ?_)
   refine cg (g3) ?_;repeat' ((conv=>whnf);first|apply Wx|apply W6|apply oi|apply fi|intro h|exact Y7|refine e_ rfl ?_)
   all_goals try exact Q14
   all_goals try exact Q1
   all_goals try exact Q18
   conv=>whnf
   refine⟨⟨(m,_,_),g_,s4,M0,Om,ND⟩,?_,KD⟩;repeat' ((conv=>whnf);first|apply Wx|apply W6|apply oi|apply fi|intro h|exact Y14|refine e_ rfl ?_)
   all_goals exact⟨by simp[mO t3.1,OE]⟩
  rw[b8 X4]at hS;by_cases Yb:q.1<6
  ·rw[c7 Yb]at hS;obtain⟨t3,b3,o3,g3⟩:=eE hG o1 5 o_
   generalize exV G 5 q.2=e at *
   subst hS;repeat' ((conv=>whnf);first|apply Wx|apply W6|apply oi|apply fi|intro h|exact Y7|refine e_ rfl ?_)
   refine cg (g1) ?_;repeat' ((conv=>whnf);first|apply Wx|apply W6|apply oi|apply fi|intro h|exact Y5|refine e_ rfl ?_)
   refine cg (g3) ?_;repeat' ((conv=>whnf);first|apply Wx|apply W6|apply oi|apply fi|intro h|exact Y7|refine e_ rfl ?_)
   all_goals try exact Q14
   all_goals try exact Q1
   all_goals try exact Q18
   conv=>whnf
   refine⟨⟨(m,_,_),g_,s4,M0,Om,ND⟩,?_,KD⟩;repeat' ((conv=>whnf);first|apply Wx|apply W6|apply oi|apply fi|intro h|exact Y14|refine e_ rfl ?_)
   all_goals exact⟨by simp[mO t3.1]⟩
  rw[b8 Yb]at hS;by_cases Rj:q.1=6/\dp=true
  ·rw[c7 Rj]at hS;obtain⟨Rj,Qo⟩:=Rj;have Rn:0<d:=(by rw[T5]at Qo;exact d9 Qo);have U5:=hR Qo;obtain⟨t3,b3,o3,g3⟩:=eE hG o1 4 o_
   generalize exV G 4 q.2=e at *
   obtain⟨k4,b4,o4,g4⟩:=bX o3 2
   generalize cn 2 e.2=t at *
   have g5:=T9 Qo (1+t.1) t.2 (by have:=k4 o_;omega) o4;have l5:=U5.len (1+t.1) t.2 o4;have ob5:=U5.ok (1+t.1) t.2 o4;have l5':(rc (1+t.1) t.2).1.length<=2*s:=v6 l5 (l8 _ (by have:=k4 o_;omega))
   generalize rc (1+t.1) t.2=B at *
   obtain⟨b6,o6,g6⟩:=gY ob5 2
   generalize jE 2 B.2=o at *
   cases ho:o.1 with
   | true=>
    rw[c7 ho]at hS;rw[ho]at g6;have g7:=T9 Qo 1 o.2 o_ o6;have l7:=U5.len 1 o.2 o6
    generalize rc 1 o.2=E at *
    subst hS;repeat' ((conv=>whnf);first|apply Wx|apply W6|apply oi|apply fi|intro h|exact Y7|refine e_ rfl ?_)
    refine cg (g1) ?_;repeat' ((conv=>whnf);first|apply Wx|apply W6|apply oi|apply fi|intro h|exact Y13|refine e_ rfl ?_)
    refine cg (g3) ?_;repeat' ((conv=>whnf);first|apply Wx|apply W6|apply oi|apply fi|intro h|exact Y7|refine e_ rfl ?_)
    all_goals try exact Q14
    all_goals try exact Q1
    all_goals try exact Q18
    refine cg (g4) ?_;repeat' ((conv=>whnf);first|apply Wx|apply W6|apply oi|apply fi|intro h|exact Y7|refine e_ rfl ?_)
    all_goals try exact Q14
    all_goals try exact Q1
    all_goals try exact Q18
    refine cg (g5) ?_;repeat' ((conv=>whnf);first|apply Wx|apply W6|apply oi|apply fi|intro h|exact Y7|refine e_ rfl ?_)
    all_goals try exact Q14
    all_goals try exact Q1
    all_goals try exact Q18
    refine cg (g6) ?_;repeat' ((conv=>whnf);first|apply Wx|apply W6|apply oi|apply fi|intro h|exact Y7|refine e_ rfl ?_)
    all_goals try exact Q14
    all_goals try exact Q1
    all_goals try exact Q18
    refine cg (g7) ?_;repeat' ((conv=>whnf);first|apply Wx|apply W6|apply oi|apply fi|intro h|exact Y7|refine e_ rfl ?_)
    all_goals try exact Q14
    all_goals try exact Q1
    all_goals try exact Q18
    conv=>whnf
    refine⟨⟨(m,_,_),g_,s4,M0,Om,ND⟩,?_,KD⟩;repeat' ((conv=>whnf);first|apply Wx|apply W6|apply oi|apply fi|intro h|exact Y14|refine e_ rfl ?_)
    all_goals exact⟨by simp[mO t3.1,rZ]⟩
   | false=>
    rw[b8 aah]at hS;rw[ho]at g6;subst hS;repeat' ((conv=>whnf);first|apply Wx|apply W6|apply oi|apply fi|intro h|exact Y7|refine e_ rfl ?_)
    refine cg (g1) ?_;repeat' ((conv=>whnf);first|apply Wx|apply W6|apply oi|apply fi|intro h|exact Y13|refine e_ rfl ?_)
    refine cg (g3) ?_;repeat' ((conv=>whnf);first|apply Wx|apply W6|apply oi|apply fi|intro h|exact Y7|refine e_ rfl ?_)
    all_goals try exact Q14
    all_goals try exact Q1
    all_goals try exact Q18
    refine cg (g4) ?_;repeat' ((conv=>whnf);first|apply Wx|apply W6|apply oi|apply fi|intro h|exact Y7|refine e_ rfl ?_)
    all_goals try exact Q14
    all_goals try exact Q1
    all_goals try exact Q18
    refine cg (g5) ?_;repeat' ((conv=>whnf);first|apply Wx|apply W6|apply oi|apply fi|intro h|exact Y7|refine e_ rfl ?_)
    all_goals try exact Q14
    all_goals try exact Q1
    all_goals try exact Q18
    refine cg (g6) ?_;repeat' ((conv=>whnf);first|apply Wx|apply W6|apply oi|apply fi|intro h|exact Y7|refine e_ rfl ?_)
    all_goals try exact Q14
    all_goals try exact Q1
    all_goals try exact Q18
    conv=>whnf
    refine⟨⟨(m,_,_),g_,s4,M0,Om,ND⟩,?_,KD⟩;repeat' ((conv=>whnf);first|apply Wx|apply W6|apply oi|apply fi|intro h|exact Y14|refine e_ rfl ?_)
    all_goals exact⟨by simp[mO t3.1,rZ]⟩
  rw[b8 Rj]at hS;by_cases UD:q.1=7/\dp=true
  ·rw[c7 UD]at hS;obtain⟨UD,Qo⟩:=UD;have Rn:0<d:=(by rw[T5]at Qo;exact d9 Qo);have U5:=hR Qo;obtain⟨k4,b4,o4,g4⟩:=bX o1 3
   generalize cn 3 q.2=t at *
   have Vq:=k4 o_;have S9:IntKind.i64.wrap (1+(t.1:Int))=1+(t.1:Int):=c6 _ o_;have g5:=T9 Qo 1 t.2 o_ o4;have l5:=U5.len 1 t.2 o4
   generalize rc 1 t.2=B at *
   subst hS;repeat' ((conv=>whnf);first|apply Wx|apply W6|apply oi|apply fi|intro h|exact Y7|refine e_ rfl ?_)
   refine cg (g1) ?_;repeat' ((conv=>whnf);first|apply Wx|apply W6|apply oi|apply fi|intro h|exact Y13|refine e_ rfl ?_)
   refine cg (g4) ?_;repeat' ((conv=>whnf);first|apply Wx|apply W6|apply oi|apply fi|intro h|exact Y7|refine e_ rfl ?_)
   all_goals try exact⟨aV [⟨5,0,[]⟩,⟨1,0,[105]⟩,⟨0,IntKind.i64.wrap (1+(t.1:Int)),[]⟩]⟩
   all_goals try exact Q14
   all_goals try exact Q1
   all_goals try exact Q18
   refine cg (g5) ?_;repeat' ((conv=>whnf);first|apply Wx|apply W6|apply oi|apply fi|intro h|exact Y7|refine e_ rfl ?_)
   all_goals try exact⟨aV [⟨2,0,[]⟩,⟨1,0,[105]⟩,⟨0,1,[]⟩]⟩
   all_goals try exact Q14
   all_goals try exact Q1
   all_goals try exact Q18
   conv=>whnf
   refine⟨⟨(m,_,_),g_,s4,M0,Om,ND⟩,?_,KD⟩;repeat' ((conv=>whnf);first|apply Wx|apply W6|apply oi|apply fi|intro h|exact Y14|refine e_ rfl ?_)
   all_goals exact⟨by simp[rZ,Je,Mz.tr,S9]⟩
  rw[b8 UD]at hS;have Pm:¬(q.1=6/\0<d)/\¬(q.1=7/\0<d):=⟨fun h=>Rj ⟨h.1,by rw[T5];exact q7 h.2⟩,fun h=>UD ⟨h.1,by rw[T5];exact q7 h.2⟩⟩;obtain⟨b6,o6,g6⟩:=gY o1 3
  generalize jE 3 q.2=o at *
  cases ho:o.1 with
  | true=>
   rw[c7 ho]at hS;rw[ho]at g6;obtain⟨t3,b3,o3,g3⟩:=eE hG o6 4 o_
   generalize exV G 4 o.2=e at *
   subst hS;repeat' ((conv=>whnf);first|apply Wx|apply W6|apply oi|apply fi|intro h|exact Y7|refine e_ rfl ?_)
   refine cg (g1) ?_;repeat' ((conv=>whnf);first|apply Wx|apply W6|apply oi|apply fi|intro h|exact Y13|refine e_ rfl ?_)
   all_goals(
    refine cg (g6) ?_;repeat' ((conv=>whnf);first|apply Wx|apply W6|apply oi|apply fi|intro h|exact Y7|refine e_ rfl ?_)
    refine cg (g3) ?_;repeat' ((conv=>whnf);first|apply Wx|apply W6|apply oi|apply fi|intro h|exact Y7|refine e_ rfl ?_)
    all_goals try exact Q14
    all_goals try exact Q1
    all_goals try exact Q18
    conv=>whnf
    refine⟨⟨(m,_,_),g_,s4,M0,Om,ND⟩,?_,KD⟩;repeat' ((conv=>whnf);first|apply Wx|apply W6|apply oi|apply fi|intro h|exact Y14|refine e_ rfl ?_)
    all_goals exact⟨by simp[mO t3.1]⟩)
  | false=>
   rw[b8 aah]at hS;rw[ho]at g6;subst hS;repeat' ((conv=>whnf);first|apply Wx|apply W6|apply oi|apply fi|intro h|exact Y7|refine e_ rfl ?_)
   refine cg (g1) ?_;repeat' ((conv=>whnf);first|apply Wx|apply W6|apply oi|apply fi|intro h|exact Y13|refine e_ rfl ?_)
   all_goals(
    refine cg (g6) ?_;repeat' ((conv=>whnf);first|apply Wx|apply W6|apply oi|apply fi|intro h|exact Y7|refine e_ rfl ?_)
    conv=>whnf
    refine⟨⟨(m,_,_),g_,s4,M0,Om,ND⟩,?_,KD⟩;repeat' ((conv=>whnf);first|apply Wx|apply W6|apply oi|apply fi|intro h|exact Y14|refine e_ rfl ?_)
    all_goals exact⟨s_⟩)
theorem zT {G:GP}(hG:G.ok):∀(d n:Nat) (c:Mj),d<=2->n<=4->c.ok->Hf G n d c (sK G d n c)
 | 0,n,c,_,hn,hc=>Ks hG (s:=0) o_ rfl o_ (fun h=>by cases h) (fun h=>by cases h) n c hn hc
 | d+1,n,c,hd,hn,hc=>Ks hG (s:=sB d) o_ s_ (by
   have:d=0\/d=1:=o_
   rcases this with rfl|rfl<;>simp[sB]) (fun _=>ob hG d) (fun _ m c' hm M6=>by
   have e:(((d+1:Nat):Int)-1)=(d:Int):=o_;rw[e]
   exact zT hG d m c' o_ o_ M6) n c hn hc
def nm0:List (List UInt8):=[[109,97,105,110],[102],[103,103],[104]]
def ar0:List Int:=[0,1,2,1]
def arg0:List (List UInt8):=[[120],[121]]
def arN (k:Nat):Nat:=(ar0[k]?.getD 0).toNat
def nmN (k:Nat):List UInt8:=nm0[k]?.getD []
def gpV (n k:Nat)(b:Bool):GP:=⟨arg0.take (arN k)++[[105],[122]],(nm0.take n).drop (if b=true then k else k+1),(ar0.take n).drop (if b=true then k else k+1)⟩
theorem zC {n k:Nat}(b:Bool):(gpV n k b).ok:=by
 refine⟨by simp[gpV],by simp[gpV,arg0];omega,by simp[gpV,nm0];omega,by simp[gpV,nm0,ar0],fun a ha=>?_,fun s hs=>?_,fun s hs=>?_⟩
 ·have:=t9 (z7 ha);simp[ar0]at this;omega
 ·simp only[gpV,f0]at hs;rcases hs with hs|hs
  ·have:=t9 hs;simp[arg0]at this;rcases this with rfl|rfl<;>simp
  ·simp at hs;rcases hs with rfl|rfl<;>simp
 ·have:=t9 (z7 hs);simp[nm0]at this;rcases this with rfl|rfl|rfl|rfl<;>simp
noncomputable def xu (n k:Nat) (c:Mj):List Mq×Mj:=
 let o:=if 0<k then jE 5 c else(false,c)
 let G:=gpV n k o.1
 let t:=cn 4 o.2
 let u:=cn 2 t.2
 let B:=sK G (1+u.1) (1+t.1) u.2
 let e:=exV G 3 B.2
 (⟨0,nmN k,arg0.take (arN k),[]⟩::(B.1++[⟨6,[],[],e.1⟩,⟨7,[],[],[]⟩]),e.2)
noncomputable def jG (n:Nat):Nat->Nat->Mj->List Mq×Mj
 | 0,_,c=>([],c)
 | r+1,k,c=>((xu n k c).1++(jG n r (k+1) (xu n k c).2).1,(jG n r (k+1) (xu n k c).2).2)
noncomputable def lh (c:Mj):List Mq×Mj:=jG (1+(cn 4 c).1) (1+(cn 4 c).1) 0 (cn 4 c).2
def drP (x:Mq):List DC:=if x.J5=0 then [.d (.int .i64 0),.d (.str x.L0),.d (.lst 1 (x.L9.map aq)),.d (.lst 0 [])]else dr x
structure PL (x:Mq):Prop where
 name:x.L0.length<=8
 args:x.L9.length<=2/\∀s∈x.L9,s.length<=8
 len:x.L5.length<=125
 tok:∀t∈x.L5,t.L0.length<=8
 fe:x.J5=0->x.L5=[]
 fa:x.J5≠0->x.L9=[]
theorem IA {n k:Nat}{c:Mj}(hc:c.ok):(xu n k c).1.length<=200/\(xu n k c).2.b=c.b/\(xu n k c).2.ok/\∀x∈(xu n k c).1,PL x:=by
 unfold xu;dsimp only
 have ho:(if 0<k then jE 5 c else(false,c)).2.b=c.b/\(if 0<k then jE 5 c else(false,c)).2.ok:=by
  split
  ·have:=gY hc 5;exact⟨this.1,this.2.1⟩
  ·exact⟨rfl,hc⟩
 generalize(if 0<k then jE 5 c else(false,c))=o at *
 have hG:=zC (n:=n) (k:=k) o.1
 generalize gpV n k o.1=G at *
 obtain⟨k4,b4,o4,_⟩:=bX ho.2 4;obtain⟨k2,b2,o2,_⟩:=bX o4 2;have Vq:=k4 o_;have k2':=k2 o_;have hB:=ob hG (1+(cn 2 (cn 4 o.2).2).1);have hl:=hB.len (1+(cn 4 o.2).1) _ o2;have hb:=hB.b (1+(cn 4 o.2).1) _ o2;have hk:=hB.ok (1+(cn 4 o.2).1) _ o2;have hx:=hB.bl (1+(cn 4 o.2).1) _ o2
 have hs:sB (1+(cn 2 (cn 4 o.2).2).1)<=21:=by have:(cn 2 (cn 4 o.2).2).1=0\/(cn 2 (cn 4 o.2).2).1=1:=o_;rcases this with e|e<;>rw[e]<;>simp[sB]
 have OQ:=A7 (show 1+(cn 4 o.2).1<=4 by omega) hs
 generalize sK G (1+(cn 2 (cn 4 o.2).2).1) (1+(cn 4 o.2).1) (cn 2 (cn 4 o.2).2).2=B at *
 obtain⟨t3,b3,o3,_⟩:=eE hG hk 3 o_;refine⟨by simp;omega,((b3.trans hb).trans b2).trans (b4.trans ho.1),o3,fun x h=>?_⟩;have P4:∀{x:Mq},BL x->PL x:=fun h=>⟨h.name,by rw[h.args];simp,h.len,h.tok,fun e=>by have:=h.kind;omega,fun _=>h.args⟩;simp only[d7,f0,l9,or_false]at h;rcases h with rfl|h|rfl|rfl
 ·refine⟨?_,⟨?_,fun s hs=>?_⟩,s_,s_,fun _=>rfl,fun e=>absurd rfl e⟩
  ·show(nmN k).length<=8;unfold nmN
   cases hn:nm0[k]? with
   | none=>simp
   | some v=>have:=c9 hn;simp[nm0]at this;rcases this with rfl|rfl|rfl|rfl<;>simp
  ·simp[arg0];omega
  ·have:=t9 hs;simp[arg0]at this;rcases this with rfl|rfl<;>simp
 ·exact P4 (hx x h)
 ·exact P4 (yV s_ t3)
 ·exact P4 vc
theorem yZ (n:Nat):∀(r k:Nat) (c:Mj),c.ok->(jG n r k c).1.length<=r*200/\(jG n r k c).2.b=c.b/\(jG n r k c).2.ok/\∀x∈(jG n r k c).1,PL x
 | 0,_,c,hc=>⟨by simp[jG],rfl,hc,fun x hx=>by simp[jG]at hx⟩
 | r+1,k,c,hc=>by
  obtain⟨h1,h2,h3,h4⟩:=IA (n:=n) (k:=k) hc;obtain⟨i1,i2,i3,i4⟩:=yZ n r (k+1) _ h3;rw[jG];refine⟨by simp only[c8];omega,i2.trans h2,i3,fun x hx=>?_⟩;rcases f0.1 hx with hx|hx
  ·exact h4 x hx
  ·exact i4 x hx
theorem EQ {c:Mj}(hc:c.ok):(lh c).1.length<=800/\(lh c).2.b=c.b/\(lh c).2.ok/\∀x∈(lh c).1,PL x:=by obtain⟨k1,b1,o1,_⟩:=bX hc 4;have VZ:=k1 o_;obtain⟨h1,h2,h3,h4⟩:=yZ (1+(cn 4 c).1) (1+(cn 4 c).1) 0 _ o1;have:=l8 200 (show 1+(cn 4 c).1<=4 by omega);exact⟨by unfold lh;omega,h2.trans b1,h3,h4⟩
theorem DL {l:List Mq}(h:∀x∈l,BL x):l.map dr=l.map drP:=by refine List.map_congr_left fun x hx=>?_;have:=(h x hx).kind;rw[drP,b8 o_]
theorem JN {x:Mq}(h:PL x):((drP x).map DC.tr).length=x.tr.length/\∀(p:Nat) (c d:Tr),((drP x).map DC.tr)[p]?=some c->x.tr[p]?=some d->emE c d:=by
 obtain⟨k,n,a,e⟩:=x
 have key:∃u v,(drP ⟨k,n,a,e⟩).map DC.tr=[.int .i64 k,.str n,u,v]/\emE u (.lst 1 (a.map aq))/\emE v (.lst 3 (e.map Mz.tr)):=by
  by_cases h0:k=0
  ·subst h0;have he:=h.fe rfl;dsimp only at he;subst he;exact⟨_,_,rfl,.inl rfl,.inr ⟨_,_,rfl,rfl⟩⟩
  ·have ha:=h.fa h0;dsimp only at ha;subst ha;rw[drP,b8 h0]
   cases e with|nil=>exact⟨_,_,rfl,.inr ⟨_,_,rfl,rfl⟩,.inr ⟨_,_,rfl,rfl⟩⟩|cons t l=>exact⟨_,_,rfl,.inr ⟨_,_,rfl,rfl⟩,.inl rfl⟩
 obtain⟨u,v,e1,e2,e3⟩:=key;rw[e1];refine⟨rfl,fun p c d hc hd=>?_⟩
 match p with|0=>simp[Mq.tr]at hc hd;subst hc;subst hd;exact .inl rfl|1=>simp[Mq.tr]at hc hd;subst hc;subst hd;exact .inl rfl|2=>simp[Mq.tr]at hc hd;subst hc;subst hd;exact e2|3=>simp[Mq.tr]at hc hd;subst hc;subst hd;exact e3|p+4=>simp at hc
theorem Fo:∀{l:List Mq},(∀x∈l,PL x)->emR ((l.map drP).map fun x=>x.map DC.tr) (l.map Mq.tr)
 | [],_=>trivial
 | x::l,h=>⟨JN (h x s_),Fo fun y hy=>h y aaS⟩
theorem V126{p:Prop}(h:p:=by
 have:u.1=0\/u.1=1:=o_
 rcases this with e|e<;>rw[e]<;>simp[sB]):p:=h
theorem Q20{p:Prop}(h:p:=by exact⟨by simp[drP,mO t3.1,rZ,hx,x8,arg0,aq]⟩):p:=h
theorem pS (c:Mj)(hc:c.ok):bE prog 170 [gO] (fB c) (.r (.c (.t (.lst 4 ((lh c).1.map Mq.tr))))) (fB (lh c).2):=by
 obtain⟨k1,b1,o1,g1⟩:=bX hc 4;have VZ:=k1 o_;refine aD hΓ aE func170 rfl d_ rfl rfl ?_;unfold lh
 generalize(cn 4 c).2=c1 at *
 obtain⟨n,hn⟩:∃n,1+(cn 4 c).1=n:=⟨_,rfl⟩;have hw:IntKind.i64.wrap (1+((cn 4 c).1:Int))=(n:Int):=by rw[c6 _ o_];omega
 rw[hn];obtain⟨R,c',P8⟩:∃R c',jG n n 0 c1=(R,c'):=⟨_,_,rfl⟩;have X5:=(yZ n n 0 _ o1).2.2.2;rw[P8]at X5⊢;repeat' ((conv=>whnf);first|(with_reducible apply W1;fail_if_success (with_reducible show Wo _ _ _ _ (Code.seq (Code.region 5 _ _) _) _ _))|(with_reducible first|apply W2|apply W3|apply W4|apply W5|apply W6|apply W7|apply W8|apply W9)|apply au|apply oi|apply fi|intro h|exact Y7|refine e_ rfl ?_)
 refine cg (g1) ?_;repeat' ((conv=>whnf);first|(with_reducible apply W1;fail_if_success (with_reducible show Wo _ _ _ _ (Code.seq (Code.region 5 _ _) _) _ _))|(with_reducible first|apply W2|apply W3|apply W4|apply W5|apply W6|apply W7|apply W8|apply W9)|apply au|apply oi|apply fi|intro h|exact Y7|refine e_ rfl ?_)
 conv=>whnf
 refine nO ⟨[(0,gO),(3,vN nm0),(4,.r (.c (.t (.lst 1 (ar0.map aa))))),(5,tI .i64 (IntKind.i64.wrap (1+((cn 4 c).1:Int)))),(6,.r (.c (.own (15,0,0))))],[((0,0,0),some (.box [.t (.lst 1 (c1.b.map aT)),.t (.int .i64 c1.i),.t (.int .i64 c1.h)])),((15,0,0),some (.arr true 4 []))],[15,13,11,10,0]⟩ ?_ ?_ rfl ?_
 ·refine⟨.inl rfl,.inr ⟨_,_,rfl,rfl,rfl,?_⟩,.inr ⟨_,_,rfl,rfl,rfl,?_⟩,.inl rfl,.inl rfl,trivial⟩;all_goals(intro q hq;simp only[AC.ids,d7,l9,or_false]at hq;subst hq;rfl)
 ·exact⟨.inr rfl,.inr rfl,trivial⟩
 rw[hw];repeat' ((conv=>whnf);first|apply Wx|apply W6|apply oi|apply fi|intro h|exact Y7|refine e_ rfl ?_)
 conv=>whnf
 refine⟨{q:Nat×Mj×List Mq//q.1<=n/\q.2.1.ok/\q.2.2.length+(n-q.1)*200<=800/\q.2.2++(jG n (n-q.1) q.1 q.2.1).1=R/\(jG n (n-q.1) q.1 q.2.1).2=c'},fun q=>⟨[(0,gO),(3,vN nm0),(4,.r (.c (.t (.lst 1 (ar0.map aa))))),(5,tI .i64 (n:Int)),(6,.r (.c (.own (15,0,0)))),(7,tI .i64 (q.1.1:Int))],[((0,0,0),some (.box [.t (.lst 1 (q.1.2.1.b.map aT)),.t (.int .i64 q.1.2.1.i),.t (.int .i64 q.1.2.1.h)])),((15,0,0),some (.dar 4 (q.1.2.2.map drP) none))],[15,0]⟩,fun q=>n-q.1.1,⟨(0,c1,[]),g_,o1,by simp;omega,by dsimp only;rw[y7,P8];rfl,by dsimp only;rw[y7,P8]⟩,?_,?_⟩
 ·repeat' ((conv=>whnf);first|apply Wx|apply W6|apply oi|apply fi|intro h|exact Y7|refine e_ rfl ?_)
  all_goals try exact⟨rfl⟩
 intro⟨⟨k,ci,acc⟩,hi,OV,NA,Om,ND⟩;dsimp only at hi OV NA Om ND⊢;by_cases M3:k<n
 ·obtain⟨m,hm⟩:∃m,n-k=m+1:=⟨n-k-1,o_⟩;rw[hm]at Om ND NA;rw[jG]at Om ND;dsimp only at Om ND;obtain⟨s1,_,s3,s4⟩:=IA (n:=n) (k:=k) OV
  generalize hF:xu n k ci=F at *
  rw[<-j9]at Om;have M0:(acc++F.1).length+(n-(k+1))*200<=800:=by rw[c8];omega
  rw[show m=n-(k+1) by omega]at Om ND;unfold xu at hF;dsimp only at hF;have X4:k<4:=o_
  have OE:nm0[k]?=some (nmN k):=by have:k=0\/k=1\/k=2\/k=3:=o_;rcases this with rfl|rfl|rfl|rfl<;>rfl
  have TU:ar0[k]?=some (arN k:Int):=by have:k=0\/k=1\/k=2\/k=3:=o_;rcases this with rfl|rfl|rfl|rfl<;>rfl
  have Pi:arN k<=2:=by have:k=0\/k=1\/k=2\/k=3:=o_;rcases this with rfl|rfl|rfl|rfl<;>decide
  have NT:IntKind.i64.wrap ((k:Int)+1)=((k+1:Nat):Int):=by rw[c6 _ o_];omega
  have Ox:(nm0.map aq).length=4:=rfl;have RZ:(ar0.map aa).length=4:=rfl;have Nh:flat ([]++List.take (arN k) (arg0.map aq)):=by rw[t7,<-x8];exact kQ _
  rcases v4 k with Oz|Oz
  ·rw[b8 o_]at hF
   (try dsimp only at hF)
   have hG:=zC (n:=n) (k:=k) false;obtain⟨k4,b4,o4,g4⟩:=bX OV 4
   generalize cn 4 ci=t at *
   obtain⟨k5,b5,o5,g5⟩:=bX o4 2
   generalize cn 2 t.2=u at *
   have Vq:=k4 o_;have Yv:=k5 o_;have g6:=zT hG (1+u.1) (1+t.1) u.2 o_ o_ o5;have hB:=ob hG (1+u.1);have hl:=hB.len (1+t.1) _ o5;have hk:=hB.ok (1+t.1) _ o5;have hx:=DL (hB.bl (1+t.1) _ o5)
   have hs:sB (1+u.1)<=21:=by exact V126
   have OQ:=A7 (show 1+t.1<=4 by omega) hs
   generalize sK (gpV n k false) (1+u.1) (1+t.1) u.2=B at *
   obtain⟨t3,b3,o3,g3⟩:=eE hG hk 3 o_
   generalize exV (gpV n k false) 3 B.2=e at *
   subst hF;have NJ:Tr.lst 1 ((gpV n k false).names.map aq)=Tr.lst 1 (((nm0.map aq).take n).drop (k+1)):=(by simp[gpV,A1,x8]);have QN:Tr.lst 1 ((gpV n k false).ars.map aa)=Tr.lst 1 (((ar0.map aa).take n).drop (k+1)):=(by simp[gpV,A1,x8]);have Oq:[]++List.take (arN k) (arg0.map aq)++([[105],[122]]:List (List UInt8)).map aq=(gpV n k false).vars.map aq:=(by simp[gpV,x8]);have Rq:Tr.int .i64 ((1+t.1:Nat):Int)=Tr.int .i64 (IntKind.i64.wrap (1+(t.1:Int))):=(by rw[c6 _ o_];simp);have Qf:Tr.int .i64 ((1+u.1:Nat):Int)=Tr.int .i64 (IntKind.i64.wrap (1+(u.1:Int))):=(by rw[c6 _ o_];simp);repeat' ((conv=>whnf);first|apply Wx|apply W6|apply oi|apply fi|intro h|refine⟨k,(aa (arN k)),rfl,ab TU,?_⟩|refine⟨0,arN k,rfl,rfl,w6 _,Pi,?_⟩|refine⟨k+1,n,NT,rfl,o_,by(rw[Ox];omega),?_⟩|refine⟨k+1,n,NT,rfl,o_,by(rw[RZ];omega),?_⟩|refine⟨k,(aq (nmN k)),rfl,ab OE,?_⟩|exact Y5|refine e_ rfl ?_)
   all_goals try exact⟨Pi⟩
   all_goals try exact Q1
   all_goals try exact⟨Nh⟩
   refine cg (g4) ?_;repeat' ((conv=>whnf);first|apply Wx|apply W6|apply oi|apply fi|intro h|exact Y7|refine e_ rfl ?_)
   refine cg (g5) ?_;repeat' ((conv=>whnf);first|apply Wx|apply W6|apply oi|apply fi|intro h|exact Y7|refine e_ rfl ?_)
   refine cg (g6) ?_;repeat' ((conv=>whnf);first|apply Wx|apply W6|apply oi|apply fi|intro h|exact Y7|refine e_ rfl ?_)
   all_goals try exact⟨NJ⟩
   all_goals try exact⟨QN⟩
   all_goals try exact⟨Rq⟩
   all_goals try exact⟨Qf⟩
   all_goals try exact⟨Oq⟩
   all_goals try exact Q1
   refine cg (g3) ?_;repeat' ((conv=>whnf);first|apply Wx|apply W6|apply oi|apply fi|intro h|exact Y7|refine e_ rfl ?_)
   all_goals try exact Q14
   all_goals try exact Q1
   conv=>whnf
   refine⟨⟨(k+1,_,_),g_,s3,M0,Om,ND⟩,?_,KD⟩;repeat' ((conv=>whnf);first|apply Wx|apply W6|apply oi|apply fi|intro h|exact Y8|refine e_ rfl ?_)
   all_goals try exact Q20
  ·rw[c7 Oz]at hF;obtain⟨b7,o7,g7⟩:=gY OV 5
   generalize jE 5 ci=o at *
   (try dsimp only at hF)
   cases ho:o.1 with
   | true=>
    rw[ho]at hF g7;have hG:=zC (n:=n) (k:=k) true;obtain⟨k4,b4,o4,g4⟩:=bX o7 4
    generalize cn 4 o.2=t at *
    obtain⟨k5,b5,o5,g5⟩:=bX o4 2
    generalize cn 2 t.2=u at *
    have Vq:=k4 o_;have Yv:=k5 o_;have g6:=zT hG (1+u.1) (1+t.1) u.2 o_ o_ o5;have hB:=ob hG (1+u.1);have hl:=hB.len (1+t.1) _ o5;have hk:=hB.ok (1+t.1) _ o5;have hx:=DL (hB.bl (1+t.1) _ o5)
    have hs:sB (1+u.1)<=21:=by exact V126
    have OQ:=A7 (show 1+t.1<=4 by omega) hs
    generalize sK (gpV n k true) (1+u.1) (1+t.1) u.2=B at *
    obtain⟨t3,b3,o3,g3⟩:=eE hG hk 3 o_
    generalize exV (gpV n k true) 3 B.2=e at *
    subst hF;have NJ:Tr.lst 1 ((gpV n k true).names.map aq)=Tr.lst 1 (((nm0.map aq).take n).drop (k)):=(by simp[gpV,A1,x8]);have QN:Tr.lst 1 ((gpV n k true).ars.map aa)=Tr.lst 1 (((ar0.map aa).take n).drop (k)):=(by simp[gpV,A1,x8]);have Oq:[]++List.take (arN k) (arg0.map aq)++([[105],[122]]:List (List UInt8)).map aq=(gpV n k true).vars.map aq:=(by simp[gpV,x8]);have Rq:Tr.int .i64 ((1+t.1:Nat):Int)=Tr.int .i64 (IntKind.i64.wrap (1+(t.1:Int))):=(by rw[c6 _ o_];simp);have Qf:Tr.int .i64 ((1+u.1:Nat):Int)=Tr.int .i64 (IntKind.i64.wrap (1+(u.1:Int))):=(by rw[c6 _ o_];simp);repeat' ((conv=>whnf);first|apply Wx|apply W6|apply oi|apply fi|intro h|refine⟨k,(aa (arN k)),rfl,ab TU,?_⟩|refine⟨0,arN k,rfl,rfl,w6 _,Pi,?_⟩|refine⟨k+1,n,NT,rfl,o_,by(rw[Ox];omega),?_⟩|refine⟨k+1,n,NT,rfl,o_,by(rw[RZ];omega),?_⟩|refine⟨k,(aq (nmN k)),rfl,ab OE,?_⟩|exact Y5|refine e_ rfl ?_)
    all_goals try exact⟨Pi⟩
    all_goals try exact Q1
    all_goals try exact⟨Nh⟩
    refine cg (g7) ?_;repeat' ((conv=>whnf);first|apply Wx|apply W6|apply oi|apply fi|intro h|refine⟨k,(aq (nmN k)),rfl,ab OE,?_⟩|refine⟨k,n,rfl,rfl,o_,by(rw[Ox];omega),?_⟩|refine⟨k,n,rfl,rfl,o_,by(rw[RZ];omega),?_⟩|exact Y5|refine e_ rfl ?_)
    all_goals try exact⟨Pi⟩
    all_goals try exact Q1
    all_goals try exact⟨Nh⟩
    refine cg (g4) ?_;repeat' ((conv=>whnf);first|apply Wx|apply W6|apply oi|apply fi|intro h|exact Y7|refine e_ rfl ?_)
    refine cg (g5) ?_;repeat' ((conv=>whnf);first|apply Wx|apply W6|apply oi|apply fi|intro h|exact Y7|refine e_ rfl ?_)
    refine cg (g6) ?_;repeat' ((conv=>whnf);first|apply Wx|apply W6|apply oi|apply fi|intro h|exact Y7|refine e_ rfl ?_)
    all_goals try exact⟨NJ⟩
    all_goals try exact⟨QN⟩
    all_goals try exact⟨Rq⟩
    all_goals try exact⟨Qf⟩
    all_goals try exact⟨Oq⟩
    all_goals try exact Q1
    refine cg (g3) ?_;repeat' ((conv=>whnf);first|apply Wx|apply W6|apply oi|apply fi|intro h|exact Y7|refine e_ rfl ?_)
    all_goals try exact Q14
    all_goals try exact Q1
    conv=>whnf
    refine⟨⟨(k+1,_,_),g_,s3,M0,Om,ND⟩,?_,KD⟩;repeat' ((conv=>whnf);first|apply Wx|apply W6|apply oi|apply fi|intro h|exact Y8|refine e_ rfl ?_)
    all_goals try exact Q20
   | false=>
    rw[ho]at hF g7;have hG:=zC (n:=n) (k:=k) false;obtain⟨k4,b4,o4,g4⟩:=bX o7 4
    generalize cn 4 o.2=t at *
    obtain⟨k5,b5,o5,g5⟩:=bX o4 2
    generalize cn 2 t.2=u at *
    have Vq:=k4 o_;have Yv:=k5 o_;have g6:=zT hG (1+u.1) (1+t.1) u.2 o_ o_ o5;have hB:=ob hG (1+u.1);have hl:=hB.len (1+t.1) _ o5;have hk:=hB.ok (1+t.1) _ o5;have hx:=DL (hB.bl (1+t.1) _ o5)
    have hs:sB (1+u.1)<=21:=by exact V126
    have OQ:=A7 (show 1+t.1<=4 by omega) hs
    generalize sK (gpV n k false) (1+u.1) (1+t.1) u.2=B at *
    obtain⟨t3,b3,o3,g3⟩:=eE hG hk 3 o_
    generalize exV (gpV n k false) 3 B.2=e at *
    subst hF;have NJ:Tr.lst 1 ((gpV n k false).names.map aq)=Tr.lst 1 (((nm0.map aq).take n).drop (k+1)):=(by simp[gpV,A1,x8]);have QN:Tr.lst 1 ((gpV n k false).ars.map aa)=Tr.lst 1 (((ar0.map aa).take n).drop (k+1)):=(by simp[gpV,A1,x8]);have Oq:[]++List.take (arN k) (arg0.map aq)++([[105],[122]]:List (List UInt8)).map aq=(gpV n k false).vars.map aq:=(by simp[gpV,x8]);have Rq:Tr.int .i64 ((1+t.1:Nat):Int)=Tr.int .i64 (IntKind.i64.wrap (1+(t.1:Int))):=(by rw[c6 _ o_];simp);have Qf:Tr.int .i64 ((1+u.1:Nat):Int)=Tr.int .i64 (IntKind.i64.wrap (1+(u.1:Int))):=(by rw[c6 _ o_];simp);repeat' ((conv=>whnf);first|apply Wx|apply W6|apply oi|apply fi|intro h|refine⟨k,(aa (arN k)),rfl,ab TU,?_⟩|refine⟨0,arN k,rfl,rfl,w6 _,Pi,?_⟩|refine⟨k+1,n,NT,rfl,o_,by(rw[Ox];omega),?_⟩|refine⟨k+1,n,NT,rfl,o_,by(rw[RZ];omega),?_⟩|refine⟨k,(aq (nmN k)),rfl,ab OE,?_⟩|exact Y5|refine e_ rfl ?_)
    all_goals try exact⟨Pi⟩
    all_goals try exact Q1
    all_goals try exact⟨Nh⟩
    refine cg (g7) ?_;repeat' ((conv=>whnf);first|apply Wx|apply W6|apply oi|apply fi|intro h|refine⟨k,(aq (nmN k)),rfl,ab OE,?_⟩|exact Y5|refine e_ rfl ?_)
    all_goals try exact⟨Pi⟩
    all_goals try exact Q1
    all_goals try exact⟨Nh⟩
    refine cg (g4) ?_;repeat' ((conv=>whnf);first|apply Wx|apply W6|apply oi|apply fi|intro h|exact Y7|refine e_ rfl ?_)
    refine cg (g5) ?_;repeat' ((conv=>whnf);first|apply Wx|apply W6|apply oi|apply fi|intro h|exact Y7|refine e_ rfl ?_)
    refine cg (g6) ?_;repeat' ((conv=>whnf);first|apply Wx|apply W6|apply oi|apply fi|intro h|exact Y7|refine e_ rfl ?_)
    all_goals try exact⟨NJ⟩
    all_goals try exact⟨QN⟩
    all_goals try exact⟨Rq⟩
    all_goals try exact⟨Qf⟩
    all_goals try exact⟨Oq⟩
    all_goals try exact Q1
    refine cg (g3) ?_;repeat' ((conv=>whnf);first|apply Wx|apply W6|apply oi|apply fi|intro h|exact Y7|refine e_ rfl ?_)
    all_goals try exact Q14
    all_goals try exact Q1
    conv=>whnf
    refine⟨⟨(k+1,_,_),g_,s3,M0,Om,ND⟩,?_,KD⟩;repeat' ((conv=>whnf);first|apply Wx|apply W6|apply oi|apply fi|intro h|exact Y8|refine e_ rfl ?_)
    all_goals try exact Q20
 ·have Pr:k=n:=o_;subst Pr;rw[x6]at Om ND;simp only[jG,m7]at Om ND;subst Om;subst ND;dsimp only at X5;refine nO ⟨[(0,gO),(5,tI .i64 (k:Int)),(6,.r (.c (.t (.lst 4 ((acc.map drP).map fun x=>x.map DC.tr))))),(7,tI .i64 (k:Int))],[((0,0,0),some (.box [.t (.lst 1 (ci.b.map aT)),.t (.int .i64 ci.i),.t (.int .i64 ci.h)]))],[15,0]⟩ ?_ ?_ rfl ?_
  ·refine⟨.inl rfl,.inl rfl,.inr ⟨_,_,rfl,rfl,rfl,?_⟩,.inl rfl,trivial⟩;intro q hq;simp only[AC.ids,d7,l9,or_false]at hq;subst hq;rfl
  ·exact⟨.inr rfl,trivial⟩
  refine tm 6 rfl (Fo X5) ?_;exact Z7
theorem wJ {l:List Mq}(h:∀x∈l,PL x)(hl:l.length<=800):ao 1048576 (.lst 4 (l.map Mq.tr)):=by
 refine fX o_ fun x hx=>?_;have hp:=h x hx
 have h1:ao 1048576 (.lst 1 (x.L9.map aq)):=fX (by have:=hp.args.1;omega) fun s hs=>by
  have:=hp.args.2 s hs;simp only[aq,az,ao];exact⟨o_,trivial⟩
 have h2:ao 1048576 (.lst 3 (x.L5.map Mz.tr)):=fX (by have:=hp.len;omega) fun t ht=>by
  have:=hp.tok t ht;simp only[Mz.tr,az,ao];exact⟨trivial,trivial,o_,trivial⟩
 have h3:=hp.name;exact⟨trivial,by simp only[ao];omega,h1,h2,trivial⟩
def fbP:List Mq:=[⟨0,[109,97,105,110],[],[]⟩,⟨2,[],[],[⟨0,1,[]⟩]⟩,⟨6,[],[],[⟨0,1,[]⟩]⟩,⟨7,[],[],[]⟩]
theorem KU:aj fbP=true:=by decide
theorem Ly:∀x∈fbP,PL x:=by intro x hx;simp only[fbP,d7,l9,or_false]at hx;rcases hx with rfl|rfl|rfl|rfl;all_goals exact⟨s_,s_,s_,s_,s_,s_⟩
noncomputable def jP:Nat->Mj->List Mq×Mj
 | 0,c=>(fbP,c)
 | r+1,c=>if aj (lh c).1=true then lh c else jP r (lh c).2
theorem Bh:∀(r:Nat) (c:Mj),c.ok->aj (jP r c).1=true/\(jP r c).1.length<=800/\(jP r c).2.b=c.b/\(jP r c).2.ok/\∀x∈(jP r c).1,PL x
 | 0,c,hc=>⟨KU,by simp[jP,fbP],rfl,hc,Ly⟩
 | r+1,c,hc=>by
  obtain⟨h1,h2,h3,h4⟩:=EQ hc;rw[jP];split
  ·rename_i h;exact⟨h,h1,h2,h3,h4⟩
  ·obtain⟨i1,i2,i3,i4,i5⟩:=Bh r _ h3;exact⟨i1,i2,i3.trans h2,i4,i5⟩
theorem LN:emR [[.int .i64 0,.str [109,97,105,110],.lst 0 [],.lst 0 []],[.int .i64 2,.str [],.lst 0 [],.lst 3 [[.int .i64 0,.int .i64 1,.str []]]],[.int .i64 6,.str [],.lst 0 [],.lst 3 [[.int .i64 0,.int .i64 1,.str []]]],[.int .i64 7,.str [],.lst 0 [],.lst 0 []]] (fbP.map Mq.tr):=by
 refine⟨⟨rfl,fun p c d hc hd=>?_⟩,⟨rfl,fun p c d hc hd=>?_⟩,⟨rfl,fun p c d hc hd=>?_⟩,⟨rfl,fun p c d hc hd=>?_⟩,trivial⟩
 all_goals(
  match p with
  | 0=>simp[Mq.tr]at hc hd;subst hc;subst hd;exact .inl rfl
  | 1=>simp[Mq.tr]at hc hd;subst hc;subst hd;exact .inl rfl
  | 2=>simp[Mq.tr]at hc hd;subst hc;subst hd;exact .inr ⟨_,_,rfl,rfl⟩
  | 3=>simp[Mq.tr,Mz.tr]at hc hd;subst hc;subst hd;first|exact .inl rfl|exact .inr ⟨_,_,rfl,rfl⟩
  | p+4=>simp at hc)
theorem V97{p:Prop}(h:p:=by
 refine⟨.inr ⟨_,_,rfl,rfl,rfl,?_⟩,trivial⟩
 intro q hq;simp only[AC.ids,d7,l9,or_false]at hq;subst hq;rfl):p:=h
theorem rg (c:Mj)(hc:c.ok):bE prog 94 [gO] (fB c) (.r (.c (.t (.lst 4 ((jP 5 c).1.map Mq.tr))))) (fB (jP 5 c).2):=by
 refine aD hΓ aE func94 rfl d_ rfl rfl ?_
 generalize hR:jP 5 c=R at *
 repeat' ((conv=>whnf);first|apply Wx|apply W6|apply oi|apply fi|intro h|exact Y7|refine e_ rfl ?_)
 conv=>whnf
 refine⟨{q:Nat×Mj//q.1<=5/\q.2.ok/\jP (5-q.1) q.2=R},fun q=>⟨[(0,gO),(3,tI .i64 (q.1.1:Int))],[((0,0,0),some (.box [.t (.lst 1 (q.1.2.b.map aT)),.t (.int .i64 q.1.2.i),.t (.int .i64 q.1.2.h)]))],[0]⟩,fun q=>5-q.1.1,⟨(0,c),g_,hc,hR⟩,?_,?_⟩
 ·exact Z2
 intro⟨⟨k,ci⟩,hi,OV,hr⟩;dsimp only at hi OV hr⊢;by_cases M3:k<5
 ·obtain⟨m,hm⟩:∃m,5-k=m+1:=⟨5-k-1,o_⟩;rw[hm,jP]at hr;have gP:=pS ci OV;obtain⟨h1,h2,h3,h4⟩:=EQ OV;have hO:=dQ (lh ci).1 (wJ h4 h1)
  generalize lh ci=Q at *
  cases hq:aj Q.1 with
  | true=>
   rw[c7 hq]at hr;subst hr;rw[hq]at hO;repeat' ((conv=>whnf);first|apply Wx|apply W6|apply oi|apply fi|intro h|exact Y7|refine e_ rfl ?_)
   refine cg (gP) ?_
   repeat' ((conv=>whnf);first|apply Wx|apply W6|apply oi|apply fi|intro h|refine cl hO ?_|exact Y5|refine e_ rfl ?_)
  | false=>
   rw[b8 (by simp[hq])]at hr;rw[hq]at hO;repeat' ((conv=>whnf);first|apply Wx|apply W6|apply oi|apply fi|intro h|exact Y7|refine e_ rfl ?_)
   refine cg (gP) ?_;repeat' ((conv=>whnf);first|apply Wx|apply W6|apply oi|apply fi|intro h|refine cl hO ?_|exact Y5|refine e_ rfl ?_)
   conv=>whnf
   refine⟨⟨(k+1,Q.2),g_,h3,by dsimp only;rw[show 5-(k+1)=m by omega];exact hr⟩,?_,KD⟩;exact Z6
 ·have hk:k=5:=o_;subst hk;rw[show(5:Nat)-5=0 from rfl,jP]at hr;subst hr;repeat' ((conv=>whnf);first|(with_reducible apply W1;fail_if_success (with_reducible show Wo _ _ _ _ (Code.region 8 _ _) _ _))|(with_reducible first|apply W2|apply W3|apply W4|apply W5|apply W6|apply W7|apply W8|apply W9)|apply au|apply oi|apply fi|intro h|exact Y5|refine e_ rfl ?_)
  conv=>whnf
  refine nO ⟨[(5,.r (.c (.t (.lst 3 [[.int .i64 0,.int .i64 1,.str []]]))))],[((0,0,0),some (.box [.t (.lst 1 (ci.b.map aT)),.t (.int .i64 ci.i),.t (.int .i64 ci.h)]))],[16,0]⟩ ?_ ?_ rfl ?_
  ·exact V97
  ·exact⟨.inr rfl,trivial⟩
  repeat' ((conv=>whnf);first|(with_reducible first|apply W1|apply W2)|apply au|refine oi ?_ ?_|exact Y7|refine e_ rfl ?_)
  conv=>whnf
  refine nO ⟨[(2,.r (.c (.t (.lst 4 [[.int .i64 0,.str [109,97,105,110],.lst 0 [],.lst 0 []],[.int .i64 2,.str [],.lst 0 [],.lst 3 [[.int .i64 0,.int .i64 1,.str []]]],[.int .i64 6,.str [],.lst 0 [],.lst 3 [[.int .i64 0,.int .i64 1,.str []]]],[.int .i64 7,.str [],.lst 0 [],.lst 0 []]]))))],[((0,0,0),some (.box [.t (.lst 1 (ci.b.map aT)),.t (.int .i64 ci.i),.t (.int .i64 ci.h)]))],[23,16,0]⟩ ?_ ?_ rfl ?_
  ·exact V97
  ·exact⟨.inr rfl,trivial⟩
  refine tm 2 rfl LN ?_;exact Z2
abbrev LY (code:List UInt8):AV:= .r (.c (.t (.lst 1 (code.map aT))))
theorem Jz {code:List UInt8}(hl:code.length<=1048576):(⟨code,0,Im code⟩:Mj).ok:=⟨s_,hl⟩
theorem FI {rows:List (List Tr)}(h:∀r∈rows,∃n,r=[.int .u8 n]/\(Lit.int .u8 n).wf=true):∃bs:List UInt8,rows=bs.map aT:=by
 obtain⟨bs,hb,_⟩:=Co (g:=aT) (Q:=fun _=>True) (rows:=rows) fun r hr=>by
  obtain⟨n,rfl,hw⟩:=h r hr;have h1:IntKind.u8.min<=n/\n<=IntKind.u8.max:=by simpa [Lit.wf]using hw
  have h2:0<=n/\n<=255:=h1;refine⟨UInt8.ofNat n.toNat,?_,trivial⟩;rw[aT,show(UInt8.ofNat n.toNat).toNat=n.toNat by simp;omega,D0 h2.1]
 exact⟨bs,hb⟩
end Go.Proofs.P
