import Derived.Test.YtoglejgmjeojoaaGg
namespace Go.Proofs.Ytoglejgmjeojoaa
open Go.Sim
set_option maxRecDepth 100000
set_option maxHeartbeats 4000000
def cC (s:List UInt8)(p:Nat):Nat:=match s[p]? with|some b=>b.toNat|none=>0
theorem HR (s:List UInt8)(p:Nat):cC s p<256:=by
 unfold cC;split
 ·exact UInt8.toNat_lt _
 ·omega
def aX (s:List UInt8)(p:Nat):Nat->Nat
 | 0=>0
 | k+1=>aX s p k+cC s (p+k)*256^k
theorem fA (s:List UInt8)(p:Nat):∀k,aX s p k<256^k
 | 0=>by simp[aX]
 | k+1=>by
  have h1:=fA s p k;have h2:=HR s (p+k);rw[aX,H5];have h3:=l6 (256^k) (show cC s (p+k)<=255 by omega);omega
def ky (c:Int)(m:Nat):Int:=if(bc c).2=true/\2^(8*(bc c).1.toNat-1)<=m then(m:Int)-2^(8*(bc c).1.toNat)else m
def bx (s:List UInt8)(p:Int):Option (NZ×Nat):=
 if 0<=p/\p<s.length then
  (
   if aN (cC s p.toNat)=0\/(s.length:Int)<p+aN (cC s p.toNat)then none
   else some (⟨cC s p.toNat,ky (cC s p.toNat) (aX s (p.toNat+1) (bc (cC s p.toNat)).1.toNat)⟩,(aN (cC s p.toNat)).toNat))
 else none
def opX (o:Option (NZ×Nat)):NZ:=match o with|some x=>x.1|none=>⟨0,0⟩
def opZ (o:Option (NZ×Nat)):Int:=match o with|some x=>x.2|none=>0
abbrev rOp (o:Option (NZ×Nat)):Res:= .tup [.agg [.t (.int .i64 (opX o).fab),.t (.int .i64 (opX o).faf)],.c (.t (.int .i64 (opZ o))),.c (.t (.bool o.isSome))]
theorem Du (c:Int):bc c=(4,true)\/bc c=(2,true)\/bc c=(2,false)\/bc c=(1,false)\/bc c=(0,false):=by
 unfold bc;repeat' split
 all_goals simp
theorem Nc {n x k:Nat}(hn:n<256^k):n ||| x*256^k=n+x*256^k:=by
 have e:(256:Nat)^k=2^(8*k):=by rw[show(256:Nat)=2^8 from rfl,<-Nat.pow_mul]
 have:=Nat.two_pow_add_eq_or_of_lt (i:=8*k) (b:=n) (by rw[<-e];exact hn) x;rw[e,Nat.mul_comm x,Nat.or_comm,<-this];omega
theorem yF {x k:Nat}(hk:k<4)(hx:x<256):IntKind.i64.wrap ((x:Int)*2^(min (Int.toNat (IntKind.i64.wrap (8*(k:Int)))) IntKind.i64.bits))=((x*256^k:Nat):Int):=by
 rw[c9 (8*(k:Int)) o_];have:k=0\/k=1\/k=2\/k=3:=o_;rcases this with rfl|rfl|rfl|rfl
 ·show IntKind.i64.wrap ((x:Int)*1)=_;rw[c9 _ o_];simp
 ·show IntKind.i64.wrap ((x:Int)*256)=_;rw[c9 _ o_];simp
 ·show IntKind.i64.wrap ((x:Int)*65536)=_;rw[c9 _ o_];simp
 ·show IntKind.i64.wrap ((x:Int)*16777216)=_;rw[c9 _ o_];simp
theorem zA {k:Nat}(hk:k<4):256^k<=16777216:=by have:=Nat.pow_le_pow_right (n:=256) o_ (show k<=3 by omega);exact this
theorem Ki {n x k:Nat}(hk:k<4)(hn:n<256^k)(hx:x<256):IntKind.i64.wrap ((BitVec.ofInt IntKind.i64.bits (n:Int) ||| BitVec.ofInt IntKind.i64.bits (IntKind.i64.wrap ((x:Int)*2^(min (Int.toNat (IntKind.i64.wrap (8*(k:Int)))) IntKind.i64.bits)))).toNat:Int)=((n+x*256^k:Nat):Int):=by
 rw[yF hk hx];have h4:=zA hk;have h5:x*256^k<=255*16777216:=A1 o_ h4
 have e:(BitVec.ofInt IntKind.i64.bits (n:Int) ||| BitVec.ofInt IntKind.i64.bits ((x*256^k:Nat):Int)).toNat=n+x*256^k:=by show(BitVec.ofInt 64 (n:Int) ||| BitVec.ofInt 64 ((x*256^k:Nat):Int)).toNat=_;rw[BitVec.toNat_or,B6,B6];have e1:((n:Int)%((2^64:Nat):Int)).toNat=n:=o_;have e2:(((x*256^k:Nat):Int)%((2^64:Nat):Int)).toNat=x*256^k:=o_;rw[e1,e2,Nc hn]
 rw[e,c9 _ o_]
theorem zf (c:Int):∃n:Nat,(bc c).1=(n:Int)/\(n=0\/n=1\/n=2\/n=4)/\((bc c).2=true->n=2\/n=4):=by
 rcases Du c with h|h|h|h|h<;>rw[h]
 ·exact⟨4,rfl,o_,o_⟩
 ·exact⟨2,rfl,o_,o_⟩
 ·exact⟨2,rfl,o_,s_⟩
 ·exact⟨1,rfl,o_,s_⟩
 ·exact⟨0,rfl,o_,s_⟩
theorem qm {c:Int}{n m:Nat}(hn:(bc c).1=(n:Int))(hg:(bc c).2=true)(h:2^(8*n-1)<=m):ky c m=(m:Int)-2^(8*n):=by rw[ky,hn,d9,b9 ⟨hg,h⟩]
theorem oy {c:Int}{n m:Nat}(hn:(bc c).1=(n:Int))(h:¬((bc c).2=true/\2^(8*n-1)<=m)):ky c m=(m:Int):=by rw[ky,hn,d9,b8 h]
theorem V89{p:Prop}(h:p:=by
 have h1:¬aN (b.toNat:Int)=0:=fun h=>M1 (Or.inl h);unfold aN at h1⊢;split at h1
 ·rename_i UC;rw[b9 UC,hn]
 ·omega):p:=h
theorem V91{p:Prop}(h:p:=by
 rcases TK rfl with h|h<;>rw[h]
 ·exact⟨32768,65536,d_,d_,d_,d_,d_,d_⟩
 ·exact⟨2147483648,4294967296,d_,d_,d_,d_,d_,d_⟩):p:=h
theorem mz (s:List UInt8)(p:Int)(hs:s.length<=1048576)(hp:p<=9223372036854775807):Sim.Spec Try.prog 38 [tvS s,tvI p] (rOp (bx s p)):=by
 refine aG hΓ aK Try.func38 rfl d_ rfl ?_;have hb:=bL p 0 (IntKind.i64.wrap (s.length-1));have hw:IntKind.i64.wrap ((s.length:Int)-1)=(s.length:Int)-1:=c9 _ o_;by_cases hin:0<=p/\p<s.length
 ·obtain⟨p,rfl⟩:=j8 hin.1;have Sj:af (p:Int) 0 (IntKind.i64.wrap (s.length-1))=true:=by rw[hw];exact within_iff.2 ⟨o_,o_⟩
  rw[Sj]at hb;obtain⟨b,Py⟩:=ae (l:=s) (k:=p) o_;have Yl:cC s p=b.toNat:=by rw[cC,Py]
  have hz:=xX (b.toNat:Int);have ha:=mA (b.toNat:Int);have TS:=jG (b.toNat:Int);have J3:=UInt8.toNat_lt b;have XV:IntKind.i64.wrap (b.toNat:Int)=b.toNat:=c9 _ o_;rw[bx,b9 hin,d9,Yl];by_cases M1:aN (b.toNat:Int)=0\/(s.length:Int)<(p:Int)+aN (b.toNat:Int)
  ·rw[b9 M1];repeat' ((conv=>whnf);first|refine Or.inl ?_|apply oi|apply fi|intro h|refine ci hb (ai rfl (ai rfl (ai rfl trivial))) ?_|refine⟨p,b,rfl,Py,?_⟩|refine ci hz (ai KW trivial) ?_|refine⟨_,rfl,?_⟩|exact Y1|fail)
   all_goals(exfalso;rename_i h0;have h1:¬aN (b.toNat:Int)=0:=(by simpa using h0);rw[c9 _ o_]at h;have h':=f0 h;omega)
  ·rw[b8 M1];repeat' ((conv=>whnf);first|refine Or.inl ?_|apply oi|apply fi|intro h|refine ci hb (ai rfl (ai rfl (ai rfl trivial))) ?_|refine⟨p,b,rfl,Py,?_⟩|refine ci hz (ai KW trivial) ?_|refine ci ha (ai KW trivial) ?_|refine⟨_,rfl,?_⟩|exact Y1|fail)
   all_goals try(exfalso;first|(have h1:aN (b.toNat:Int)=0:=(by simpa using h);omega)|(rw[c9 _ o_]at h;have h':=f9 h;omega))
   obtain⟨n,hn,UH,TK⟩:=zf (b.toNat:Int)
   have hos:aN (b.toNat:Int)=n+1:=by exact V89
   have RP:=fun m=>qm (m:=m) hn;have Qw:=fun m=>oy (m:=m) hn;rw[hn,d9]
   generalize(bc (b.toNat:Int)).2=sg at *
   generalize hV:ky (b.toNat:Int)=V at *
   conv=>whnf
   refine⟨{k:Nat//k<=n},fun k=>⟨[(0,tS s),(1,tI .i64 (p:Int)),(4,.r (.c (.ptr (4,0,0) 0))),(7,.r (.c (.ptr (7,0,0) 0))),(8,tI .i64 (aN (b.toNat:Int))),(9,tI .i64 (n:Int)),(10,tB sg),(11,tI .i64 (k.1:Int))],[((7,0,0),some (.box [.t (.int .i64 b.toNat),.t (.int .i64 (aX s (p+1) k.1:Nat))])),((4,0,0),some (.box [.t (.int .i64 0),.t (.int .i64 0)]))],[7,4]⟩,fun k=>n-k.1,⟨0,o_⟩,?_,?_⟩
   ·repeat' ((conv=>whnf);first|refine Or.inl ?_|apply oi|apply fi|intro h|refine⟨_,rfl,?_⟩|exact Y1|fail)
    all_goals exact⟨by first|rfl|(rw[XV];done)|(rw[hn];done)⟩
   intro⟨k,hk⟩;dsimp only;by_cases Qv:k<n
   ·obtain⟨b2,Oo⟩:=ae (l:=s) (k:=p+1+k) o_;have Ur:cC s (p+1+k)=b2.toNat:=by rw[cC,Oo]
    have Pc:=UInt8.toNat_lt b2;have UL:=fA s (p+1) k;have PS:IntKind.i64.wrap (IntKind.i64.wrap ((p:Int)+1)+k)=((p+1+k:Nat):Int):=by rw[c9 ((p:Int)+1) o_,c9 _ o_];omega
    have N8:aX s (p+1) (k+1)=aX s (p+1) k+b2.toNat*256^k:=by rw[aX,Ur]
    have Pe:IntKind.i64.wrap (b2.toNat:Int)=b2.toNat:=c9 _ o_;repeat' ((conv=>whnf);first|refine Or.inl ?_|apply oi|apply fi|intro h|refine⟨(p+1+k),b2,PS,Oo,?_⟩|refine⟨_,rfl,?_⟩|exact Y12|fail)
    conv=>whnf
    refine⟨⟨k+1,o_⟩,?_,KD⟩;repeat' ((conv=>whnf);first|refine Or.inl ?_|apply oi|apply fi|intro h|refine⟨_,rfl,?_⟩|exact Y1|fail)
    ·exact⟨by dsimp only;rw[c9 _ o_];rfl⟩
    ·refine⟨congrArg (Tr.int _) ?_⟩;dsimp only;rw[N8,Pe];exact Ki o_ UL Pc
   ·have O5:k=n:=o_;subst O5;have UL:=fA s (p+1) k
    cases sg with
    | false=>
     have hv:=Qw (aX s (p+1) k) s_;repeat' ((conv=>whnf);first|refine Or.inl ?_|apply oi|apply fi|intro h|refine⟨_,rfl,?_⟩|exact Y2|fail)
     all_goals(refine⟨congrArg (Tr.int _) ?_⟩;simp only[opX,opZ];first|(rw[hv];done)|omega)
    | true=>
     have XG:∃A B:Nat,2^(8*k-1)=A/\2^(8*k)=B/\B<=4294967296/\IntKind.i64.wrap (1*2^(min (Int.toNat (IntKind.i64.wrap (IntKind.i64.wrap (8*(k:Int))-1))) IntKind.i64.bits))=(A:Int)/\
       IntKind.i64.wrap (1*2^(min (Int.toNat (IntKind.i64.wrap (8*(k:Int)))) IntKind.i64.bits))=(B:Int)/\256^k=B:=by
      exact V91
     obtain⟨A,B,hA,hB,hBl,Pu,S3,Uf⟩:=XG;rw[Uf]at UL;have Yh:(2:Int)^(8*k)=(B:Int):=by rw[<-hB];simp
     rw[hA,Yh]at RP;rw[hA]at Qw
     have Rt:0<=IntKind.i64.wrap (IntKind.i64.wrap (8*(k:Int))-1):=by rcases TK rfl with h|h<;>rw[h]<;>decide
     have Sf:0<=IntKind.i64.wrap (8*(k:Int)):=by rcases TK rfl with h|h<;>rw[h]<;>decide
     by_cases N2:A<=aX s (p+1) k
     ·have hv:=RP _ rfl N2;have Qk:IntKind.i64.wrap ((aX s (p+1) k:Int)-(B:Int))=(aX s (p+1) k:Int)-B:=c9 _ o_;repeat' ((conv=>whnf);first|refine Or.inl ?_|apply oi|apply fi|intro h|refine⟨_,rfl,?_⟩|exact Y2|fail)
      all_goals try(exfalso;rw[Pu]at h;have h':=f0 h;omega)
      all_goals first
       | exact⟨Rt⟩
       | exact⟨Sf⟩
       |(refine⟨congrArg (Tr.int _) ?_⟩;simp only[opX,opZ];first|(rw[S3,Qk,hv];done)|omega)
     ·have hv:=Qw _ (fun h=>N2 h.2);repeat' ((conv=>whnf);first|refine Or.inl ?_|apply oi|apply fi|intro h|refine⟨_,rfl,?_⟩|exact Y2|fail)
      all_goals try(exfalso;rw[Pu]at h;have h':=f9 h;omega)
      all_goals first
       | exact⟨Rt⟩
       | exact⟨Sf⟩
       |(refine⟨congrArg (Tr.int _) ?_⟩;simp only[opX,opZ];first|(rw[hv];done)|omega)
 ·rw[bx,b8 hin]
  have Sj:af p 0 (IntKind.i64.wrap (s.length-1))=false:=by
   rw[hw]
   cases h:af p 0 ((s.length:Int)-1)with
   | false=>rfl
   | true=>exact absurd (within_iff.1 h) o_
  rw[Sj]at hb;repeat' ((conv=>whnf);first|refine Or.inl ?_|apply oi|apply fi|intro h|refine ci hb (ai rfl (ai rfl (ai rfl trivial))) ?_|refine⟨_,rfl,?_⟩|exact Y1|fail)
theorem uL (s:List UInt8)(p:Int)(hs:s.length<=1048576)(hp:p<=9223372036854775807):Sim.Spec Try.prog 84 [tvS s,tvI p] (rOp (bx s p)):=by
 refine aG hΓ aK Try.func84 rfl d_ rfl ?_;have hw:IntKind.i64.wrap ((s.length:Int)-1)=(s.length:Int)-1:=c9 _ o_;by_cases hin:0<=p/\p<s.length
 ·obtain⟨p,rfl⟩:=j8 hin.1;obtain⟨b,Py⟩:=ae (l:=s) (k:=p) o_;have Yl:cC s p=b.toNat:=by rw[cC,Py]
  have hz:=oW (b.toNat:Int);have ha:=fS (b.toNat:Int);have TS:=jG (b.toNat:Int);have J3:=UInt8.toNat_lt b;have XV:IntKind.i64.wrap (b.toNat:Int)=b.toNat:=c9 _ o_;rw[bx,b9 hin,d9,Yl];by_cases M1:aN (b.toNat:Int)=0\/(s.length:Int)<(p:Int)+aN (b.toNat:Int)
  ·rw[b9 M1]
   have WX:IntKind.i64.wrap (IntKind.i64.wrap ((p:Int)+1)+(bc (b.toNat:Int)).1)=(p:Int)+1+(bc (b.toNat:Int)).1:=by have:=dV (b.toNat:Int);rw[c9 ((p:Int)+1) o_,c9 _ o_]
   have Vo:¬aN (b.toNat:Int)=0->aN (b.toNat:Int)=(bc (b.toNat:Int)).1+1:=fun h=>by
    unfold aN at h⊢;split at h
    ·rename_i UC;rw[b9 UC]
    ·omega
   repeat' ((conv=>whnf);first|refine Or.inl ?_|apply oi|apply fi|intro h|refine⟨p,b,rfl,Py,?_⟩|refine ci hz (ai KW trivial) ?_|refine ci ha (ai KW trivial) ?_|refine⟨_,rfl,?_⟩|exact Y1|fail)
   all_goals try(exfalso;first|(have h':=f9 h;omega))
   all_goals(exfalso;rename_i h0;have h1:¬aN (b.toNat:Int)=0:=(by simpa using h0);rw[WX]at h;have h':=f0 h;have:=Vo h1;omega)
  ·rw[b8 M1]
   have WX:IntKind.i64.wrap (IntKind.i64.wrap ((p:Int)+1)+(bc (b.toNat:Int)).1)=(p:Int)+1+(bc (b.toNat:Int)).1:=by have:=dV (b.toNat:Int);rw[c9 ((p:Int)+1) o_,c9 _ o_]
   have Vo:aN (b.toNat:Int)=(bc (b.toNat:Int)).1+1:=by
    have h:¬aN (b.toNat:Int)=0:=fun h=>M1 (Or.inl h);unfold aN at h⊢;split at h
    ·rename_i UC;rw[b9 UC]
    ·omega
   repeat' ((conv=>whnf);first|refine Or.inl ?_|apply oi|apply fi|intro h|refine⟨p,b,rfl,Py,?_⟩|refine ci hz (ai KW trivial) ?_|refine ci ha (ai KW trivial) ?_|refine⟨_,rfl,?_⟩|exact Y1|fail)
   all_goals try(exfalso;first|(have h1:aN (b.toNat:Int)=0:=(by simpa using h);omega)|(rw[WX]at h;have h':=f9 h;omega)|(have h':=f9 h;omega))
   clear WX;obtain⟨n,hn,UH,TK⟩:=zf (b.toNat:Int)
   have hos:aN (b.toNat:Int)=n+1:=by exact V89
   have RP:=fun m=>qm (m:=m) hn;have Qw:=fun m=>oy (m:=m) hn;rw[hn,d9]
   generalize(bc (b.toNat:Int)).2=sg at *
   generalize hV:ky (b.toNat:Int)=V at *
   conv=>whnf
   refine⟨{k:Nat//k<=n},fun k=>⟨[(0,tS s),(1,tI .i64 (p:Int)),(4,.r (.c (.ptr (4,0,0) 0))),(7,.r (.c (.ptr (7,0,0) 0))),(8,tI .i64 (n:Int)),(9,tB sg),(10,tI .i64 (k.1:Int))],[((7,0,0),some (.box [.t (.int .i64 b.toNat),.t (.int .i64 (aX s (p+1) k.1:Nat))])),((4,0,0),some (.box [.t (.int .i64 0),.t (.int .i64 0)]))],[7,4]⟩,fun k=>n-k.1,⟨0,o_⟩,?_,?_⟩
   ·repeat' ((conv=>whnf);first|refine Or.inl ?_|apply oi|apply fi|intro h|refine⟨_,rfl,?_⟩|exact Y1|fail)
    all_goals exact⟨by first|rfl|(rw[XV];done)|(rw[hn];done)⟩
   intro⟨k,hk⟩;dsimp only;by_cases Qv:k<n
   ·obtain⟨b2,Oo⟩:=ae (l:=s) (k:=p+1+k) o_;have Ur:cC s (p+1+k)=b2.toNat:=by rw[cC,Oo]
    have Pc:=UInt8.toNat_lt b2;have UL:=fA s (p+1) k;have PS:IntKind.i64.wrap (IntKind.i64.wrap ((p:Int)+1)+k)=((p+1+k:Nat):Int):=by rw[c9 ((p:Int)+1) o_,c9 _ o_];omega
    have N8:aX s (p+1) (k+1)=aX s (p+1) k+b2.toNat*256^k:=by rw[aX,Ur]
    have Pe:IntKind.i64.wrap (b2.toNat:Int)=b2.toNat:=c9 _ o_;repeat' ((conv=>whnf);first|refine Or.inl ?_|apply oi|apply fi|intro h|refine⟨(p+1+k),b2,PS,Oo,?_⟩|refine⟨_,rfl,?_⟩|exact Y12|fail)
    conv=>whnf
    refine⟨⟨k+1,o_⟩,?_,KD⟩;repeat' ((conv=>whnf);first|refine Or.inl ?_|apply oi|apply fi|intro h|refine⟨_,rfl,?_⟩|exact Y1|fail)
    ·exact⟨by dsimp only;rw[c9 _ o_];rfl⟩
    ·refine⟨congrArg (Tr.int _) ?_⟩;dsimp only;rw[N8,Pe];rw[yF o_ Pc];have h4:=zA (show k<4 by omega);have h5:b2.toNat*256^k<=255*16777216:=A1 o_ h4;rw[c9 _ o_];simp
   ·have O5:k=n:=o_;subst O5;have UL:=fA s (p+1) k;have YJ:IntKind.i64.wrap (1+(k:Int))=1+k:=c9 _ o_
    cases sg with
    | false=>
     have hv:=Qw (aX s (p+1) k) s_;repeat' ((conv=>whnf);first|refine Or.inl ?_|apply oi|apply fi|intro h|refine⟨_,rfl,?_⟩|exact Y2|fail)
     all_goals(refine⟨congrArg (Tr.int _) ?_⟩;simp only[opX,opZ];first|(rw[hv];done)|(rw[YJ];omega))
    | true=>
     have XG:∃A B:Nat,2^(8*k-1)=A/\2^(8*k)=B/\B<=4294967296/\IntKind.i64.wrap (1*2^(min (Int.toNat (IntKind.i64.wrap (IntKind.i64.wrap (8*(k:Int))-1))) IntKind.i64.bits))=(A:Int)/\
       IntKind.i64.wrap (1*2^(min (Int.toNat (IntKind.i64.wrap (8*(k:Int)))) IntKind.i64.bits))=(B:Int)/\256^k=B:=by
      exact V91
     obtain⟨A,B,hA,hB,hBl,Pu,S3,Uf⟩:=XG;rw[Uf]at UL;have Yh:(2:Int)^(8*k)=(B:Int):=by rw[<-hB];simp
     rw[hA,Yh]at RP;rw[hA]at Qw
     have Rt:0<=IntKind.i64.wrap (IntKind.i64.wrap (8*(k:Int))-1):=by rcases TK rfl with h|h<;>rw[h]<;>decide
     have Sf:0<=IntKind.i64.wrap (8*(k:Int)):=by rcases TK rfl with h|h<;>rw[h]<;>decide
     by_cases N2:A<=aX s (p+1) k
     ·have hv:=RP _ rfl N2;have Qk:IntKind.i64.wrap ((aX s (p+1) k:Int)-(B:Int))=(aX s (p+1) k:Int)-B:=c9 _ o_;repeat' ((conv=>whnf);first|refine Or.inl ?_|apply oi|apply fi|intro h|refine⟨_,rfl,?_⟩|exact Y2|fail)
      all_goals try(exfalso;rw[Pu]at h;have h':=f0 h;omega)
      all_goals first
       | exact⟨Rt⟩
       | exact⟨Sf⟩
       |(refine⟨congrArg (Tr.int _) ?_⟩;simp only[opX,opZ];first|(rw[S3,Qk,hv];done)|(rw[YJ];omega))
     ·have hv:=Qw _ (fun h=>N2 h.2);repeat' ((conv=>whnf);first|refine Or.inl ?_|apply oi|apply fi|intro h|refine⟨_,rfl,?_⟩|exact Y2|fail)
      all_goals try(exfalso;rw[Pu]at h;have h':=f9 h;omega)
      all_goals first
       | exact⟨Rt⟩
       | exact⟨Sf⟩
       |(refine⟨congrArg (Tr.int _) ?_⟩;simp only[opX,opZ];first|(rw[hv];done)|(rw[YJ];omega))
 ·rw[bx,b8 hin];repeat' ((conv=>whnf);first|refine Or.inl ?_|apply oi|apply fi|intro h|refine⟨_,rfl,?_⟩|exact Y1|fail)
  all_goals(exfalso;rename_i h0;have h1:=f0 h0;have h2:=f0 h;omega)
def nH (s:List UInt8):Nat->Nat->Option (List NZ)
 | 0,p=>if p<s.length then none else some []
 | f+1,p=>if p<s.length then(match bx s (p:Int)with
   | some x=>(nH s f (p+x.2)).map (x.1::·)
   | none=>none)else some []
def fD (s:List UInt8):Option (List NZ):=nH s s.length 0
theorem iM {s:List UInt8}{p:Nat}{x:NZ}{z:Nat}(h:bx s (p:Int)=some (x,z)):1<=z/\z<=5/\p+z<=s.length:=by
 unfold bx at h;split at h
 ·rename_i hin;split at h
  ·cases h
  ·rename_i M1;injection h with h;injection h with h1 h2;rw[not_or]at M1;have:=jG (cC s (p:Int).toNat);omega
 ·cases h
theorem sJ {s:List UInt8}:∀{f p:Nat},s.length-p<=f->nH s f p=nH s (s.length-p) p
 | 0,p,h=>by rw[show s.length-p=0 by omega]
 | f+1,p,h=>by
  rcases m6 p s.length with J3|N2
  ·obtain⟨m,hm⟩:∃m,s.length-p=m+1:=⟨s.length-p-1,o_⟩;rw[hm,nH,nH,b9 J3,b9 J3]
   match hd:bx s (p:Int)with
   | none=>rfl
   | some (x,z)=>have:=iM hd;dsimp only;rw[sJ (f:=f) (p:=p+z) o_,sJ (f:=m) (p:=p+z) o_]
  ·rw[nH,b8 o_,show s.length-p=0 by omega,nH,b8 o_]
theorem sn {s:List UInt8}{p:Nat}(J3:p<s.length):nH s (s.length-p) p=(match bx s (p:Int)with
  | some x=>(nH s (s.length-(p+x.2)) (p+x.2)).map (x.1::·)
  | none=>none):=by
 obtain⟨m,hm⟩:∃m,s.length-p=m+1:=⟨s.length-p-1,o_⟩;rw[hm,nH,b9 J3]
 match hd:bx s (p:Int)with
 | none=>rfl
 | some (x,z)=>have:=iM hd;dsimp only;rw[sJ (f:=m) (p:=p+z) o_]
theorem xg {s:List UInt8}{p:Nat}(N2:s.length<=p):nH s (s.length-p) p=some []:=by rw[show s.length-p=0 by omega,nH,b8 o_]
abbrev LV (s:List UInt8)(R:Option (List NZ)):={q:Nat×List NZ//q.1<=s.length/\q.2.length<=q.1/\(nH s (s.length-q.1) q.1).map (q.2++·)=R}
theorem V7{p:Prop}(h:p:=by
 rw[sn J3]at hr
 match hd:bx s (p:Int)with
 | none=>
  rw[hd]at hr hD;dsimp only[rOp,opX,opZ,Option.isSome]at hr hD;subst hr
  repeat' ((conv=>whnf);first|refine Or.inl ?_|apply oi|apply fi|intro h|refine ci hD (ai rfl (ai rfl trivial)) ?_|refine⟨_,rfl,?_⟩|exact Y2|fail)
 | some (x,z)=>
  rw[hd]at hr hD;have hz:=iM hd;dsimp only[rOp,opX,opZ,Option.isSome]at hr hD;repeat' ((conv=>whnf);first|refine Or.inl ?_|apply oi|apply fi|intro h|refine ci hD (ai rfl (ai rfl trivial)) ?_|refine⟨_,rfl,?_⟩|exact Y2|fail)
  all_goals try exact⟨⟨by simp only[e8,d5,gt];omega,by simp only[e8,d5,gt];omega⟩⟩
  conv=>whnf
  refine⟨⟨(p+z,acc++[x]),g_,by simp;omega,?_⟩,?_,KD⟩
  ·dsimp only;rw[<-hr,Option.map_map];congr 1;funext l;simp
  repeat' ((conv=>whnf);first|refine Or.inl ?_|apply oi|apply fi|intro h|refine⟨_,rfl,?_⟩|exact Y1|fail)
  all_goals first
   |(refine⟨congrArg (Tr.int _) ?_⟩;dsimp only;rw[c9 _ o_];omega)
   |(refine⟨?_⟩;dsimp only;rw[u4];rfl)):p:=h
theorem V100{p:Prop}(h:p:=by
 have N2:s.length<=p:=o_;rw[xg N2]at hr;simp only[x7,m9]at hr;subst hr
 exact Z3):p:=h
theorem qb (s:List UInt8)(hs:s.length<=1048576):Sim.Spec Try.prog 54 [tvS s] (.tup [.c (.arr 2 ((oL (fD s)).map NZ.tr)),.c (.t (.bool (fD s).isSome))]):=by
 refine aG hΓ aK Try.func54 rfl d_ rfl ?_;have Wi:(nH s (s.length-0) 0).map (([]:List NZ)++·)=fD s:=by simp[fD]
 generalize fD s=R at Wi⊢;repeat' ((conv=>whnf);first|refine Or.inl ?_|apply oi|apply fi|intro h|refine⟨_,rfl,?_⟩|exact Y1|fail)
 conv=>whnf
 refine⟨LV s R,fun q=>⟨[(0,tS s),(4,.r (.c (.own (9,0,0)))),(5,tI .i64 (q.1.1:Int))],[((9,0,0),some (.arr true 2 (q.1.2.map NZ.tr)))],[9]⟩,fun q=>s.length-q.1.1,⟨(0,[]),s_,s_,Wi⟩,?_,?_⟩
 ·exact Z2
 intro⟨⟨p,acc⟩,hp,Ow,hr⟩;dsimp only at hp Ow hr⊢;by_cases J3:p<s.length
 ·have hD:=mz s (p:Int) hs o_;exact V7
 ·exact V100
theorem pS (s:List UInt8)(hs:s.length<=1048576):Sim.Spec Try.prog 81 [tvS s] (.tup [.c (.arr 2 ((oL (fD s)).map NZ.tr)),.c (.t (.bool (fD s).isSome))]):=by
 refine aG hΓ aK Try.func81 rfl d_ rfl ?_;have Wi:(nH s (s.length-0) 0).map (([]:List NZ)++·)=fD s:=by simp[fD]
 generalize fD s=R at Wi⊢;repeat' ((conv=>whnf);first|refine Or.inl ?_|apply oi|apply fi|intro h|refine⟨_,rfl,?_⟩|exact Y1|fail)
 conv=>whnf
 refine⟨LV s R,fun q=>⟨[(0,tS s),(4,.r (.c (.own (9,0,0)))),(5,tI .i64 (q.1.1:Int))],[((9,0,0),some (.arr true 2 (q.1.2.map NZ.tr)))],[9]⟩,fun q=>s.length-q.1.1,⟨(0,[]),s_,s_,Wi⟩,?_,?_⟩
 ·exact Z2
 intro⟨⟨p,acc⟩,hp,Ow,hr⟩;dsimp only at hp Ow hr⊢;by_cases J3:p<s.length
 ·have hD:=uL s (p:Int) hs o_;exact V7
 ·exact V100
def fM (seen:List Of)(nm:List UInt8):Bool:=seen.any fun y=>y.fac==nm
def vU (len a:Nat)(x:Of):Bool:=x.fak==(a:Int)&&(decide (1<=x.faw)&&(decide (x.faw<=(len:Int)-a)&&dq x.fac))
def xv (code:List UInt8)(seen:List Of)(a:Nat)(x:Of):Bool:=vU code.length a x&&(!(fM seen x.fac)&&(fD ((code.take (a+x.faw.toNat)).drop a)).isSome)
def eW (code:List UInt8):List Of->Nat->List Of->Bool
 | _,a,[]=>a==code.length
 | seen,a,x::l=>xv code seen a x&&eW code (seen++[x]) (a+x.faw.toNat) l
def bu (i:NU):Bool:=decide (i.fab.length<=1000000)&&eW i.fab [] 0 i.fam
theorem HV {code:List UInt8}{l:List Of}{k a:Nat}{x:Of}(hx:l[k]?=some x):eW code (l.take k) a (l.drop k)=(xv code (l.take k) a x&&eW code (l.take (k+1)) (a+x.faw.toNat) (l.drop (k+1))):=by rw[dD hx,eW];obtain⟨hk,rfl⟩:=y6.1 hx;rw[z4 hk]
theorem yX {l:List Of}{j:Nat}{y:Of}{nm:List UInt8}(hy:l[j]?=some y):fM (l.take (j+1)) nm=(fM (l.take j) nm||y.fac==nm):=by obtain⟨hk,rfl⟩:=y6.1 hy;rw[z4 hk,fM,List.any_append];simp[fM]
theorem Cz {l:List Of}{j k:Nat}{y:Of}(hy:l[j]?=some y)(h:j<k):fM (l.take k) y.fac=true:=by rw[fM,y9];refine⟨y,?_,s_⟩;rw[t9];exact⟨j,by rw[n6,b9 h];exact hy⟩
theorem imgPre_iff {len a:Nat}{x:Of}:vU len a x=true↔x.fak=(a:Int)/\1<=x.faw/\x.faw<=(len:Int)-a/\dq x.fac=true:=by unfold vU;rw[c8,c8,c8,w8,i7,i7]
abbrev Mf (code:List UInt8)(l:List Of):={q:Nat×Nat//q.1<=l.length/\q.2<=code.length/\eW code (l.take q.1) q.2 (l.drop q.1)=eW code [] 0 l}
theorem V17{p:Prop}(h:p:=by
 rw[Tg]at hr hD;repeat' ((conv=>whnf);first|refine Or.inl ?_|apply oi|apply fi|intro h|refine ci hD (ai rfl trivial) ?_|refine⟨_,rfl,?_⟩|exact Y1|fail)
 all_goals try(exfalso;simp at h;done)
 conv=>whnf
 refine⟨⟨(j+1,a+z),g_,g_,by simpa using hr⟩,?_,KD⟩;repeat' ((conv=>whnf);first|refine Or.inl ?_|apply oi|apply fi|intro h|refine⟨_,rfl,?_⟩|exact Y1|fail)
 all_goals first
  | exact⟨by dsimp only;rw[Pe]⟩
  | exact⟨by dsimp only;rw[c9 _ o_];rfl⟩):p:=h
theorem ww (i:NU)(hs:aR 1048576 i.tr):Sim.Spec Try.prog 35 [.agg i.tr] (rB (bu i)):=by
 refine aG hΓ aK Try.func35 rfl d_ rfl ?_;obtain⟨code,l⟩:=i;simp only[NU.tr,aR]at hs;have M6:code.length<=1048576:=by have:=hs.1;rw[aH]at this;omega
 have hl:=cQ hs.2.1;have J0:(l.map Of.tr).length=l.length:=s_;unfold bu;dsimp only;by_cases Wr:code.length<=1000000
 ·rw[show decide (code.length<=1000000)=true from s6 Wr,m8];repeat' ((conv=>whnf);first|refine Or.inl ?_|apply oi|apply fi|intro h|refine⟨_,rfl,?_⟩|exact Y1|fail)
  all_goals try(exfalso;have h':=f9 h;dsimp only at h';omega;done)
  conv=>whnf
  refine⟨Mf code l,fun q=>⟨[(1,.r (.c (.ptr (1,0,0) 0))),(3,tI .i64 (q.1.2:Int)),(15,.r (.c (.t (.lst 3 (l.map Of.tr))))),(16,tI .i64 ((l.map Of.tr).length:Int)),(17,tI .i64 (q.1.1:Int))],[((1,0,0),some (.box [.t (.str code),.t (.lst 3 (l.map Of.tr))]))],[1]⟩,fun q=>l.length-q.1.1,⟨(0,0),s_,s_,s_⟩,?_,?_⟩
  ·exact Z2
  intro⟨⟨k,a⟩,hk,ha,hr⟩;dsimp only at hk ha hr⊢;by_cases J3:k<l.length
  ·obtain⟨x,hx⟩:=ae J3
   have RN:x.fac.length<=1099511627775:=by have:=bi hs.2.1 (d4 hx);simp only[Of.tr,aR,aH]at this;omega
   have hN:=yg x.fac RN;rw[HV hx,xv]at hr;have OB:IntKind.i64.wrap ((code.length:Int)-a)=(code.length:Int)-a:=c9 _ o_
   cases OJ:vU code.length a x with
   | false=>
    rw[OJ,q9,q9]at hr;repeat' ((conv=>whnf);first|refine Or.inl ?_|apply oi|apply fi|intro h|refine⟨k,x.tr,rfl,ab hx,?_⟩|refine ci hN (ai rfl trivial) ?_|refine⟨_,rfl,?_⟩|exact Y1|fail)
    all_goals try(exfalso;have h':=f0 h;rw[J0]at h';omega;done)
    all_goals try exact⟨by rw[<-hr]⟩
    all_goals(exfalso;rw[<-Bool.not_eq_true,imgPre_iff]at OJ;apply OJ;rw[OB]at *;(simp_all)<;>omega)
   | true=>
    obtain⟨p1,p2,p3,p4⟩:=imgPre_iff.1 OJ;rw[p4]at hN;rw[OJ,m8]at hr;repeat' ((conv=>whnf);first|refine Or.inl ?_|apply oi|apply fi|intro h|refine⟨k,x.tr,rfl,ab hx,?_⟩|refine ci hN (ai rfl trivial) ?_|refine⟨_,rfl,?_⟩|exact Y1|fail)
    all_goals try(exfalso;first|(have h':=f0 h;rw[J0]at h';omega)|(simp at h;done)|(rw[p1]at h;simp at h;done)|(have h':=f9 h;(try rw[OB]at h');omega))
    conv=>whnf
    refine⟨0,k,rfl,rfl,o_,by rw[J0];omega,?_⟩;repeat' ((conv=>whnf);first|refine Or.inl ?_|apply oi|apply fi|intro h|refine⟨_,rfl,?_⟩|exact Y1|fail)
    conv=>whnf
    have OY:(((l.map Of.tr).take k).drop 0).length=k:=by simp;omega
    refine⟨{j:Nat//j<=k/\fM (l.take j) x.fac=false},fun j=>⟨[(1,.r (.c (.ptr (1,0,0) 0))),(3,tI .i64 (a:Int)),(5,.r (.c (.ptr (5,0,0) 0))),(15,.r (.c (.t (.lst 3 (l.map Of.tr))))),(16,tI .i64 ((l.map Of.tr).length:Int)),(17,tI .i64 (k:Int)),(50,.r (.c (.t (.lst 3 (((l.map Of.tr).take k).drop 0))))),(51,tI .i64 ((((l.map Of.tr).take k).drop 0).length:Int)),(52,tI .i64 (j.1:Int))],[((1,0,0),some (.box [.t (.str code),.t (.lst 3 (l.map Of.tr))])),((5,0,0),some (.box [.t (.str x.fac),.t (.int .i64 x.fak),.t (.int .i64 x.faw)]))],[5,1]⟩,fun j=>k-j.1,⟨0,o_,rfl⟩,?_,?_⟩
    ·exact Z2
    intro⟨j,hj,Ri⟩;dsimp only;by_cases Pm:j<k
    ·obtain⟨y,hy⟩:=ae (l:=l) (k:=j) o_;have U6:(((l.map Of.tr).take k).drop 0)[j]?=some y.tr:=by rw[A8,n6,b9 Pm];exact ab hy
     have N8:=yX (nm:=x.fac) hy;rw[Ri,B3]at N8
     cases S5:(y.fac==x.fac)with
     | true=>
      have VW:=Cz hy Pm;rw[w8.1 S5]at VW;rw[VW]at hr;repeat' ((conv=>whnf);first|refine Or.inl ?_|apply oi|apply fi|intro h|refine⟨j,y.tr,rfl,U6,?_⟩|refine⟨_,rfl,?_⟩|exact Y1|fail)
      all_goals first
       |(exfalso;have h':=f0 h;rw[OY]at h';omega)
       | exact⟨by rw[<-hr];rfl⟩
       |(exfalso;rw[S5]at h;simp at h;done)
     | false=>
      rw[S5]at N8;repeat' ((conv=>whnf);first|refine Or.inl ?_|apply oi|apply fi|intro h|refine⟨j,y.tr,rfl,U6,?_⟩|refine⟨_,rfl,?_⟩|exact Y1|fail)
      all_goals try(exfalso;first|(have h':=f0 h;rw[OY]at h';omega)|(rw[S5]at h;simp at h;done))
      conv=>whnf
      refine⟨⟨j+1,o_,N8⟩,?_,KD⟩;repeat' ((conv=>whnf);first|refine Or.inl ?_|apply oi|apply fi|intro h|refine⟨_,rfl,?_⟩|exact Y1|fail)
      all_goals exact⟨by dsimp only;rw[c9 _ o_];rfl⟩
    ·have T3:j=k:=o_;subst T3;obtain⟨z,hz⟩:=j8 (show 0<=x.faw by omega);have Pe:IntKind.i64.wrap ((a:Int)+x.faw)=((a+z:Nat):Int):=by rw[c9 _ o_,hz];rfl
     rw[Ri,hz,d9]at hr;have hD:=qb ((code.take (a+z)).drop a) (by simp;omega);repeat' ((conv=>whnf);first|refine Or.inl ?_|apply oi|apply fi|intro h|refine⟨_,rfl,?_⟩|exact Y1|fail)
     all_goals try(exfalso;have h':=f9 h;rw[OY]at h';omega)
     conv=>whnf
     refine⟨a,a+z,p1,Pe,o_,o_,?_⟩
     cases Tg:(fD ((code.take (a+z)).drop a)).isSome with
     | false=>
      rw[Tg]at hr hD;repeat' ((conv=>whnf);first|refine Or.inl ?_|apply oi|apply fi|intro h|refine ci hD (ai rfl trivial) ?_|refine⟨_,rfl,?_⟩|exact Y1|fail)
      all_goals first
       | exact⟨by rw[<-hr];rfl⟩
       |(exfalso;simp at h;done)
     | true=>exact V17
  ·have N2:l.length<=k:=o_;rw[q8 N2,eW]at hr;repeat' ((conv=>whnf);first|refine Or.inl ?_|apply oi|apply fi|intro h|refine⟨_,rfl,?_⟩|exact Y2|fail)
   exact⟨by rw[<-hr];congr 1;rw[z7,w8,w8];omega⟩
 ·rw[show decide (code.length<=1000000)=false from C2 Wr,q9];repeat' ((conv=>whnf);first|refine Or.inl ?_|apply oi|apply fi|intro h|refine⟨_,rfl,?_⟩|exact Y1|fail)
  all_goals(exfalso;have h':=f0 h;dsimp only at h';omega)
theorem vy (i:NU)(hs:aR 1048576 i.tr):Sim.Spec Try.prog 68 [.agg i.tr] (rB (bu i)):=by
 refine aG hΓ aK Try.func68 rfl d_ rfl ?_;obtain⟨code,l⟩:=i;simp only[NU.tr,aR]at hs;have M6:code.length<=1048576:=by have:=hs.1;rw[aH]at this;omega
 have hl:=cQ hs.2.1;have J0:(l.map Of.tr).length=l.length:=s_;unfold bu;dsimp only;repeat' ((conv=>whnf);first|refine Or.inl ?_|apply oi|apply fi|intro h|refine⟨_,rfl,?_⟩|exact Y1|fail)
 conv=>whnf
 refine⟨Mf code l,fun q=>⟨[(1,.r (.c (.ptr (1,0,0) 0))),(3,tI .i64 (q.1.2:Int)),(4,tI .i64 (q.1.1:Int))],[((1,0,0),some (.box [.t (.str code),.t (.lst 3 (l.map Of.tr))]))],[1]⟩,fun q=>l.length-q.1.1,⟨(0,0),s_,s_,s_⟩,?_,?_⟩
 ·exact Z2
 intro⟨⟨k,a⟩,hk,ha,hr⟩;dsimp only at hk ha hr⊢;by_cases J3:k<l.length
 ·obtain⟨x,hx⟩:=ae J3
  have RN:x.fac.length<=1099511627775:=by have:=bi hs.2.1 (d4 hx);simp only[Of.tr,aR,aH]at this;omega
  have hN:=fO x.fac RN;rw[HV hx,xv]at hr;have OB:IntKind.i64.wrap ((code.length:Int)-a)=(code.length:Int)-a:=c9 _ o_
  cases OJ:vU code.length a x with
  | false=>
   rw[OJ,q9,q9]at hr;repeat' ((conv=>whnf);first|refine Or.inl ?_|apply oi|apply fi|intro h|refine⟨k,x.tr,rfl,ab hx,?_⟩|refine ci hN (ai rfl trivial) ?_|refine⟨_,rfl,?_⟩|exact Y1|fail)
   all_goals try(exfalso;have h':=f0 h;rw[J0]at h';omega;done)
   all_goals try exact KX
   all_goals try exact⟨by rw[<-hr,C8]⟩
   all_goals(exfalso;rw[<-Bool.not_eq_true,imgPre_iff]at OJ;apply OJ;rw[OB]at *;(simp_all)<;>omega)
  | true=>
   obtain⟨p1,p2,p3,p4⟩:=imgPre_iff.1 OJ;rw[p4]at hN;rw[OJ,m8]at hr;repeat' ((conv=>whnf);first|refine Or.inl ?_|apply oi|apply fi|intro h|refine⟨k,x.tr,rfl,ab hx,?_⟩|refine ci hN (ai rfl trivial) ?_|refine⟨_,rfl,?_⟩|exact Y2|fail)
   all_goals try(exfalso;first|(have h':=f0 h;rw[J0]at h';omega)|(simp at h;done)|(rw[p1]at h;simp at h;done)|(have h':=f9 h;(try rw[OB]at h');omega))
   conv=>whnf
   have OY:(((l.map Of.tr).take k).drop 0).length=k:=by simp;omega
   refine⟨{j:Nat//j<=k/\fM (l.take j) x.fac=false},fun j=>⟨[(1,.r (.c (.ptr (1,0,0) 0))),(3,tI .i64 (a:Int)),(5,.r (.c (.ptr (5,0,0) 0))),(4,tI .i64 (k:Int)),(6,tI .i64 (j.1:Int))],[((1,0,0),some (.box [.t (.str code),.t (.lst 3 (l.map Of.tr))])),((5,0,0),some (.box [.t (.str x.fac),.t (.int .i64 x.fak),.t (.int .i64 x.faw)]))],[5,1]⟩,fun j=>k-j.1,⟨0,o_,rfl⟩,?_,?_⟩
   ·exact Z2
   intro⟨j,hj,Ri⟩;dsimp only;by_cases Pm:j<k
   ·obtain⟨y,hy⟩:=ae (l:=l) (k:=j) o_;have U6:(((l.map Of.tr).take k).drop 0)[j]?=some y.tr:=by rw[A8,n6,b9 Pm];exact ab hy
    have N8:=yX (nm:=x.fac) hy;rw[Ri,B3]at N8
    cases S5:(y.fac==x.fac)with
    | true=>
     have VW:=Cz hy Pm;rw[w8.1 S5]at VW;rw[VW]at hr;repeat' ((conv=>whnf);first|refine Or.inl ?_|apply oi|apply fi|intro h|refine⟨j,y.tr,rfl,ab hy,?_⟩|refine⟨_,rfl,?_⟩|exact Y1|fail)
     all_goals first
      |(exfalso;have h':=f0 h;omega)
      | exact⟨by rw[<-hr];simp⟩
      |(exfalso;rw[S5]at h;simp at h;done)
    | false=>
     rw[S5]at N8;repeat' ((conv=>whnf);first|refine Or.inl ?_|apply oi|apply fi|intro h|refine⟨j,y.tr,rfl,ab hy,?_⟩|refine⟨_,rfl,?_⟩|exact Y1|fail)
     all_goals try(exfalso;first|(have h':=f0 h;omega)|(rw[S5]at h;simp at h;done))
     conv=>whnf
     refine⟨⟨j+1,o_,N8⟩,?_,KD⟩;repeat' ((conv=>whnf);first|refine Or.inl ?_|apply oi|apply fi|intro h|refine⟨_,rfl,?_⟩|exact Y1|fail)
     all_goals exact⟨by dsimp only;rw[c9 _ o_];rfl⟩
   ·have T3:j=k:=o_;subst T3;obtain⟨z,hz⟩:=j8 (show 0<=x.faw by omega);have Pe:IntKind.i64.wrap ((a:Int)+x.faw)=((a+z:Nat):Int):=by rw[c9 _ o_,hz];rfl
    rw[Ri,hz,d9]at hr;have hD:=pS ((code.take (a+z)).drop a) (by simp;omega);repeat' ((conv=>whnf);first|refine Or.inl ?_|apply oi|apply fi|intro h|refine⟨_,rfl,?_⟩|exact Y1|fail)
    all_goals try(exfalso;have h':=f9 h;omega)
    conv=>whnf
    refine⟨a,a+z,rfl,Pe,o_,o_,?_⟩
    cases Tg:(fD ((code.take (a+z)).drop a)).isSome with
    | false=>
     rw[Tg]at hr hD;repeat' ((conv=>whnf);first|refine Or.inl ?_|apply oi|apply fi|intro h|refine ci hD (ai rfl trivial) ?_|refine⟨_,rfl,?_⟩|exact Y1|fail)
     all_goals first
      | exact⟨by rw[<-hr];simp⟩
      |(exfalso;simp at h;done)
    | true=>exact V17
 ·have N2:l.length<=k:=o_;rw[q8 N2,eW]at hr;repeat' ((conv=>whnf);first|refine Or.inl ?_|apply oi|apply fi|intro h|refine⟨_,rfl,?_⟩|exact Y2|fail)
  ·have h9:a=code.length:=by have:=A3 h;omega
   refine⟨congrArg Tr.bool ?_⟩;rw[<-hr,h9,G6,Bool.and_true];exact decide_eq_decide.2 o_
  ·have h9:(a==code.length)=false:=by rw[z8]at h⊢;omega
   refine⟨congrArg Tr.bool ?_⟩;rw[<-hr,h9,C8]
theorem eA {code:List UInt8}:∀{l:List Of} {seen:List Of} {a:Nat},eW code seen a l=true->a<=code.length->∀x∈l,(a:Int)<=x.fak/\1<=x.faw/\x.fak+x.faw<=code.length
 | [],_,_,_,_,x,hx=>by cases hx
 | y::l,seen,a,h,ha,x,hx=>by
  rw[eW,c8,xv,c8,imgPre_iff]at h;obtain⟨⟨⟨p1,p2,p3,_⟩,_⟩,h2⟩:=h;rcases d7.1 hx with rfl|hx
  ·omega
  ·have:=eA h2 o_ x hx;omega
theorem V79{p:Prop}(h:p:=by
 unfold gn;rw[c8,c8,c8,within_iff,within_iff,i7,i7]
 omega):p:=h
theorem wG {code:List UInt8}:∀{l:List Of} {seen:List Of} {a j k:Nat} {x:Of},eW code seen a l=true->a<=code.length->code.length<=1000000->l[k]?=some x->fd x.fak l j=((j+k:Nat):Int)
 | [],_,_,_,_,_,_,_,_,hx=>by simp at hx
 | y::l,seen,a,j,k,x,h,ha,hc,hx=>by
  have Pv:=eA h ha;rw[eW,c8,xv,c8,imgPre_iff]at h;obtain⟨⟨⟨p1,p2,p3,_⟩,_⟩,h2⟩:=h;rw[fd]
  match k,hx with
  | 0,hx=>
   rw[e9]at hx;injection hx with hx;subst hx
   have hh:gn y.fak y=true:=by exact V79
   rw[b9 hh]
   rfl
  | k+1,hx=>
   rw[j6]at hx;have h3:=eA h2 o_ x (d4 hx)
   have hh:¬gn x.fak y=true:=by exact V79
   rw[b8 hh,wG h2 o_ hc hx];congr 1;omega
def bC (i:NU)(b e:Int):Bool:=i.fam.any fun x=>b+x.fak==e
def fy (i0 i1:NU)(b0 b1 e:Int):Int×Int:=
 if b0<=e/\e<b0+i0.fab.length then(0,e-b0)else if b1<=e/\e<b1+i1.fab.length then(1,e-b1)else(-1,-1)
def ox (i:NU)(off:Int):Bool:=decide (0<=fk i.fam off)&&(match i.fam[(fk i.fam off).toNat]? with|some x=>x.fak==off|none=>false)
theorem imageOk_iff {i:NU}:bu i=true↔i.fab.length<=1000000/\eW i.fab [] 0 i.fam=true:=by rw[bu,c8,i7]
theorem tD {i:NU}(h:bu i=true){off:Int}:ox i off=true↔∃x∈i.fam,x.fak=off:=by
 obtain⟨hc,ho⟩:=imageOk_iff.1 h;unfold ox;constructor
 ·intro h1;rw[c8]at h1;split at h1
  ·rename_i x hx;exact⟨x,d4 hx,by simpa using h1.2⟩
  ·cases h1.2
 ·rintro⟨x,hx,rfl⟩;obtain⟨k,hk⟩:=t9.1 hx;have:=wG (j:=0) ho o_ hc hk;rw[s5]at this;rw[fk,this,d9,hk];simp
def EA (i0 i1:NU)(b0 b1 e:Int):Bool:=
 if(fy i0 i1 b0 b1 e).1=0 then ox i0 (fy i0 i1 b0 b1 e).2 else if(fy i0 i1 b0 b1 e).1=1 then ox i1 (fy i0 i1 b0 b1 e).2 else false
def cY (i0 i1:NU)(b0 b1:Int):Bool:=decide (0<i0.fab.length)&&(decide (0<i1.fab.length)&&(decide (b0<b1+i1.fab.length)&&decide (b1<b0+i0.fab.length)))
theorem V101{p:Prop}(h:p:=by
 intro⟨a,b,c,d⟩;rw[cY,s6 a,s6 b,s6 c,s6 d]at ho
 cases ho):p:=h
theorem ER {i0 i1:NU}{b0 b1 e:Int}(h0:bu i0=true)(h1:bu i1=true)(ho:cY i0 i1 b0 b1=false):EA i0 i1 b0 b1 e=(bC i0 b0 e||bC i1 b1 e):=by
 have M1:¬(0<i0.fab.length/\0<i1.fab.length/\b0<b1+i1.fab.length/\b1<b0+i0.fab.length):=by exact V101
 have m0:=eA (imageOk_iff.1 h0).2 o_;have m1:=eA (imageOk_iff.1 h1).2 o_
 have e0:∀{i:NU} {b:Int},bC i b e=true↔∃x∈i.fam,b+x.fak=e:=by intro i b;rw[bC,y9];simp only[w8]
 rw[z7,v7,e0,e0,EA,fy];by_cases c0:b0<=e/\e<b0+i0.fab.length
 ·rw[b9 c0,b9 rfl,tD h0];constructor
  ·rintro⟨x,hx,h⟩;exact .inl ⟨x,hx,by dsimp only at h;omega⟩
  ·rintro(⟨x,hx,h⟩|⟨x,hx,h⟩)
   ·exact⟨x,hx,g_⟩
   ·have:=m1 x hx;exfalso;apply M1;omega
 ·rw[b8 c0];by_cases c1:b1<=e/\e<b1+i1.fab.length
  ·rw[b9 c1,b8 s_,b9 rfl,tD h1];constructor
   ·rintro⟨x,hx,h⟩;exact .inr ⟨x,hx,by dsimp only at h;omega⟩
   ·rintro(⟨x,hx,h⟩|⟨x,hx,h⟩)
    ·have:=m0 x hx;exfalso;apply c0;omega
    ·exact⟨x,hx,g_⟩
  ·rw[b8 c1,b8 d_,b8 d_];constructor
   ·intro h;cases h
   ·rintro(⟨x,hx,h⟩|⟨x,hx,h⟩)
    ·have:=m0 x hx;exfalso;apply c0;omega
    ·have:=m1 x hx;exfalso;apply c1;omega
def eH (i0 i1:NU)(b0 b1:Int)(es:List Int):Bool:=
 af es.length 1 6&&(bu i0&&(af b0 1 1000000&&(bu i1&&(af b1 1 1000000&&(!(cY i0 i1 b0 b1)&&es.all fun e=>bC i0 b0 e||bC i1 b1 e)))))
def cN (s:Oe):Bool:=match s.faB,s.faE with
 | [i0,i1],[b0,b1]=>eH i0 i1 b0 b1 s.fan
 | _,_=>false
abbrev ub (i0 i1:NU)(b0 b1:Int)(es:List Int):List AC:=[.t (.lst 2 [i0.tr,i1.tr]),.t (.lst 1 [aa b0,aa b1]),.t (.lst 1 (es.map aa))]
theorem xb (i0 i1:NU)(b0 b1 e:Int)(es:List Int)(h0:∀x∈i0.fam,0<=x.fak/\x.fak<=1000000)(h1:∀x∈i1.fam,0<=x.fak/\x.fak<=1000000)(Sp:0<=b0/\b0<=1000000)(OU:0<=b1/\b1<=1000000)(WY:i0.fam.length<=1048576)(RM:i1.fam.length<=1048576):Sim.Spec Try.prog 36 [.agg (Oe.mk [i0,i1] [b0,b1] es).tr,tvI e] (rB (bC i0 b0 e||bC i1 b1 e)):=by
 refine aG hΓ aK Try.func36 rfl d_ rfl ?_;repeat' ((conv=>whnf);first|refine Or.inl ?_|apply oi|apply fi|intro h|refine⟨_,rfl,?_⟩|exact Y1|fail)
 conv=>whnf
 refine⟨{k:Nat//k<=2/\(1<=k->bC i0 b0 e=false)/\(2<=k->bC i1 b1 e=false)},fun k=>⟨[(1,tI .i64 e),(2,.r (.c (.ptr (2,0,0) 0))),(10,.r (.c (.t (.lst 2 [i0.tr,i1.tr])))),(11,tI .i64 2),(12,tI .i64 (k.1:Int))],[((2,0,0),some (.box (ub i0 i1 b0 b1 es)))],[2]⟩,fun k=>2-k.1,⟨0,o_,o_,o_⟩,?_,?_⟩
 ·exact Z2
 intro⟨k,hk,Oy,N7⟩;dsimp only;by_cases J3:k<2
 ·obtain⟨i,b,hi,hb,N8,Py,PF,Qh,M1⟩:∃(i:NU) (b:Int),([i0.tr,i1.tr]:List (List Tr))[k]?=some i.tr/\([aa b0,aa b1]:List (List Tr))[k]?=some (aa b)/\(∀x∈i.fam,0<=x.fak/\x.fak<=1000000)/\(0<=b/\b<=1000000)/\i.fam.length<=1048576/\
    (bC i b e=true->(bC i0 b0 e||bC i1 b1 e)=true)/\(bC i b e=false->(1<=k+1->bC i0 b0 e=false)/\(2<=k+1->bC i1 b1 e=false)):=by
   have:k=0\/k=1:=o_;rcases this with rfl|rfl
   ·exact⟨i0,b0,rfl,rfl,h0,Sp,WY,fun h=>by rw[h];rfl,fun h=>⟨fun _=>h,fun h2=>by omega⟩⟩
   ·exact⟨i1,b1,rfl,rfl,h1,OU,RM,fun h=>by rw[h];simp,fun h=>⟨fun _=>Oy o_,fun _=>h⟩⟩
  have J0:(i.fam.map Of.tr).length=i.fam.length:=s_;repeat' ((conv=>whnf);first|refine Or.inl ?_|apply oi|apply fi|intro h|refine⟨k,i.tr,rfl,hi,?_⟩|refine⟨_,rfl,?_⟩|exact Y1|fail)
  all_goals try(exfalso;have h':=f0 h;omega)
  conv=>whnf
  refine⟨{j:Nat//j<=i.fam.length/\((i.fam.take j).any fun x=>b+x.fak==e)=false},fun j=>⟨[(1,tI .i64 e),(2,.r (.c (.ptr (2,0,0) 0))),(5,tI .i64 (k:Int)),(10,.r (.c (.t (.lst 2 [i0.tr,i1.tr])))),(11,tI .i64 2),(12,tI .i64 (k:Int)),(18,.r (.c (.t (.lst 3 (i.fam.map Of.tr))))),(19,tI .i64 ((i.fam.map Of.tr).length:Int)),(20,tI .i64 (j.1:Int))],[((2,0,0),some (.box (ub i0 i1 b0 b1 es)))],[2]⟩,fun j=>i.fam.length-j.1,⟨0,o_,rfl⟩,?_,?_⟩
  ·exact Z2
  intro⟨j,hj,hr⟩;dsimp only;by_cases OM:j<i.fam.length
  ·obtain⟨x,hx⟩:=ae OM;have hxm:=d4 hx;have hxs:=N8 x hxm;have OB:IntKind.i64.wrap (b+x.fak)=b+x.fak:=c9 _ o_
   have Ox:((i.fam.take (j+1)).any fun x=>b+x.fak==e)=(b+x.fak==e):=by obtain⟨Pb,rfl⟩:=y6.1 hx;rw[z4 Pb,List.any_append,hr,B3];simp
   cases Qo:(b+x.fak==e)with
   | true=>
    have Pv:=Qh (by rw[bC,y9];exact⟨x,hxm,Qo⟩);repeat' ((conv=>whnf);first|refine Or.inl ?_|apply oi|apply fi|intro h|refine⟨j,x.tr,rfl,ab hx,?_⟩|refine⟨k,aa b,rfl,hb,?_⟩|refine⟨_,rfl,?_⟩|exact Y1|fail)
    all_goals first
     |(exfalso;have h':=f0 h;rw[J0]at h';omega)
     | exact⟨by rw[Pv]⟩
     |(exfalso;rw[OB,Qo]at h;simp at h;done)
   | false=>
    rw[Qo]at Ox;repeat' ((conv=>whnf);first|refine Or.inl ?_|apply oi|apply fi|intro h|refine⟨j,x.tr,rfl,ab hx,?_⟩|refine⟨k,aa b,rfl,hb,?_⟩|refine⟨_,rfl,?_⟩|exact Y1|fail)
    all_goals try(exfalso;first|(have h':=f0 h;rw[J0]at h';omega)|(rw[OB,Qo]at h;simp at h;done))
    conv=>whnf
    refine⟨⟨j+1,o_,Ox⟩,?_,KD⟩;repeat' ((conv=>whnf);first|refine Or.inl ?_|apply oi|apply fi|intro h|refine⟨_,rfl,?_⟩|exact Y1|fail)
    all_goals exact⟨by dsimp only;rw[c9 _ o_];rfl⟩
  ·have WL:i.fam.length<=j:=o_;rw[j5 WL]at hr;have O9:=M1 hr;repeat' ((conv=>whnf);first|refine Or.inl ?_|apply oi|apply fi|intro h|refine⟨_,rfl,?_⟩|exact Y1|fail)
   all_goals try(exfalso;have h':=f9 h;rw[J0]at h';omega)
   conv=>whnf
   refine⟨⟨k+1,o_,O9⟩,?_,KD⟩;repeat' ((conv=>whnf);first|refine Or.inl ?_|apply oi|apply fi|intro h|refine⟨_,rfl,?_⟩|exact Y1|fail)
   all_goals exact⟨by dsimp only;rw[c9 _ o_];rfl⟩
 ·have QJ:k=2:=o_;subst QJ;repeat' ((conv=>whnf);first|refine Or.inl ?_|apply oi|apply fi|intro h|refine⟨_,rfl,?_⟩|exact Y1|fail)
  all_goals exact⟨by rw[Oy o_,N7 o_];rfl⟩
theorem V46{p:Prop}(h:p:=by
 rw[hw]at hE;repeat' ((conv=>whnf);first|refine Or.inl ?_|apply oi|apply fi|intro h|refine ci hE (ai KW (ai rfl (ai rfl trivial))) ?_|refine⟨_,rfl,?_⟩|exact Y1|fail)
 all_goals(exfalso;simp at h;done)):p:=h
theorem V26{p:Prop}(h:p:=by
 have:k=0\/k=1:=o_;rcases this with rfl|rfl
 ·exact⟨i0,b0,rfl,rfl,TH,fun h=>by rw[<-hR,h];rfl,fun h=>by rw[<-hR,h];simp,fun h h'=>⟨fun _=>⟨h,h'⟩,fun h2=>by omega⟩⟩
 ·exact⟨i1,b1,rfl,rfl,QU,fun h=>by rw[<-hR,h];simp,fun h=>by rw[<-hR,h];simp,fun h h'=>⟨fun _=>Oy o_,fun _=>⟨h,h'⟩⟩⟩):p:=h
theorem V3{p:Prop}(h:p:=by
 cases Qu:bu i with
 | false=>
  rw[Qu]at hI;rw[SR Qu];repeat' ((conv=>whnf);first|refine Or.inl ?_|apply oi|apply fi|intro h|refine⟨k,i.tr,rfl,hi,?_⟩|refine ci hI (ai (ai rfl (ai rfl trivial)) trivial) ?_|refine⟨_,rfl,?_⟩|exact Y1|fail)
  all_goals(exfalso;first|(have h':=f0 h;omega)|(simp at h;done))
 | true=>
  rw[Qu]at hI
  cases Wz:af b 1 1000000 with
  | false=>
   rw[Wz]at hB;rw[Qn Wz];repeat' ((conv=>whnf);first|refine Or.inl ?_|apply oi|apply fi|intro h|refine⟨k,i.tr,rfl,hi,?_⟩|refine⟨k,aa b,rfl,hb,?_⟩|refine ci hI (ai (ai rfl (ai rfl trivial)) trivial) ?_|refine ci hB (ai rfl (ai rfl (ai rfl trivial))) ?_|refine⟨_,rfl,?_⟩|exact Y1|fail)
   all_goals(exfalso;first|(have h':=f0 h;omega)|(simp at h;done))
  | true=>
   rw[Wz]at hB;repeat' ((conv=>whnf);first|refine Or.inl ?_|apply oi|apply fi|intro h|refine⟨k,i.tr,rfl,hi,?_⟩|refine⟨k,aa b,rfl,hb,?_⟩|refine ci hI (ai (ai rfl (ai rfl trivial)) trivial) ?_|refine ci hB (ai rfl (ai rfl (ai rfl trivial))) ?_|refine⟨_,rfl,?_⟩|exact Y1|fail)
   all_goals try(exfalso;first|(have h':=f0 h;omega)|(simp at h;done))
   conv=>whnf
   refine⟨⟨k+1,o_,Qh Qu Wz⟩,?_,KD⟩;repeat' ((conv=>whnf);first|refine Or.inl ?_|apply oi|apply fi|intro h|refine⟨_,rfl,?_⟩|exact Y1|fail)
   all_goals exact⟨by dsimp only;rw[c9 _ o_];rfl⟩):p:=h
theorem V16{p:Prop}(h:p:=by
 rw[ho]at hR;rw[cY,c8,c8,c8,i7,i7,i7,i7]at ho;obtain⟨o1,o2,o3,o4⟩:=ho;subst hR;repeat' ((conv=>whnf);first|refine Or.inl ?_|apply oi|apply fi|intro h|refine⟨0,_,rfl,rfl,?_⟩|refine⟨1,_,rfl,rfl,?_⟩|refine⟨_,rfl,?_⟩|exact Y1|fail)
 all_goals(exfalso;first|(have h':=f0 h;(try rw[x0]at h');(try rw[x1]at h');omega)|(have h':=f9 h;omega))):p:=h
theorem uy (i0 i1:NU)(b0 b1:Int)(es:List Int)(hs:aR 1048576 (Oe.mk [i0,i1] [b0,b1] es).tr):Sim.Spec Try.prog 16 [.agg (Oe.mk [i0,i1] [b0,b1] es).tr] (rB (eH i0 i1 b0 b1 es)):=by
 refine aG hΓ aK Try.func16 rfl d_ rfl ?_;have J0:(es.map aa).length=es.length:=s_;have hE:=bL es.length 1 6;unfold eH
 cases hw:af es.length 1 6 with
 | false=>exact V46
 | true=>
  rw[hw]at hE;repeat' ((conv=>whnf);first|refine Or.inl ?_|apply oi|apply fi|intro h|refine ci hE (ai KW (ai rfl (ai rfl trivial))) ?_|refine⟨_,rfl,?_⟩|exact Y1|fail)
  all_goals try(exfalso;simp at h;done)
  have M4:=hs;simp only[Oe.tr,aR]at M4;have U9:=M4.1;have TH:aR 1048576 i0.tr:=bi U9 s_;have QU:aR 1048576 i1.tr:=bi U9 s_;have P3:i0.fab.length<=1048576:=by have:=TH;simp only[NU.tr,aR,aH]at this;omega
  have Pu:i1.fab.length<=1048576:=by have:=QU;simp only[NU.tr,aR,aH]at this;omega
  have Ug:i0.fam.length<=1048576:=by have:=TH;simp only[NU.tr,aR]at this;exact cQ this.2.1
  have TY:i1.fam.length<=1048576:=by have:=QU;simp only[NU.tr,aR]at this;exact cQ this.2.1
  have N1:es.length<=1048576:=cQ M4.2.2.1;rw[m8];generalize hR:(bu i0&&(af b0 1 1000000&&(bu i1&&(af b1 1 1000000&&(!(cY i0 i1 b0 b1)&&es.all fun e=>bC i0 b0 e||bC i1 b1 e)))))=R;conv=>whnf
  refine⟨{k:Nat//k<=2/\(1<=k->bu i0=true/\af b0 1 1000000=true)/\(2<=k->bu i1=true/\af b1 1 1000000=true)},fun k=>⟨[(1,.r (.c (.ptr (1,0,0) 0))),(27,tI .i64 2),(28,tI .i64 (k.1:Int))],[((1,0,0),some (.box (ub i0 i1 b0 b1 es)))],[1]⟩,fun k=>2-k.1,⟨0,o_,o_,o_⟩,?_,?_⟩
  ·exact Z2
  intro⟨k,hk,Oy,N7⟩;dsimp only;by_cases J3:k<2
  ·obtain⟨i,b,hi,hb,YC,SR,Qn,Qh⟩:∃(i:NU) (b:Int),([i0.tr,i1.tr]:List (List Tr))[k]?=some i.tr/\([aa b0,aa b1]:List (List Tr))[k]?=some (aa b)/\aR 1048576 i.tr/\
     (bu i=false->R=false)/\(af b 1 1000000=false->R=false)/\(bu i=true->af b 1 1000000=true->(1<=k+1->bu i0=true/\af b0 1 1000000=true)/\(2<=k+1->bu i1=true/\af b1 1 1000000=true)):=by
    exact V26
   have hI:=ww i YC;have hB:=bL b 1 1000000;exact V3
  ·have QJ:k=2:=o_;subst QJ;obtain⟨g0,w0⟩:=Oy o_;obtain⟨g1,w1⟩:=N7 o_;have v0:=within_iff.1 w0;have v1:=within_iff.1 w1;rw[g0,g1,w0,w1,m8,m8,m8,m8]at hR;have x0:IntKind.i64.wrap (b1+(i1.fab.length:Int))=b1+i1.fab.length:=c9 _ o_;have x1:IntKind.i64.wrap (b0+(i0.fab.length:Int))=b0+i0.fab.length:=c9 _ o_
   cases ho:cY i0 i1 b0 b1 with
   | true=>exact V16
   | false=>
    rw[ho,F8,m8]at hR
    have M1:¬(0<i0.fab.length/\0<i1.fab.length/\b0<b1+i1.fab.length/\b1<b0+i0.fab.length):=by exact V101
    have m0:=eA (imageOk_iff.1 g0).2 o_;have m1:=eA (imageOk_iff.1 g1).2 o_;have l0:=(imageOk_iff.1 g0).1;have l1:=(imageOk_iff.1 g1).1;repeat' ((conv=>whnf);first|refine Or.inl ?_|apply oi|apply fi|intro h|refine⟨0,_,rfl,rfl,?_⟩|refine⟨1,_,rfl,rfl,?_⟩|refine⟨_,rfl,?_⟩|exact Y1|fail)
    all_goals try(
     exfalso;rename_i a1 a2 a3;have c1:=f9 a1;have c2:=f9 a2;have c3:=f9 a3;have c4:=f9 h;rw[x0]at c3;rw[x1]at c4
     exact M1 ⟨o_,o_,c3,c4⟩)
    all_goals(
     conv=>whnf
     refine⟨{j:Nat//j<=es.length/\((es.drop j).all fun e=>bC i0 b0 e||bC i1 b1 e)=R},fun j=>⟨[(1,.r (.c (.ptr (1,0,0) 0))),(93,.r (.c (.t (.lst 1 (es.map aa))))),(94,tI .i64 ((es.map aa).length:Int)),(95,tI .i64 (j.1:Int))],[((1,0,0),some (.box (ub i0 i1 b0 b1 es)))],[1]⟩,fun j=>es.length-j.1,⟨0,o_,hR⟩,?_,?_⟩
     ·exact Z2
     intro⟨j,hj,hr⟩;dsimp only;by_cases OM:j<es.length
     ·obtain⟨e,he⟩:=ae OM;have Sm:=xb i0 i1 b0 b1 e es (fun x hx=>by have:=m0 x hx;omega) (fun x hx=>by have:=m1 x hx;omega) o_ o_ Ug TY;rw[dD he,G7]at hr
      cases O4:(bC i0 b0 e||bC i1 b1 e)with
      | false=>
       rw[O4]at Sm hr;rw[q9]at hr;subst hr;repeat' ((conv=>whnf);first|refine Or.inl ?_|apply oi|apply fi|intro h|refine⟨j,aa e,rfl,ab he,?_⟩|refine ci Sm (ai (ai rfl (ai rfl (ai rfl trivial))) (ai rfl trivial)) ?_|refine⟨_,rfl,?_⟩|exact Y1|fail)
       all_goals(exfalso;first|(have h':=f0 h;rw[J0]at h';omega)|(simp at h;done))
      | true=>
       rw[O4]at Sm hr;rw[m8]at hr;repeat' ((conv=>whnf);first|refine Or.inl ?_|apply oi|apply fi|intro h|refine⟨j,aa e,rfl,ab he,?_⟩|refine ci Sm (ai (ai rfl (ai rfl (ai rfl trivial))) (ai rfl trivial)) ?_|refine⟨_,rfl,?_⟩|exact Y1|fail)
       all_goals try(exfalso;first|(have h':=f0 h;rw[J0]at h';omega)|(simp at h;done))
       conv=>whnf
       refine⟨⟨j+1,o_,hr⟩,?_,KD⟩;repeat' ((conv=>whnf);first|refine Or.inl ?_|apply oi|apply fi|intro h|refine⟨_,rfl,?_⟩|exact Y1|fail)
       all_goals exact⟨by dsimp only;rw[c9 _ o_];rfl⟩
     ·have N2:es.length<=j:=o_;rw[q8 N2,List.all_nil]at hr;subst hr;repeat' ((conv=>whnf);first|refine Or.inl ?_|apply oi|apply fi|intro h|refine⟨_,rfl,?_⟩|exact Y1|fail)
      all_goals(exfalso;have h':=f9 h;rw[J0]at h';omega))
theorem AP (a:Int)(k:Nat):((lj a k).toNat:Int)=(a/(2^(8*k)))%256:=by unfold lj;rw[E6 _ (Int.pow_nonneg d_)];generalize a/2^(8*k)=z;have h1:=Int.emod_nonneg z (show(256:Int)≠0 by decide);have h2:=Int.emod_lt_of_pos z (show(0:Int)<256 by decide);simp;omega
theorem xB (pre rest:List UInt8)(c:UInt8)(k:Nat)(m:List UInt8)(h:m[k]?=some c):cC (pre++m++rest) (pre.length+k)=c.toNat:=by have hk:=aJ h;unfold cC;rw[k0,m5 o_,D2,j7 hk,h]
theorem Et {a:Int}{n k:Nat}(h:k<n):(jm a n)[k]?=some (lj a k):=by unfold jm;rw[l9,List.getElem?_range h];rfl
theorem II {c a:Int}(h:dB c a=true){s:List UInt8}{p:Nat}(hb:∀k,k<(bc c).1.toNat->cC s (p+k)=(lj a k).toNat):ky c (aX s p (bc c).1.toNat)=a:=by
 unfold dB at h;rw[c8,within_iff,within_iff]at h;obtain⟨_,ha⟩:=h;have hd:∀k,k<(bc c).1.toNat->(cC s (p+k):Int)=(a/(2^(8*k)))%256:=fun k hk=>by rw[hb k hk,AP]
 have b0:0<(bc c).1.toNat->((aX s p 1:Nat):Int)=a%256:=fun h=>by
  have d0:=hd 0 h;rw[show(2:Int)^(8*0)=1 from rfl]at d0;simp only[aX,Nat.pow_zero,Nat.mul_one,s5];omega
 have b1:1<(bc c).1.toNat->((aX s p 2:Nat):Int)=a%65536:=fun h=>by
  have d0:=b0 o_;have d1:=hd 1 h;rw[show(2:Int)^(8*1)=256 from rfl]at d1;rw[aX,show(256:Nat)^1=256 from rfl];omega
 have b2:2<(bc c).1.toNat->((aX s p 3:Nat):Int)=a%16777216:=fun h=>by
  have d0:=b1 o_;have d1:=hd 2 h;rw[show(2:Int)^(8*2)=65536 from rfl]at d1;rw[aX,show(256:Nat)^2=65536 from rfl];omega
 have b3:3<(bc c).1.toNat->((aX s p 4:Nat):Int)=a%4294967296:=fun h=>by
  have d0:=b2 o_;have d1:=hd 3 h;rw[show(2:Int)^(8*3)=16777216 from rfl]at d1;rw[aX,show(256:Nat)^3=16777216 from rfl];omega
 unfold ky;rcases Bx c with⟨e1,e2⟩|⟨e1,e2⟩|⟨e1,e2⟩|⟨e1,e2⟩|⟨e1,e2⟩
 ·rw[e1]at b3⊢;rw[e2]at ha;have b3:=b3 d_;have ha:-2147483648<=a/\a<=2147483647:=ha;show(if(true:Bool)=true/\(2147483648:Nat)<=aX s p 4 then((aX s p 4:Nat):Int)-((4294967296:Nat):Int)else((aX s p 4:Nat):Int))=a;split
  ·rename_i hc;have:=hc.2;omega
  ·rename_i hc;have:¬(2147483648<=aX s p 4):=fun h=>hc ⟨rfl,h⟩;omega
 ·rw[e1]at b1⊢;rw[e2]at ha;have b1:=b1 d_;have ha:-32768<=a/\a<=32767:=ha;show(if(true:Bool)=true/\(32768:Nat)<=aX s p 2 then((aX s p 2:Nat):Int)-((65536:Nat):Int)else((aX s p 2:Nat):Int))=a;split
  ·rename_i hc;have:=hc.2;omega
  ·rename_i hc;have:¬(32768<=aX s p 2):=fun h=>hc ⟨rfl,h⟩;omega
 ·rw[e1]at b1⊢;rw[e2]at ha;have b1:=b1 d_;have ha:0<=a/\a<=65535:=ha;rw[b8 s_];show((aX s p 2:Nat):Int)=a;omega
 ·rw[e1]at b0⊢;rw[e2]at ha;have b0:=b0 d_;have ha:0<=a/\a<=255:=ha;rw[b8 s_];show((aX s p 1:Nat):Int)=a;omega
 ·rw[e1];rw[e2]at ha;have ha:0<=a/\a<=0:=ha;rw[b8 s_];show((0:Nat):Int)=a;omega
theorem uv {x:NZ}(h:dB x.fab x.faf=true):bm x=UInt8.ofNat x.fab.toNat::jm x.faf (bc x.fab).1.toNat:=by rw[bm,b9 h]
theorem ze {x:NZ}(h:dB x.fab x.faf=true)(pre rest:List UInt8):bx (pre++bm x++rest) (pre.length:Int)=some (x,(aN x.fab).toNat):=by
 have hc:0<=x.fab/\x.fab<=17:=by unfold dB at h;rw[c8,within_iff,within_iff]at h;exact h.1
 have J0:=eC h;have L3:=dV x.fab;have hz:aN x.fab=(bc x.fab).1+1:=by rw[aN,b9 (within_iff.2 hc)]
 have Sp:((cC (pre++bm x++rest) pre.length:Nat):Int)=x.fab:=by have:=xB pre rest (UInt8.ofNat x.fab.toNat) 0 (bm x) (by rw[uv h];rfl);rw[w9]at this;rw[this];simp;omega
 have XS:∀k,k<(bc x.fab).1.toNat->cC (pre++bm x++rest) (pre.length+1+k)=(lj x.faf k).toNat:=fun k hk=>by
  have:=xB pre rest (lj x.faf k) (k+1) (bm x) (by rw[uv h,j6];exact Et hk);rw[show pre.length+1+k=pre.length+(k+1) by omega];exact this
 have Re:=II h XS;have Pf:(pre++bm x++rest).length=pre.length+(bm x).length+rest.length:=by simp;omega
 generalize pre++bm x++rest=s at *
 rw[bx,b9 ⟨o_,o_⟩,d9,Sp,b8 o_,Re]
theorem tM {l:List Oa}(h:∀y∈l,dB y.fai.fad.fab y.fai.fad.faf=true){k:Nat}{y:Oa}(hy:l[k]?=some y)(pre rest:List UInt8):bx (pre++au l++rest) (((pre++au (l.take k)).length:Nat):Int)=some (y.fai.fad,(aN y.fai.fad.fab).toNat):=by
 have e:l=l.take k++(y::l.drop (k+1)):=by rw[<-dD hy,w5]
 have e2:au l=au (l.take k)++(bm y.fai.fad++au (l.drop (k+1))):=by
  conv=>lhs;rw[e]
  rw[aO,show y::l.drop (k+1)=[y]++l.drop (k+1) from rfl,aO,eB]
 have:=ze (h y (d4 hy)) (pre++au (l.take k)) (au (l.drop (k+1))++rest);rw[e2];simpa [k0]using this
theorem tE:∀{l:List Oa} (pre:List UInt8),(∀y∈l,dB y.fai.fad.fab y.fai.fad.faf=true)->nH (pre++au l) ((pre++au l).length-pre.length) pre.length=some (l.map fun y=>y.fai.fad)
 | [],pre,_=>by
  rw[show au []=[] from rfl,m9]
  exact xg (d6 _)
 | y::l,pre,h=>by
  have hy:=h y s_;have J0:=eC hy;have L3:=dV y.fai.fad.fab
  have hc:af y.fai.fad.fab 0 17=true:=by unfold dB at hy;rw[c8]at hy;exact hy.1
  have hz:aN y.fai.fad.fab=(bc y.fai.fad.fab).1+1:=by rw[aN,b9 hc]
  have e:au (y::l)=bm y.fai.fad++au l:=by rw[show y::l=[y]++l from rfl,aO,eB]
  have ih:=tE (l:=l) (pre++bm y.fai.fad) (fun z hz=>h z (by simp[hz]));have hd:=ze hy pre (au l);rw[k0]at hd ih;have Pc:(pre++(bm y.fai.fad++au l)).length=pre.length+(bm y.fai.fad).length+(au l).length:=by simp;omega
  have XL:(pre++bm y.fai.fad).length=pre.length+(aN y.fai.fad.fab).toNat:=by rw[c7];omega
  rw[e,sn o_,hd];dsimp only;rw[XL]at ih;rw[ih];rfl
theorem Br {l:List Oa}(h:∀y∈l,dB y.fai.fad.fab y.fai.fad.faf=true):(fD (au l)).isSome=true:=by
 have:=tE [] h;rw[s8]at this
 have e:fD (au l)=some (l.map fun y=>y.fai.fad):=by unfold fD;simpa using this
 rw[e];rfl
theorem ru:∀(l:List NX) (i:Nat),(funsF l i).Pairwise (·<·)
 | [],_=>by rw[funsF];exact List.Pairwise.nil
 | x::l,i=>by
  have ih:=ru l (i+1);rw[funsF];split
  ·refine List.pairwise_append.2 ⟨List.pairwise_singleton _ _,ih,fun a ha b hb=>?_⟩;rw[s9]at ha;have:=(vS hb).1;omega
  ·rw[s8];exact ih
theorem JM {p:List NX}{f g k:Nat}(hf:(ay p)[f]?=some k)(hg:(ay p)[g]?=some k):f=g:=by
 have hs:=List.pairwise_iff_getElem.1 (ru p 0);obtain⟨h1,e1⟩:=y6.1 hf;obtain⟨h2,e2⟩:=y6.1 hg;rcases x6 f g with h|h|h
 ·have:=hs f g h1 h2 h;change(ay p)[f]<(ay p)[g]at this;rw[e1,e2]at this;omega
 ·exact h
 ·have:=hs g f h2 h1 h;change(ay p)[g]<(ay p)[f]at this;rw[e1,e2]at this;omega
theorem rO {p:List NX}(h:ah p=true){f k:Nat}(hf:(ay p)[f]?=some k):∃y,p[k]?=some y/\y.faa=0/\bH p f=y.fac/\dq y.fac=true/\findN p 0 y.fac=some k:=by
 unfold ah at h;simp only[c8,i7]at h;obtain⟨_,_,h3,_,h5,_⟩:=h;obtain⟨_,y,hy,h0⟩:=oq (d4 hf);have hl:=n7.1 h3 y (d4 hy);have hn:=n7.1 h5 k (d4 hf);refine⟨y,hy,h0,by rw[bH,hf];dsimp only;rw[hy],?_,?_⟩
 ·unfold dl at hl;simp only[c8]at hl;have:=hl.2.1;rwa [b9 (.inl h0)]at this
 ·unfold nameFirst at hn;rw[hy]at hn;exact A3 hn
theorem Cg {p:List NX}(h:ah p=true){f g:Nat}(hf:f<(ay p).length)(hg:g<(ay p).length)(he:bH p f=bH p g):f=g:=by obtain⟨k,hk⟩:=ae hf;obtain⟨j,hj⟩:=ae hg;obtain⟨_,_,_,e1,_,f1⟩:=rO h hk;obtain⟨_,_,_,e2,_,f2⟩:=rO h hj;rw[e1,e2]at he;rw[he,f2]at f1;injection f1 with f1;subst f1;exact JM hk hj
theorem xf {p:List NX}:∀(L:List (Nat×List Oa)) (pre post:List UInt8) (seen:List Of),
  (∀x∈L,0<(au x.2).length/\(∀y∈x.2,dB y.fai.fad.fab y.fai.fad.faf=true)/\dq (bH p x.1)=true)->L.Pairwise (fun x y=>bH p x.1≠bH p y.1)->(∀x∈L,∀y∈seen,y.fac≠bH p x.1)->post=[]->
  eW (pre++au (aB L)++post) seen pre.length (cy p pre.length L)=true
 | [],pre,post,seen,_,_,_,hp=>by subst hp;simp[cy,eW,aB,au]
 |(f,l)::L,pre,post,seen,h1,h2,h3,hp=>by
  subst hp;obtain⟨q1,q2,q3⟩:=h1 (f,l) s_;dsimp only at q1 q2 q3;have e:au (aB ((f,l)::L))=au l++au (aB L):=by rw[show aB ((f,l)::L)=l++aB L by simp[aB],aO]
  rw[I0]at h2;rw[e,m9,cy,eW,c8];constructor
  ·unfold xv;rw[c8,c8];refine⟨imgPre_iff.2 ⟨rfl,g_,by dsimp only;simp;omega,q3⟩,?_,?_⟩
   ·rw[u7,fM,G2];intro y hy;have:=h3 (f,l) s_ y hy;simpa using this
   ·dsimp only;rw[d9]
    have e2:((pre++(au l++au (aB L))).take (pre.length+(au l).length)).drop pre.length=au l:=by rw[<-k0,List.take_left' s_,List.drop_left]
    rw[e2];exact Br q2
  ·dsimp only;rw[d9]
   have ih:=xf L (pre++au l) [] (seen++[⟨bH p f,(pre.length:Int),((au l).length:Int)⟩]) (fun x hx=>h1 x (by simp[hx])) h2.2 (fun x hx y hy=>by
    rcases e7.1 hy with hy|hy
    ·exact h3 x (by simp[hx]) y hy
    ·rw[s9]at hy;subst hy
     exact h2.1 x hx) rfl
   rw[m9,c7,k0]at ih;simpa using ih
theorem kI {p:List NX}{b:NP}{image:Int}:∀(n f:Nat) (at0:Int),(cn p b image n f at0).Pairwise (fun x y=>x.1<y.1)
 | 0,_,_=>by rw[cn];exact List.Pairwise.nil
 | n+1,f,at0=>by
  rw[ob];split
  ·refine I0.2 ⟨fun y hy=>?_,kI n _ _⟩;have:=(nB hy).1;dsimp only;omega
  ·exact kI n _ _
theorem er {p:List NX}{b:NP}(hs:aH 1048576 (.lst 4 (p.map NX.tr)))(h1:ah p=true)(h2:aY b=true){image:Int}(h3:af image 0 1=true):bu (ao p b image)=true/\(ao p b image).fab.length<=75000:=by
 rw[ao,b9 ⟨h1,h2,h3⟩];obtain⟨h6,_⟩:=jX h1;have PF:=kc p b image (ay p).length 0 0;have TN:=fun x (hx:x∈cn p b image (ay p).length 0 0)=>(jS hs hx).1;have Ya:=fun x (hx:x∈cn p b image (ay p).length 0 0)=>(nB hx).2;have SW:=kI (p:=p) (b:=b) (image:=image) (ay p).length 0 0
 have Pq:∀x∈cn p b image (ay p).length 0 0,0<x.2.length/\∀y∈x.2,dB y.fai.fad.fab y.fai.fad.faf=true:=fun x hx=>by
  obtain⟨i,hi⟩:=t9.1 hx;have hl:=(kG hs h1 h2 o_ hi).2.2
  have ho:∀y∈x.2,dB y.fai.fad.fab y.fai.fad.faf=true:=fun y hy=>by
   obtain⟨j,hj⟩:=t9.1 hy;exact(fX hs h1 h2 hi hj).1.op
  exact⟨hl,ho⟩
 generalize cn p b image (ay p).length 0 0=L at *
 have Ow:=ot TN (d6 L.length);rw[j5 (d6 _)]at Ow;have Q8:=B0 2500 (show L.length<=6 by omega);have M6:=iB (aB L);refine⟨imageOk_iff.2 ⟨g_,?_⟩,g_⟩;have:=xf (p:=p) L [] [] [] (fun x hx=>?_) ?_ (fun x hx y hy=>by cases hy) rfl
 ·simpa using this
 ·obtain⟨q1,q2⟩:=Pq x hx;obtain⟨k,hk⟩:=ae (l:=ay p) (k:=x.1) (by have:=Ya x hx;omega);obtain⟨y,_,_,e,hn,_⟩:=rO h1 hk;refine⟨?_,q2,by rw[e];exact hn⟩;obtain⟨z,l',hz⟩:=List.exists_cons_of_length_pos q1;rw[hz,show z::l'=[z]++l' from rfl,aO,eB,c7];have J1:=q2 z (by rw[hz];simp);have:=eC J1;have h4:=dV z.fai.fad.fab
  have hc:af z.fai.fad.fab 0 17=true:=by unfold dB at J1;rw[c8]at J1;exact J1.1
  rw[aN,b9 hc]at this;omega
 ·refine SW.imp_of_mem fun{x y} hx hy J3 he=>?_;have:=Cg h1 (by have:=Ya x hx;omega) (by have:=Ya y hy;omega) he;omega
def lG (nm:List UInt8)(b:Int)(l:List Of):List Int:=(l.filter fun y=>y.fac==nm).map fun y=>IntKind.i64.wrap (b+y.fak)
theorem Iw (nm:List UInt8)(b:Int):lG nm b []=[]:=rfl
theorem GZ (nm:List UInt8)(b:Int)(l:List Of)(y:Of):lG nm b (l++[y])=lG nm b l++if(y.fac==nm)=true then [IntKind.i64.wrap (b+y.fak)]else []:=by
 unfold lG;rw[F6,u4];congr 1;split
 ·rename_i h;simp[h]
 ·rename_i h;simp[h]
theorem GY {nm:List UInt8}{b:Int}{l:List Of}{k:Nat}{y:Of}(h:l[k]?=some y):lG nm b (l.take (k+1))=lG nm b (l.take k)++if(y.fac==nm)=true then [IntKind.i64.wrap (b+y.fak)]else []:=by rw[dF h,GZ]
theorem vF (nm:List UInt8)(b:Int)(l:List Of):(lG nm b l).length<=l.length:=by unfold lG;rw[e8];exact E1 _ _
def gO (f:Nat):List (Nat×List Oa)->Int->Option Int
 | [],_=>none
 | x::L,a=>if x.1=f then some a else gO f L (a+(au x.2).length)
theorem yp {p:List NX}{nm:List UInt8}{b:Int}:∀(L:List (Nat×List Oa)) (a:Int),(∀x∈L,bH p x.1≠nm)->lG nm b (cy p a L)=[]
 | [],_,_=>rfl
 |(g,l)::L,a,h=>by
  have h1:=h (g,l) s_;have ih:=yp (p:=p) (nm:=nm) (b:=b) L (a+(au l).length) (fun x hx=>h x (by simp[hx]));unfold lG at ih⊢;rw[cy,B4,b8 (by simpa using h1)];exact ih
theorem yI {p:List NX}{b:Int}{f:Nat}:∀(L:List (Nat×List Oa)) (a:Int),(∀x∈L,bH p x.1=bH p f->x.1=f)->L.Pairwise (fun x y=>x.1<y.1)->
  lG (bH p f) b (cy p a L)=match gO f L a with|some s=>[IntKind.i64.wrap (b+s)]|none=>[]
 | [],_,_,_=>rfl
 |(g,l)::L,a,h,hs=>by
  rw[I0]at hs;rw[gO];by_cases hg:g=f
  ·subst hg;rw[b9 rfl]
   have hn:=yp (p:=p) (nm:=bH p g) (b:=b) L (a+(au l).length) (fun x hx he=>by
    have h1:=h x (by simp[hx]) he;have h2:=hs.1 x hx;dsimp only at h2
    omega)
   unfold lG at hn⊢;rw[cy,B4,b9 s_,p7,hn]
  ·rw[b8 hg];have ih:=yI (p:=p) (b:=b) (f:=f) L (a+(au l).length) (fun x hx=>h x (by simp[hx])) hs.2;rw[<-ih];unfold lG;rw[cy,B4,b8];simp only[w8];exact fun he=>hg (h (g,l) s_ he)
theorem mq {f:Nat}:∀{L:List (Nat×List Oa)} {a:Int},(∃x∈L,x.1=f)->∃s,gO f L a=some s
 | [],_,⟨_,h,_⟩=>by cases h
 | x::L,a,⟨y,hy,he⟩=>by
  rw[gO];split
  ·exact⟨_,rfl⟩
  ·rename_i hx;rcases d7.1 hy with rfl|hy
   ·exact absurd he hx
   ·exact mq ⟨y,hy,he⟩
theorem rr {f:Nat}:∀{L:List (Nat×List Oa)} {a:Int},(∀x∈L,x.1≠f)->gO f L a=none
 | [],_,_=>rfl
 | x::L,a,h=>by rw[gO,b8 (h x s_),rr fun y hy=>h y (by simp[hy])]
theorem wC {f:Nat}:∀{L:List (Nat×List Oa)} {a s:Int},gO f L a=some s->∃i x,L[i]?=some x/\x.1=f/\s=a+((au (aB (L.take i))).length:Int)
 | [],_,_,h=>by rw[gO]at h;cases h
 | x::L,a,s,h=>by
  rw[gO]at h;split at h
  ·injection h with h;exact⟨0,x,rfl,by assumption,by subst h;simp[aB,au]⟩
  ·obtain⟨i,y,h1,h2,h3⟩:=wC h;refine⟨i+1,y,by simpa using h1,h2,?_⟩;rw[q7,show aB (x::L.take i)=x.2++aB (L.take i) by simp[aB],aO,c7];omega
theorem imgL_mem {p:List NX}{b:NP}{image:Int}:∀{n f:Nat} {at0:Int} {g:Nat},(∃x∈cn p b image n f at0,x.1=g)↔(f<=g/\g<f+n/\ut b image g=true)
 | 0,f,at0,g=>by
  rw[cn];constructor
  ·rintro⟨x,h,_⟩;cases h
  ·rintro⟨h1,h2,_⟩;omega
 | n+1,f,at0,g=>by
  rw[ob];split
  ·rename_i hin;constructor
   ·rintro⟨x,hx,he⟩;rcases d7.1 hx with rfl|hx
    ·dsimp only at he;subst he;exact⟨o_,o_,hin⟩
    ·have:=imgL_mem.1 ⟨x,hx,he⟩;exact⟨o_,o_,this.2.2⟩
   ·rintro⟨h1,h2,h3⟩;by_cases hg:g=f
    ·exact⟨_,List.mem_cons_self ..,hg.symm⟩
    ·obtain⟨x,hx,he⟩:=(imgL_mem (p:=p) (at0:=zO at0 (aD p f b)) (n:=n) (f:=f+1)).2 ⟨o_,o_,h3⟩;exact⟨x,y5 _ hx,he⟩
  ·rename_i hin;constructor
   ·intro h;have:=imgL_mem.1 h;exact⟨o_,o_,this.2.2⟩
   ·rintro⟨h1,h2,h3⟩;have hg:g≠f:=fun e=>by subst e;exact hin h3
    exact imgL_mem.2 ⟨o_,o_,h3⟩
noncomputable abbrev imL (p:List NX) (b:NP) (image:Int):List (Nat×List Oa):=cn p b image (ay p).length 0 0
def bt (b:NP)(f:Nat):Int:=if b.faF=true then(f:Int)%2 else 0
theorem rX {b:NP}{f:Nat}{image:Int}(h:image=0\/image=1):ut b image f=true↔image=bt b f:=by
 unfold ut bt;split
 ·rw[w8];omega
 ·rw[w8]
def uE (p:List NX)(b:NP)(i0 i1:NU)(first second:Int)(f:Nat):List Int:=if bt b f=1 then lG (bH p f) second i1.fam else lG (bH p f) first i0.fam
def ll (F:Nat->List Int):Nat->List Int
 | 0=>[]
 | n+1=>ll F n++F n
noncomputable def bG (p:List NX) (b:NP) (f:Nat):Int:=(gO f (imL p b (bt b f)) 0).getD 0
noncomputable def cP (p:List NX) (b:NP) (first second:Int) (f:Nat):Int:=IntKind.i64.wrap ((if bt b f=1 then second else first)+bG p b f)
theorem gr (b:NP)(f:Nat):bt b f=0\/bt b f=1:=by unfold bt;split<;>omega
theorem po {p:List NX}{b:NP}(h1:ah p=true)(h2:aY b=true){image:Int}(hi:image=0\/image=1){f:Nat}(hf:f<(ay p).length)(base:Int):
  lG (bH p f) base (ao p b image).fam=if bt b f=image then [IntKind.i64.wrap (base+bG p b f)]else []:=by
 have h3:af image 0 1=true:=by rw[within_iff];omega
 rw[ao,b9 ⟨h1,h2,h3⟩];dsimp only;rw[yI _ _ (fun x hx he=>Cg h1 (by have:=(nB hx).2;omega) hf he) (kI _ _ _)];by_cases he:bt b f=image
 ·subst he;obtain⟨s,hs⟩:=mq (f:=f) (a:=0) ((imgL_mem (p:=p) (b:=b) (image:=bt b f) (n:=(ay p).length) (f:=0) (at0:=0) (g:=f)).2 ⟨o_,o_,(rX hi).2 rfl⟩);rw[hs,b9 rfl,bG,show imL p b (bt b f)=cn p b (bt b f) (ay p).length 0 0 from rfl,hs];rfl
 ·rw[b8 he,rr fun x hx Qo=>?_];have:=(imgL_mem (g:=f)).1 ⟨x,hx,Qo⟩;exact he ((rX hi).1 this.2.2).symm
theorem LA {p:List NX}{b:NP}(h1:ah p=true)(h2:aY b=true){f:Nat}(hf:f<(ay p).length)(first second:Int):uE p b (ao p b 0) (ao p b 1) first second f=[cP p b first second f]:=by
 unfold uE cP;rw[po h1 h2 (.inr rfl) hf,po h1 h2 (.inl rfl) hf];rcases gr b f with e|e
 ·rw[e];rfl
 ·rw[e];rfl
theorem zE {F:Nat->List Int}{G:Nat->Int}:∀{n:Nat},(∀f,f<n->F f=[G f])->ll F n=(List.range n).map G
 | 0,_=>rfl
 | n+1,h=>by rw[ll,zE fun f hf=>h f o_,h n o_,F3,u4];rfl
noncomputable def entries (p:List NX) (b:NP) (first second:Int):List Int:=(List.range (ay p).length).map (cP p b first second)
noncomputable def aE (p:List NX) (b:NP) (first second:Int):Oe:=⟨[ao p b 0,ao p b 1],[first,second],entries p b first second⟩
noncomputable def ib (p:List NX) (b:NP) (first second:Int):Option Oe:=if ah p=true/\aY b=true/\cN (aE p b first second)=true then some (aE p b first second)else none
def oSp (o:Option Oe):Oe:=match o with|some s=>s|none=>⟨[],[],[]⟩
theorem qA {p:List NX}:∀(L:List (Nat×List Oa)) (a:Int) (y:Of),y∈cy p a L->a<=y.fak/\y.fak<=a+(au (aB L)).length
 | [],_,_,h=>by cases h
 |(f,l)::L,a,y,h=>by
  have e:((au (aB ((f,l)::L))).length:Int)=(au l).length+(au (aB L)).length:=by rw[show aB ((f,l)::L)=l++aB L by simp[aB],aO,c7];simp
  rw[e];rw[cy]at h;rcases d7.1 h with rfl|h
  ·dsimp only;omega
  ·have:=qA L _ y h;omega
theorem wo {p:List NX}{b:NP}(hs:aH 1048576 (.lst 4 (p.map NX.tr)))(h1:ah p=true)(h2:aY b=true){image:Int}(h3:af image 0 1=true){y:Of}(hy:y∈(ao p b image).fam):0<=y.fak/\y.fak<=75000:=by have hl:=(er hs h1 h2 h3).2;rw[ao,b9 ⟨h1,h2,h3⟩]at hy hl;have:=qA _ _ y hy;dsimp only at hl;omega
theorem Iv {p:List NX}(h1:ah p=true):1<=(ay p).length/\(ay p).length<=6:=by unfold ah at h1;simp only[c8,i7]at h1;exact h1.2.1
theorem ET {p:List NX}{b:NP}(hs:aH 1048576 (.lst 4 (p.map NX.tr)))(h1:ah p=true)(h2:aY b=true){first second:Int}(hf:1<=first/\first<=1000000)(T4:1<=second/\second<=1000000){f:Nat}(J3:f<(ay p).length):
  (bt b f=0/\∃y∈(ao p b 0).fam,first+y.fak=cP p b first second f)\/(bt b f=1/\∃y∈(ao p b 1).fam,second+y.fak=cP p b first second f):=by
 have key:∀(image base:Int),(image=0\/image=1)->1<=base/\base<=1000000->bt b f=image->∃y∈(ao p b image).fam,base+y.fak=IntKind.i64.wrap (base+bG p b f):=by
  intro image base hi hb he;have hh:=po h1 h2 hi J3 base;rw[b9 he]at hh;have hm:IntKind.i64.wrap (base+bG p b f)∈lG (bH p f) base (ao p b image).fam:=by rw[hh];simp
  unfold lG at hm;obtain⟨y,hy,e⟩:=p6.1 hm;have Qp:=(D6.1 hy).1;have hr:=wo hs h1 h2 (by rw[within_iff];omega) Qp;refine⟨y,Qp,?_⟩;rw[<-e,c9 _ o_]
 unfold cP;rcases gr b f with e|e
 ·rw[e];exact .inl ⟨rfl,by simpa using key 0 first (.inl rfl) hf e⟩
 ·rw[e];exact .inr ⟨rfl,by simpa using key 1 second (.inr rfl) T4 e⟩
theorem zS {p:List NX}{b:NP}(hs:aH 1048576 (.lst 4 (p.map NX.tr)))(h1:ah p=true)(h2:aY b=true){first second:Int}(hf:1<=first/\first<=1000000)(T4:1<=second/\second<=1000000)(M1:cY (ao p b 0) (ao p b 1) first second=false):cN (aE p b first second)=true:=by
 have a0:=er hs h1 h2 (image:=0) d_;have a1:=er hs h1 h2 (image:=1) d_;have hl:=Iv h1;show eH (ao p b 0) (ao p b 1) first second (entries p b first second)=true;unfold eH;simp only[c8];refine⟨by rw[within_iff];simp[entries];omega,a0.1,within_iff.2 hf,a1.1,within_iff.2 T4,by rw[M1];rfl,?_⟩;rw[n7];intro e he;obtain⟨f,UX,rfl⟩:=p6.1 he;rw[E5]at UX;rw[v7];rcases ET hs h1 h2 hf T4 UX with⟨_,y,hy,e⟩|⟨_,y,hy,e⟩
 ·refine .inl ?_;rw[bC,y9];exact⟨y,hy,by rw[w8];exact e⟩
 ·refine .inr ?_;rw[bC,y9];exact⟨y,hy,by rw[w8];exact e⟩
theorem wD {p:List NX}{b:NP}(hs:aH 1048576 (.lst 4 (p.map NX.tr)))(h1:ah p=true)(h2:aY b=true){first second:Int}(hf:1<=first/\first<=9000)(T4:100000<=second/\second<=1000000):ib p b first second=some (aE p b first second):=by
 have a0:=er hs h1 h2 (image:=0) d_
 have M1:cY (ao p b 0) (ao p b 1) first second=false:=by unfold cY;rw[show decide (second<first+((ao p b 0).fab.length:Int))=false from C2 (by have:=a0.2;omega),C8,C8,C8]
 rw[ib,b9 ⟨h1,h2,zS hs h1 h2 o_ o_ M1⟩]
structure PsOk (P:List Oa):Prop where
 at0:∀x:Oa,P[0]?=some x->x.fat=0
 next:∀(k:Nat) (x y:Oa),P[k]?=some x->P[k+1]?=some y->y.fat=x.fat+aN x.fai.fad.fab
 rng:∀(k:Nat) (x:Oa),P[k]?=some x->0<=x.fat/\x.fat<=100000/\1<=aN x.fai.fad.fab/\aN x.fai.fad.fab<=5/\0<=x.fai.fav/\x.fai.fav<=59
 len:P.length<=15000
theorem nt:∀{L:List (Nat×List Oa)} {k:Nat} {x:Oa},(aB L)[k]?=some x->∃i z j,L[i]?=some z/\z.2[j]?=some x/\k=(aB (L.take i)).length+j
 | [],k,x,h=>by simp[aB]at h
 | a::L,k,x,h=>by
  have e:aB (a::L)=a.2++aB L:=by simp[aB]
  rw[e,G8]at h;split at h
  ·exact⟨0,a,k,rfl,h,by simp[aB]⟩
  ·obtain⟨i,z,j,h1,h2,h3⟩:=nt h;refine⟨i+1,z,j,by simpa using h1,h2,?_⟩;rw[q7,show aB (a::L.take i)=a.2++aB (L.take i) by simp[aB],c7];omega
theorem pX {c a:Int}(h:dB c a=true):1<=aN c/\aN c<=5:=by unfold dB at h;rw[c8]at h;have:=dV c;rw[aN,b9 h.1];omega
theorem Dc {p:List NX}{b:NP}{image:Int}(hs:aH 1048576 (.lst 4 (p.map NX.tr))):PsOk (cf p b image):=by
 by_cases hc:ah p=true/\aY b=true/\af image 0 1=true
 ·rw[cf,b9 hc];obtain⟨h1,h2,_⟩:=hc;show PsOk (aB (cn p b image (ay p).length 0 0));obtain⟨h6,Rb⟩:=jX h1;have PF:=kc p b image (ay p).length 0 0;have TN:=fun x (hx:x∈cn p b image (ay p).length 0 0)=>(jS hs hx).1;have Ow:=ot TN (d6 _);rw[j5 (d6 _)]at Ow;have Q8:=B0 2500 (show(cn p b image (ay p).length 0 0).length<=6 by omega)
  have key:∀(k:Nat) (x:Oa),(aB (cn p b image (ay p).length 0 0))[k]?=some x->x.fat=((au ((aB (cn p b image (ay p).length 0 0)).take k)).length:Int)/\dB x.fai.fad.fab x.fai.fad.faf=true/\0<=x.fai.fav/\x.fai.fav<=59:=by
   intro k x hx;obtain⟨i,z,j,g1,g2,rfl⟩:=nt hx;obtain⟨hp,ho⟩:=fX hs h1 h2 g1 g2
   have ht:(aB (cn p b image (ay p).length 0 0)).take ((aB ((cn p b image (ay p).length 0 0).take i)).length+j)=aB ((cn p b image (ay p).length 0 0).take i)++z.2.take j:=by
    generalize cn p b image (ay p).length 0 0=L at *
    have e:L=L.take i++z::L.drop (i+1):=by rw[<-dD g1,w5]
    have e2:aB L=aB (L.take i)++(z.2++aB (L.drop (i+1))):=by
     conv=>lhs;rw[e]
     simp[aB]
    rw[e2,I4,D2,j5 o_,w6 (Nat.le_of_lt (aJ g2))]
   refine⟨by rw[ht,aO,c7];omega,hp.op,?_⟩;rcases B5 j with rfl|hj
   ·obtain⟨_,g,ln,k1,k2,k3,_⟩:=hp.head rfl;have:=aJ k3;omega
   ·obtain⟨_,g,ln,k2,k3,_⟩:=hp.body hj;have:=aJ k3;omega
  generalize aB (cn p b image (ay p).length 0 0)=P at *
  refine⟨fun x hx=>?_,fun k x y hx hy=>?_,fun k x hx=>?_,o_⟩
  ·have:=(key 0 x hx).1;simpa [au]using this
  ·obtain⟨a1,a2,_⟩:=key k x hx;obtain⟨b1,_⟩:=key (k+1) y hy;have:=eC a2;rw[b1,a1,dF hx,aO,c7,eB];omega
  ·obtain⟨a1,a2,a3,a4⟩:=key k x hx;have hz:=pX a2;have M6:=iB (P.take k);have Om:=aJ hx;have:(P.take k).length=k:=by rw[j9];omega
   omega
 ·rw[cf,b8 hc];exact⟨fun x h=>by simp at h,fun k x y h=>by simp at h,fun k x h=>by simp at h,s_⟩
theorem PsOk.lt {P:List Oa}(h:PsOk P):∀{n k:Nat} {x y:Oa},P[k]?=some x->P[k+n+1]?=some y->x.fat+aN x.fai.fad.fab<=y.fat
 | 0,k,x,y,hx,hy=>by have:=h.next k x y hx hy;omega
 | n+1,k,x,y,hx,hy=>by
  obtain⟨z,hz⟩:=ae (l:=P) (k:=k+n+1) (by have:=aJ hy;omega);have h1:=h.lt hx hz;have h2:=h.next (k+n+1) z y hz (by rw[show k+n+1+1=k+(n+1)+1 by omega];exact hy);have:=(h.rng _ z hz).2.2.1;omega
abbrev NC (x:Int×Int):Res:= .tup [.c (.t (.int .i64 x.1)),.c (.t (.int .i64 x.2))]
theorem V33{p:Prop}(h:p:=by
 have:k=0\/k=1:=o_;rcases this with rfl|rfl
 ·exact⟨i0,b0,rfl,rfl,Sp,WY,fun h=>by rw[<-hR,fy,b9 h];rfl,fun h=>⟨fun _=>h,fun h2=>by omega⟩⟩
 ·exact⟨i1,b1,rfl,rfl,OU,RM,fun h=>by rw[<-hR,fy,b8 (Oy o_),b9 h];rfl,fun h=>⟨fun _=>Oy o_,fun _=>h⟩⟩):p:=h
theorem V94{p:Prop}(h:p:=by
 have QJ:k=2:=o_;subst QJ;have Q4:R=(-1,-1):=by rw[<-hR,fy,b8 (Oy o_),b8 (N7 o_)]
 subst Q4
 exact Z2):p:=h
theorem yb (i0 i1:NU)(b0 b1 e:Int)(es:List Int)(Sp:0<=b0/\b0<=1000000)(OU:0<=b1/\b1<=1000000)(WY:i0.fab.length<=1048576)(RM:i1.fab.length<=1048576):Sim.Spec Try.prog 37 [.agg (Oe.mk [i0,i1] [b0,b1] es).tr,tvI e] (NC (fy i0 i1 b0 b1 e)):=by
 refine aG hΓ aK Try.func37 rfl d_ rfl ?_;generalize hR:fy i0 i1 b0 b1 e=R;repeat' ((conv=>whnf);first|refine Or.inl ?_|apply oi|apply fi|intro h|refine⟨_,rfl,?_⟩|exact Y1|fail)
 conv=>whnf
 refine⟨{k:Nat//k<=2/\(1<=k->¬(b0<=e/\e<b0+i0.fab.length))/\(2<=k->¬(b1<=e/\e<b1+i1.fab.length))},fun k=>⟨[(1,tI .i64 e),(2,.r (.c (.ptr (2,0,0) 0))),(9,.r (.c (.t (.lst 2 [i0.tr,i1.tr])))),(10,tI .i64 2),(11,tI .i64 (k.1:Int))],[((2,0,0),some (.box (ub i0 i1 b0 b1 es)))],[2]⟩,fun k=>2-k.1,⟨0,o_,o_,o_⟩,?_,?_⟩
 ·exact Z2
 intro⟨k,hk,Oy,N7⟩;dsimp only;by_cases J3:k<2
 ·obtain⟨i,b,hi,hb,Py,PF,Qh,M1⟩:∃(i:NU) (b:Int),([i0.tr,i1.tr]:List (List Tr))[k]?=some i.tr/\([aa b0,aa b1]:List (List Tr))[k]?=some (aa b)/\(0<=b/\b<=1000000)/\i.fab.length<=1048576/\
    (b<=e/\e<b+i.fab.length->R=((k:Int),e-b))/\(¬(b<=e/\e<b+i.fab.length)->(1<=k+1->¬(b0<=e/\e<b0+i0.fab.length))/\(2<=k+1->¬(b1<=e/\e<b1+i1.fab.length))):=by
   exact V33
  by_cases hin:b<=e/\e<b+i.fab.length
  ·have Q4:=Qh hin;have Qk:IntKind.i64.wrap (e-b)=e-b:=c9 _ o_;have hB:=bL e b (b+i.fab.length-1);rw[within_iff.2 ⟨hin.1,o_⟩]at hB;subst Q4;repeat' ((conv=>whnf);first|refine Or.inl ?_|apply oi|apply fi|intro h|refine⟨k,i.tr,rfl,hi,?_⟩|refine⟨k,aa b,rfl,hb,?_⟩|refine ci hB (ai rfl (ai rfl (ai KW trivial))) ?_|refine⟨_,rfl,?_⟩|exact Y1|fail)
   all_goals first
    |(exfalso;have h':=f0 h;omega)
    |(refine⟨congrArg (Tr.int _) ?_⟩;rw[Qk])
  ·have hB:=bL e b (b+i.fab.length-1)
   have hwf:af e b (b+i.fab.length-1)=false:=by
    cases hw:af e b (b+i.fab.length-1)with
    | false=>rfl
    | true=>have:=within_iff.1 hw;exact absurd ⟨this.1,o_⟩ hin
   rw[hwf]at hB;repeat' ((conv=>whnf);first|refine Or.inl ?_|apply oi|apply fi|intro h|refine⟨k,i.tr,rfl,hi,?_⟩|refine⟨k,aa b,rfl,hb,?_⟩|refine ci hB (ai rfl (ai rfl (ai KW trivial))) ?_|refine⟨_,rfl,?_⟩|exact Y1|fail)
   all_goals try(exfalso;have h':=f0 h;omega)
   all_goals conv=>whnf
   all_goals refine⟨⟨k+1,o_,M1 hin⟩,?_,KD⟩
   repeat' ((conv=>whnf);first|refine Or.inl ?_|apply oi|apply fi|intro h|refine⟨_,rfl,?_⟩|exact Y1|fail)
   all_goals exact⟨by dsimp only;rw[c9 _ o_];rfl⟩
 ·exact V94
theorem sc (i0 i1:NU)(b0 b1 e:Int)(es:List Int)(Sp:0<=b0/\b0<=1000000)(OU:0<=b1/\b1<=1000000)(WY:i0.fab.length<=1048576)(RM:i1.fab.length<=1048576):Sim.Spec Try.prog 69 [.agg (Oe.mk [i0,i1] [b0,b1] es).tr,tvI e] (NC (fy i0 i1 b0 b1 e)):=by
 refine aG hΓ aK Try.func69 rfl d_ rfl ?_;have h2:([i0.tr,i1.tr]:List (List Tr)).length=2:=rfl;generalize hR:fy i0 i1 b0 b1 e=R;repeat' ((conv=>whnf);first|refine Or.inl ?_|apply oi|apply fi|intro h|refine⟨_,rfl,?_⟩|exact Y1|fail)
 conv=>whnf
 refine⟨{k:Nat//k<=2/\(1<=k->¬(b0<=e/\e<b0+i0.fab.length))/\(2<=k->¬(b1<=e/\e<b1+i1.fab.length))},fun k=>⟨[(1,tI .i64 e),(2,.r (.c (.ptr (2,0,0) 0))),(6,tI .i64 (k.1:Int))],[((2,0,0),some (.box (ub i0 i1 b0 b1 es)))],[2]⟩,fun k=>2-k.1,⟨0,o_,o_,o_⟩,?_,?_⟩
 ·exact Z2
 intro⟨k,hk,Oy,N7⟩;dsimp only;by_cases J3:k<2
 ·obtain⟨i,b,hi,hb,Py,PF,Qh,M1⟩:∃(i:NU) (b:Int),([i0.tr,i1.tr]:List (List Tr))[k]?=some i.tr/\([aa b0,aa b1]:List (List Tr))[k]?=some (aa b)/\(0<=b/\b<=1000000)/\i.fab.length<=1048576/\
    (b<=e/\e<b+i.fab.length->R=((k:Int),e-b))/\(¬(b<=e/\e<b+i.fab.length)->(1<=k+1->¬(b0<=e/\e<b0+i0.fab.length))/\(2<=k+1->¬(b1<=e/\e<b1+i1.fab.length))):=by
   exact V33
  by_cases hin:b<=e/\e<b+i.fab.length
  ·have Q4:=Qh hin;have Qk:IntKind.i64.wrap (e-b)=e-b:=c9 _ o_;have UN:IntKind.i64.wrap (b+(i.fab.length:Int))=b+i.fab.length:=c9 _ o_;subst Q4;repeat' ((conv=>whnf);first|refine Or.inl ?_|apply oi|apply fi|intro h|refine⟨k,i.tr,rfl,hi,?_⟩|refine⟨k,aa b,rfl,hb,?_⟩|refine⟨_,rfl,?_⟩|exact Y1|fail)
   all_goals first
    |(exfalso;have h':=f0 h;(try rw[UN]at h');(try rw[h2]at h');omega)
    |(refine⟨congrArg (Tr.int _) ?_⟩;rw[Qk])
  ·have UN:IntKind.i64.wrap (b+(i.fab.length:Int))=b+i.fab.length:=c9 _ o_;repeat' ((conv=>whnf);first|refine Or.inl ?_|apply oi|apply fi|intro h|refine⟨k,i.tr,rfl,hi,?_⟩|refine⟨k,aa b,rfl,hb,?_⟩|refine⟨_,rfl,?_⟩|exact Y1|fail)
   all_goals try(exfalso;first|(have h':=f0 h;rw[h2]at h';omega)|(rename_i a1;have c1:=f9 a1;have c2:=f9 h;rw[UN]at c2;exact hin ⟨c1,c2⟩))
   all_goals conv=>whnf
   all_goals refine⟨⟨k+1,o_,M1 hin⟩,?_,KD⟩
   repeat' ((conv=>whnf);first|refine Or.inl ?_|apply oi|apply fi|intro h|refine⟨_,rfl,?_⟩|exact Y1|fail)
   all_goals exact⟨by dsimp only;rw[c9 _ o_];rfl⟩
 ·exact V94
theorem mR {s:Oe}:(∃i0 i1 b0 b1,s=⟨[i0,i1],[b0,b1],s.fan⟩)\/(cN s=false/\¬(s.faB.length=2/\s.faE.length=2)):=by
 obtain⟨im,bs,es⟩:=s
 match im,bs with
 | [i0,i1],[b0,b1]=>exact .inl ⟨i0,i1,b0,b1,rfl⟩
 | [],_=>exact .inr ⟨rfl,s_⟩
 | [_],_=>exact .inr ⟨rfl,s_⟩
 | _::_::_::_,_=>exact .inr ⟨rfl,s_⟩
 | [_,_],[]=>exact .inr ⟨rfl,s_⟩
 | [_,_],[_]=>exact .inr ⟨rfl,s_⟩
 | [_,_],_::_::_::_=>exact .inr ⟨rfl,s_⟩
theorem mN (s:Oe)(hs:aR 1048576 s.tr):Sim.Spec Try.prog 16 [.agg s.tr] (rB (cN s)):=by
 rcases mR (s:=s)with⟨i0,i1,b0,b1,h⟩|⟨h,hn⟩
 ·rw[h]at hs⊢;exact uy i0 i1 b0 b1 s.fan hs
 ·rw[h];have l1:(s.faB.map NU.tr).length=s.faB.length:=s_;have l2:(s.faE.map aa).length=s.faE.length:=s_;refine aG hΓ aK Try.func16 rfl d_ rfl ?_;repeat' ((conv=>whnf);first|refine Or.inl ?_|apply oi|apply fi|intro h|refine ci (bL _ _ _) (ai rfl (ai rfl (ai rfl trivial))) ?_|refine⟨_,rfl,?_⟩|exact Y1|fail)
  all_goals(exfalso;apply hn;(simp_all)<;>(constructor<;>omega))
theorem uB (i0 i1:NU)(b0 b1:Int)(es:List Int)(hs:aR 1048576 (Oe.mk [i0,i1] [b0,b1] es).tr):Sim.Spec Try.prog 45 [.agg (Oe.mk [i0,i1] [b0,b1] es).tr] (rB (eH i0 i1 b0 b1 es)):=by
 refine aG hΓ aK Try.func45 rfl d_ rfl ?_;have J0:(es.map aa).length=es.length:=s_;have hE:=bd es.length 1 6;unfold eH
 cases hw:af es.length 1 6 with
 | false=>exact V46
 | true=>
  rw[hw]at hE;repeat' ((conv=>whnf);first|refine Or.inl ?_|apply oi|apply fi|intro h|refine ci hE (ai KW (ai rfl (ai rfl trivial))) ?_|refine⟨_,rfl,?_⟩|exact Y1|fail)
  all_goals try(exfalso;simp at h;done)
  have M4:=hs;simp only[Oe.tr,aR]at M4;have U9:=M4.1;have TH:aR 1048576 i0.tr:=bi U9 s_;have QU:aR 1048576 i1.tr:=bi U9 s_;have P3:i0.fab.length<=1048576:=by have:=TH;simp only[NU.tr,aR,aH]at this;omega
  have Pu:i1.fab.length<=1048576:=by have:=QU;simp only[NU.tr,aR,aH]at this;omega
  have Ug:i0.fam.length<=1048576:=by have:=TH;simp only[NU.tr,aR]at this;exact cQ this.2.1
  have TY:i1.fam.length<=1048576:=by have:=QU;simp only[NU.tr,aR]at this;exact cQ this.2.1
  have N1:es.length<=1048576:=cQ M4.2.2.1;rw[m8];generalize hR:(bu i0&&(af b0 1 1000000&&(bu i1&&(af b1 1 1000000&&(!(cY i0 i1 b0 b1)&&es.all fun e=>bC i0 b0 e||bC i1 b1 e)))))=R;conv=>whnf
  refine⟨{k:Nat//k<=2/\(1<=k->bu i0=true/\af b0 1 1000000=true)/\(2<=k->bu i1=true/\af b1 1 1000000=true)},fun k=>⟨[(1,.r (.c (.ptr (1,0,0) 0))),(3,tI .i64 (k.1:Int))],[((1,0,0),some (.box (ub i0 i1 b0 b1 es)))],[1]⟩,fun k=>2-k.1,⟨0,o_,o_,o_⟩,?_,?_⟩
  ·exact Z2
  intro⟨k,hk,Oy,N7⟩;dsimp only;by_cases J3:k<2
  ·obtain⟨i,b,hi,hb,YC,SR,Qn,Qh⟩:∃(i:NU) (b:Int),([i0.tr,i1.tr]:List (List Tr))[k]?=some i.tr/\([aa b0,aa b1]:List (List Tr))[k]?=some (aa b)/\aR 1048576 i.tr/\
     (bu i=false->R=false)/\(af b 1 1000000=false->R=false)/\(bu i=true->af b 1 1000000=true->(1<=k+1->bu i0=true/\af b0 1 1000000=true)/\(2<=k+1->bu i1=true/\af b1 1 1000000=true)):=by
    exact V26
   have hI:=vy i YC;have hB:=bd b 1 1000000;exact V3
  ·have QJ:k=2:=o_;subst QJ;obtain⟨g0,w0⟩:=Oy o_;obtain⟨g1,w1⟩:=N7 o_;have v0:=within_iff.1 w0;have v1:=within_iff.1 w1;rw[g0,g1,w0,w1,m8,m8,m8,m8]at hR;have x0:IntKind.i64.wrap (b1+(i1.fab.length:Int))=b1+i1.fab.length:=c9 _ o_;have x1:IntKind.i64.wrap (b0+(i0.fab.length:Int))=b0+i0.fab.length:=c9 _ o_
   cases ho:cY i0 i1 b0 b1 with
   | true=>exact V16
   | false=>
    rw[ho,F8,m8]at hR
    have M1:¬(0<i0.fab.length/\0<i1.fab.length/\b0<b1+i1.fab.length/\b1<b0+i0.fab.length):=by exact V101
    have m0:=eA (imageOk_iff.1 g0).2 o_;have m1:=eA (imageOk_iff.1 g1).2 o_;have l0:=(imageOk_iff.1 g0).1;have l1:=(imageOk_iff.1 g1).1;repeat' ((conv=>whnf);first|refine Or.inl ?_|apply oi|apply fi|intro h|refine⟨0,_,rfl,rfl,?_⟩|refine⟨1,_,rfl,rfl,?_⟩|refine⟨_,rfl,?_⟩|exact Y1|fail)
    all_goals try(
     exfalso;rename_i a1 a2 a3;have c1:=f9 a1;have c2:=f9 a2;have c3:=f9 a3;have c4:=f9 h;rw[x0]at c3;rw[x1]at c4
     exact M1 ⟨o_,o_,c3,c4⟩)
    all_goals(
     conv=>whnf
     refine⟨{j:Nat//j<=es.length/\((es.drop j).all fun e=>bC i0 b0 e||bC i1 b1 e)=R},fun j=>⟨[(1,.r (.c (.ptr (1,0,0) 0))),(6,tI .i64 (j.1:Int))],[((1,0,0),some (.box (ub i0 i1 b0 b1 es)))],[1]⟩,fun j=>es.length-j.1,⟨0,o_,hR⟩,?_,?_⟩
     ·exact Z2
     intro⟨j,hj,hr⟩;dsimp only;by_cases OM:j<es.length
     ·obtain⟨e,he⟩:=ae OM;have Pz:=sc i0 i1 b0 b1 e es o_ o_ P3 Pu;rw[dD he,G7,<-ER g0 g1 ho,EA]at hr;by_cases c0:b0<=e/\e<b0+i0.fab.length
      ·have Pc:fy i0 i1 b0 b1 e=(0,e-b0):=by rw[fy,b9 c0]
       rw[Pc]at Pz hr;rw[b9 rfl]at hr;have hS:=mD i0 (e-b0) Ug;have WS:=nd i0.fam (e-b0);dsimp only at hr;rw[ox]at hr
       generalize fk i0.fam (e-b0)=K at *
       rcases WS with rfl|⟨q0,q1⟩
       ·rw[show decide ((0:Int)<=-1)=false from rfl,q9,q9]at hr;subst hr;repeat' ((conv=>whnf);first|refine Or.inl ?_|apply oi|apply fi|intro h|refine⟨j,aa e,rfl,ab he,?_⟩|refine ci Pz (ai (ai rfl (ai rfl (ai rfl trivial))) (ai rfl trivial)) ?_|refine⟨0,i0.tr,rfl,rfl,?_⟩|refine ci hS (ai (ai rfl (ai rfl trivial)) (ai rfl trivial)) ?_|refine⟨_,rfl,?_⟩|exact Y1|fail)
        all_goals(exfalso;first|(have h':=f0 h;rw[J0]at h';omega)|(simp at h;done)|(have h':=f9 h;omega))
       ·obtain⟨n,rfl⟩:=j8 q0;obtain⟨x,hx⟩:=ae (l:=i0.fam) (k:=n) o_;rw[d9,hx,s6 q0,m8]at hr;dsimp only at hr
        cases Qo:(x.fak==e-b0)with
        | false=>
         rw[Qo,q9]at hr;subst hr;repeat' ((conv=>whnf);first|refine Or.inl ?_|apply oi|apply fi|intro h|refine⟨j,aa e,rfl,ab he,?_⟩|refine ci Pz (ai (ai rfl (ai rfl (ai rfl trivial))) (ai rfl trivial)) ?_|refine⟨0,i0.tr,rfl,rfl,?_⟩|refine ci hS (ai (ai rfl (ai rfl trivial)) (ai rfl trivial)) ?_|refine⟨n,x.tr,rfl,ab hx,?_⟩|refine⟨_,rfl,?_⟩|exact Y1|fail)
         all_goals(exfalso;first|(have h':=f0 h;rw[J0]at h';omega)|(have h':=f9 h;omega)|(simp only[bne,Qo]at h;simp at h;done))
        | true=>
         rw[Qo,m8]at hr;repeat' ((conv=>whnf);first|refine Or.inl ?_|apply oi|apply fi|intro h|refine⟨j,aa e,rfl,ab he,?_⟩|refine ci Pz (ai (ai rfl (ai rfl (ai rfl trivial))) (ai rfl trivial)) ?_|refine⟨0,i0.tr,rfl,rfl,?_⟩|refine ci hS (ai (ai rfl (ai rfl trivial)) (ai rfl trivial)) ?_|refine⟨n,x.tr,rfl,ab hx,?_⟩|refine⟨_,rfl,?_⟩|exact Y1|fail)
         all_goals try(exfalso;first|(have h':=f0 h;rw[J0]at h';omega)|(have h':=f9 h;omega)|(simp only[bne,Qo]at h;simp at h;done))
         conv=>whnf
         refine⟨⟨j+1,o_,hr⟩,?_,KD⟩;repeat' ((conv=>whnf);first|refine Or.inl ?_|apply oi|apply fi|intro h|refine⟨_,rfl,?_⟩|exact Y1|fail)
         all_goals exact⟨by dsimp only;rw[c9 _ o_];rfl⟩
      ·by_cases c1:b1<=e/\e<b1+i1.fab.length
       ·have Pc:fy i0 i1 b0 b1 e=(1,e-b1):=by rw[fy,b8 c0,b9 c1]
        rw[Pc]at Pz hr;rw[b8 s_,b9 rfl]at hr;have hS:=mD i1 (e-b1) TY;have WS:=nd i1.fam (e-b1);dsimp only at hr;rw[ox]at hr
        generalize fk i1.fam (e-b1)=K at *
        rcases WS with rfl|⟨q0,q1⟩
        ·rw[show decide ((0:Int)<=-1)=false from rfl,q9,q9]at hr;subst hr;repeat' ((conv=>whnf);first|refine Or.inl ?_|apply oi|apply fi|intro h|refine⟨j,aa e,rfl,ab he,?_⟩|refine ci Pz (ai (ai rfl (ai rfl (ai rfl trivial))) (ai rfl trivial)) ?_|refine⟨1,i1.tr,rfl,rfl,?_⟩|refine ci hS (ai (ai rfl (ai rfl trivial)) (ai rfl trivial)) ?_|refine⟨_,rfl,?_⟩|exact Y1|fail)
         all_goals(exfalso;first|(have h':=f0 h;rw[J0]at h';omega)|(simp at h;done)|(have h':=f9 h;omega))
        ·obtain⟨n,rfl⟩:=j8 q0;obtain⟨x,hx⟩:=ae (l:=i1.fam) (k:=n) o_;rw[d9,hx,s6 q0,m8]at hr;dsimp only at hr
         cases Qo:(x.fak==e-b1)with
         | false=>
          rw[Qo,q9]at hr;subst hr;repeat' ((conv=>whnf);first|refine Or.inl ?_|apply oi|apply fi|intro h|refine⟨j,aa e,rfl,ab he,?_⟩|refine ci Pz (ai (ai rfl (ai rfl (ai rfl trivial))) (ai rfl trivial)) ?_|refine⟨1,i1.tr,rfl,rfl,?_⟩|refine ci hS (ai (ai rfl (ai rfl trivial)) (ai rfl trivial)) ?_|refine⟨n,x.tr,rfl,ab hx,?_⟩|refine⟨_,rfl,?_⟩|exact Y1|fail)
          all_goals(exfalso;first|(have h':=f0 h;rw[J0]at h';omega)|(have h':=f9 h;omega)|(simp only[bne,Qo]at h;simp at h;done))
         | true=>
          rw[Qo,m8]at hr;repeat' ((conv=>whnf);first|refine Or.inl ?_|apply oi|apply fi|intro h|refine⟨j,aa e,rfl,ab he,?_⟩|refine ci Pz (ai (ai rfl (ai rfl (ai rfl trivial))) (ai rfl trivial)) ?_|refine⟨1,i1.tr,rfl,rfl,?_⟩|refine ci hS (ai (ai rfl (ai rfl trivial)) (ai rfl trivial)) ?_|refine⟨n,x.tr,rfl,ab hx,?_⟩|refine⟨_,rfl,?_⟩|exact Y1|fail)
          all_goals try(exfalso;first|(have h':=f0 h;rw[J0]at h';omega)|(have h':=f9 h;omega)|(simp only[bne,Qo]at h;simp at h;done))
          conv=>whnf
          refine⟨⟨j+1,o_,hr⟩,?_,KD⟩;repeat' ((conv=>whnf);first|refine Or.inl ?_|apply oi|apply fi|intro h|refine⟨_,rfl,?_⟩|exact Y1|fail)
          all_goals exact⟨by dsimp only;rw[c9 _ o_];rfl⟩
       ·have Pc:fy i0 i1 b0 b1 e=(-1,-1):=by rw[fy,b8 c0,b8 c1]
        rw[Pc]at Pz hr;rw[b8 s_,b8 s_,q9]at hr;subst hr;repeat' ((conv=>whnf);first|refine Or.inl ?_|apply oi|apply fi|intro h|refine⟨j,aa e,rfl,ab he,?_⟩|refine ci Pz (ai (ai rfl (ai rfl (ai rfl trivial))) (ai rfl trivial)) ?_|refine⟨_,rfl,?_⟩|exact Y1|fail)
        all_goals(exfalso;first|(have h':=f0 h;rw[J0]at h';omega)|(simp at h;done))
     ·have N2:es.length<=j:=o_;rw[q8 N2,List.all_nil]at hr;subst hr;repeat' ((conv=>whnf);first|refine Or.inl ?_|apply oi|apply fi|intro h|refine⟨_,rfl,?_⟩|exact Y1|fail)
      all_goals(exfalso;have h':=f9 h;rw[J0]at h';omega))
theorem vO (s:Oe)(hs:aR 1048576 s.tr):Sim.Spec Try.prog 45 [.agg s.tr] (rB (cN s)):=by
 rcases mR (s:=s)with⟨i0,i1,b0,b1,h⟩|⟨h,hn⟩
 ·rw[h]at hs⊢;exact uB i0 i1 b0 b1 s.fan hs
 ·rw[h];have l1:(s.faB.map NU.tr).length=s.faB.length:=s_;have l2:(s.faE.map aa).length=s.faE.length:=s_;refine aG hΓ aK Try.func45 rfl d_ rfl ?_;repeat' ((conv=>whnf);first|refine Or.inl ?_|apply oi|apply fi|intro h|refine ci (bd _ _ _) (ai rfl (ai rfl (ai rfl trivial))) ?_|refine⟨_,rfl,?_⟩|exact Y1|fail)
  all_goals(exfalso;apply hn;(simp_all)<;>(constructor<;>omega))
theorem ue {s:Oe}(h:cN s=true):∃i0 i1 b0 b1,s=⟨[i0,i1],[b0,b1],s.fan⟩/\(1<=s.fan.length/\s.fan.length<=6)/\(bu i0=true/\1<=b0/\b0<=1000000)/\(bu i1=true/\1<=b1/\b1<=1000000)/\cY i0 i1 b0 b1=false/\∀e∈s.fan,(bC i0 b0 e||bC i1 b1 e)=true:=by
 rcases mR (s:=s)with⟨i0,i1,b0,b1,hs⟩|⟨h',_⟩
 ·refine⟨i0,i1,b0,b1,hs,?_⟩;rw[hs,cN]at h;dsimp only at h;rw[eH,c8,c8,c8,c8,c8,c8,within_iff,within_iff,within_iff,n7,u7]at h;obtain⟨h1,h2,h3,h4,h5,h6,h7⟩:=h;exact⟨o_,⟨h2,h3⟩,⟨h4,h5⟩,h6,h7⟩
 ·rw[h']at h;cases h
def ND:NY:=⟨0,0,0,[],[],0,0⟩
def lM (s:Oe):NY:=if cN s then⟨s.fan.headD 0,1199,1200,List.replicate 1200 0,[],0,0⟩else ND
theorem qN (s:Oe)(hs:aR 1048576 s.tr):Sim.Spec Try.prog 7 [.agg s.tr] (.tup [.agg ((lM s).tr.map EO),.c (.t (.bool (cN s)))]):=by
 refine aG hΓ aK Try.func7 rfl d_ rfl ?_;have hS:=mN s hs;unfold lM
 cases J5:cN s with
 | false=>
  rw[J5]at hS
  repeat' ((conv=>whnf);first|refine Or.inl ?_|apply oi|apply fi|intro h|refine ci hS (ai (ai rfl (ai rfl (ai rfl trivial))) trivial) ?_|refine⟨_,rfl,?_⟩|exact Y1|fail)
 | true=>
  rw[J5]at hS;obtain⟨i0,i1,b0,b1,_,⟨hl,_⟩,_⟩:=ue J5
  match he:s.fan,hl with
  | e::es,_=>
   rw[b9 rfl];repeat' ((conv=>whnf);first|refine Or.inl ?_|apply oi|apply fi|intro h|refine ci hS (ai (ai rfl (ai rfl (ai rfl trivial))) trivial) ?_|refine⟨0,aa e,rfl,(by rw[he];rfl),?_⟩|refine⟨_,rfl,?_⟩|exact Y1|fail)
   all_goals try(exfalso;simp at h;done)
def AN (s:Oe)(a:Int):Int×Int:=match s.faB,s.faE with
 | [i0,i1],[b0,b1]=>fy i0 i1 b0 b1 a
 | _,_=>(-1,-1)
def Kv (rules:List (List Oc))(x:Int×Int):Option Oc:=
 if x.1<0 then none else match rules[x.1.toNat]? with
  | some rl=>if qS rl x.2<0 then none else rl[(qS rl x.2).toNat]?
  | none=>none
theorem El (i0 i1:NU)(b0 b1 a:Int):fy i0 i1 b0 b1 a=(-1,-1)\/∃(i:Nat) (off:Int),i<2/\fy i0 i1 b0 b1 a=((i:Int),off):=by
 unfold fy;split
 ·exact .inr ⟨0,_,o_,rfl⟩
 ·split
  ·exact .inr ⟨1,_,o_,rfl⟩
  ·exact .inl rfl
def itH:Nat->Int->Int
 | 0,h=>h
 | n+1,h=>itH n (iX h)
theorem mf:∀(n m:Nat) (h:Int),itH (n+m) h=itH m (itH n h)
 | 0,m,h=>by rw[s5,itH]
 | n+1,m,h=>by rw[show n+1+m=(n+m)+1 by omega,itH,itH,mf n m]
abbrev mM:Int:=9007199254740992
def Aff (n:Nat)(a c:Nat):Prop:=∀h:Int,itH n h%mM=((a:Int)*h+c)%mM
theorem V108{p:Prop}(h:p:=by
 unfold IntKind.wrap;simp[IntKind.bits,IntKind.signed]
 split<;>omega):p:=h
theorem De (x:Int):IntKind.i64.wrap x%mM=x%mM:=by
 have h:IntKind.i64.wrap x%18446744073709551616=x%18446744073709551616:=by exact V108
 have h1:IntKind.i64.wrap x%18446744073709551616%mM=IntKind.i64.wrap x%mM:=E7 _ ⟨2048,rfl⟩;have h2:x%18446744073709551616%mM=x%mM:=E7 _ ⟨2048,rfl⟩;rw[<-h1,<-h2,h]
theorem Lt:Aff 1 6364136223846793005 1442695040888963407:=by intro h;show iX h%mM=_;unfold iX;rw[De,A2,De,<-A2,I8];rfl
theorem Lu {n a c m b d:Nat}(h1:Aff n a c)(h2:Aff m b d):Aff (n+m) (a*b%9007199254740992) ((b*c+d)%9007199254740992):=by
 intro h;rw[mf,h2,A2,I9,h1,<-I9,<-A2];have e1:(((a*b%9007199254740992:Nat):Int))=((a:Int)*b)%mM:=by rw[Int.natCast_emod,Int.natCast_mul];rfl
 have e2:((((b*c+d)%9007199254740992:Nat):Int))=((b:Int)*c+d)%mM:=by rw[Int.natCast_emod,Int.natCast_add,Int.natCast_mul];rfl
 rw[e1,e2,A2 (((a:Int)*b)%mM*h),I9 (((a:Int)*b)%mM),E7 _ (Int.dvd_refl _),E7 _ (Int.dvd_refl _),<-I9,<-A2];congr 1;rw[Int.mul_add,<-Int.mul_assoc,I8 (b:Int) a,Int.add_assoc]
def BI:Nat->Nat->Nat->Nat×Nat
 | 0,a,c=>(a,c)
 | k+1,a,c=>BI k (a*a%9007199254740992) ((a*c+c)%9007199254740992)
theorem Fo:∀(k n a c:Nat),Aff n a c->Aff (n*2^k) (BI k a c).1 (BI k a c).2
 | 0,n,a,c,h=>by rw[Nat.pow_zero,Nat.mul_one];exact h
 | k+1,n,a,c,h=>by
  rw[BI,show n*2^(k+1)=(n+n)*2^k by rw[H5,o9,<-Nat.mul_two,Nat.mul_assoc]];exact Fo k (n+n) _ _ (Lu h h)
theorem NG:(BI 51 6364136223846793005 1442695040888963407).1=1/\(BI 51 6364136223846793005 1442695040888963407).2%2251799813685248=0/\(BI 51 6364136223846793005 1442695040888963407).2/2251799813685248%2=1:=by decide+kernel
def byW (h:Int):Int:=IntKind.i64.wrap ((BitVec.ofInt IntKind.i64.bits (IntKind.i64.wrap ((BitVec.ofInt IntKind.i64.bits (h.fdiv (2^min (Int.toNat 33) IntKind.i64.bits)) ^^^ BitVec.ofInt IntKind.i64.bits (h.fdiv (2^min (Int.toNat 45) IntKind.i64.bits))).toNat:Int)) &&& BitVec.ofInt IntKind.i64.bits 255).toNat:Int)
def byN (h:Int):Nat:=(h%mM/8589934592%256).toNat ^^^ (h%mM/35184372088832%256).toNat
theorem Il (x:Int):(BitVec.ofInt 64 x &&& BitVec.ofInt 64 255).toNat=(x%256).toNat:=by have e:(BitVec.ofInt 64 255).toNat=2^8-1:=d_;rw[I5,e,D0,B6];omega
theorem MM (h:Int):byW h=(byN h:Int):=by
 have e33:h.fdiv (2^min (Int.toNat 33) IntKind.i64.bits)=h/8589934592:=by rw[show(2:Int)^min (Int.toNat 33) IntKind.i64.bits=8589934592 from rfl,E6 _ d_]
 have e45:h.fdiv (2^min (Int.toNat 45) IntKind.i64.bits)=h/35184372088832:=by rw[show(2:Int)^min (Int.toNat 45) IntKind.i64.bits=35184372088832 from rfl,E6 _ d_]
 unfold byW;rw[e33,e45];show IntKind.i64.wrap (((BitVec.ofInt 64 (IntKind.i64.wrap ((BitVec.ofInt 64 (h/8589934592) ^^^ BitVec.ofInt 64 (h/35184372088832)).toNat:Int)) &&& BitVec.ofInt 64 255).toNat:Nat):Int)=_;rw[Il]
 have hw:∀x:Int,IntKind.i64.wrap x%256=x%256:=fun x=>by
  exact V108
 rw[hw,BitVec.toNat_xor,B6,B6]
 have hx:∀a b:Nat,((a ^^^ b:Nat):Int)%256=(((a%256) ^^^ (b%256):Nat):Int):=fun a b=>by
  have:=Nat.xor_mod_two_pow (a:=a) (b:=b) (n:=8);rw[show(2:Nat)^8=256 from rfl]at this;rw[<-this];omega
 rw[hx]
 have h1:((h/8589934592)%((2^64:Nat):Int)).toNat%256=(h%mM/8589934592%256).toNat:=by rw[show((2^64:Nat):Int)=18446744073709551616 from rfl];show _=(h%9007199254740992/8589934592%256).toNat;omega
 have h2:((h/35184372088832)%((2^64:Nat):Int)).toNat%256=(h%mM/35184372088832%256).toNat:=by rw[show((2^64:Nat):Int)=18446744073709551616 from rfl];show _=(h%9007199254740992/35184372088832%256).toNat;omega
 rw[h1,h2,d9]
 have hb:byN h<256:=by unfold byN;exact Nat.xor_lt_two_pow (n:=8) o_ o_
 unfold byN at hb⊢;rw[c9 _ o_]
theorem JV (h:Int):byN h<256:=by unfold byN;exact Nat.xor_lt_two_pow (n:=8) o_ o_
theorem LE:∀u:Fin 256,∀lo:Fin 64,∃hi:Fin 4,(u.val ^^^ (lo.val+64*hi.val))%3=2:=by decide+kernel
theorem Nu {B r:Int}(h0:0<=r)(h1:r<2251799813685248):(2251799813685248*B+r)%mM=2251799813685248*(B%4)+r:=by show(2251799813685248*B+r)%9007199254740992=_;omega
theorem Hf {h B r:Int}(h0:0<=r)(h1:r<2251799813685248)(he:h%mM=(2251799813685248*B+r)%mM):byN h=(r/8589934592%256).toNat ^^^ ((r/35184372088832%64).toNat+64*(B%4).toNat):=by unfold byN;rw[he,Nu h0 h1];have e1:(2251799813685248*(B%4)+r)/8589934592%256=r/8589934592%256:=o_;have e2:((2251799813685248*(B%4)+r)/35184372088832%256).toNat=(r/35184372088832%64).toNat+64*(B%4).toNat:=o_;rw[e1,e2]
theorem MR (A:Int)(w:Nat)(hw:w%2=1)(hi:Nat)(hh:hi<4):∃q:Nat,q<4/\(A+3*(q*w:Nat))%4=(hi:Int):=by
 have h4:w%4=1\/w%4=3:=o_;have hA:((hi:Int)-A)%4=0\/((hi:Int)-A)%4=1\/((hi:Int)-A)%4=2\/((hi:Int)-A)%4=3:=o_;rcases hA with h|h|h|h
 ·exact⟨0,o_,o_⟩
 ·rcases h4 with h4|h4
  ·exact⟨3,o_,o_⟩
  ·exact⟨1,o_,o_⟩
 ·exact⟨2,o_,o_⟩
 ·rcases h4 with h4|h4
  ·exact⟨1,o_,o_⟩
  ·exact⟨3,o_,o_⟩
theorem Hl {T v:Nat}(h:Aff T 1 v)(g:Int):itH (3*T) g%mM=(g+3*v)%mM:=by have s1:=h g;have s2:=h (itH T g);have s3:=h (itH T (itH T g));rw[Int.natCast_one,Int.one_mul]at s1 s2 s3;rw[show 3*T=T+(T+T) by omega,mf,mf,s3,A2,s2,<-A2,Int.add_assoc,A2,s1,<-A2];congr 1;omega
theorem yo {T v:Nat}(h:Aff T 1 v):∀(q:Nat) (g:Int),itH (q*(3*T)) g%mM=(g+3*(q*v:Nat))%mM
 | 0,g=>by simp[itH]
 | q+1,g=>by
  have h3:=Hl h g;rw[show(q+1)*(3*T)=3*T+q*(3*T) by rw[o9,Nat.one_mul,Nat.add_comm],mf,yo h q,A2,h3,<-A2];congr 1;rw[o9,Nat.one_mul];omega
theorem Ht (h:Int)(K:Nat):∃k,K<=k/\byN (itH (6*k) h)%3=2:=by
 obtain⟨d1,d2,d3⟩:=NG;have YM:=Fo 51 1 _ _ Lt;rw[d1,Nat.one_mul]at YM
 generalize(BI 51 6364136223846793005 1442695040888963407).2=v at *
 have e51:(2:Nat)^51=2*2^50:=by rw[H5,Nat.mul_comm]
 rw[e51]at YM
 generalize(2:Nat)^50=T at *
 obtain⟨w,rfl⟩:∃w:Nat,v=2251799813685248*w:=⟨v/2251799813685248,o_⟩;have OB:w%2=1:=o_
 generalize hz:itH (6*K) h=z at *
 obtain⟨A,r,hA,r0,r1⟩:∃A r:Int,z=2251799813685248*A+r/\0<=r/\r<2251799813685248:=⟨z/2251799813685248,z%2251799813685248,o_,o_,o_⟩;obtain⟨hi,TE⟩:=LE ⟨(r/8589934592%256).toNat,o_⟩ ⟨(r/35184372088832%64).toNat,o_⟩;dsimp only at TE;obtain⟨q,hq,hqe⟩:=MR A w OB hi.val hi.isLt;refine⟨K+q*T,Nat.le_add_right _ _,?_⟩
 have e6:6*(K+q*T)=6*K+q*(3*(2*T)):=by rw[Nat.mul_add];congr 1;rw[<-Nat.mul_assoc 3 2 T,Nat.mul_left_comm]
 rw[e6,mf,hz];have hs:=yo YM q z
 rw[hA,show(2251799813685248*A+r+3*((q*(2251799813685248*w):Nat):Int))=2251799813685248*(A+3*(q*w:Nat))+r by
  rw[Nat.mul_left_comm];generalize q*w=y
  omega]at hs
 rw[Hf r0 r1 (by rw[hA];exact hs),hqe,d9];exact TE
theorem FL:∀f:Fin 101,IntKind.i64.wrap (BitVec.ofInt IntKind.i64.bits (f.val:Int) &&& BitVec.ofInt IntKind.i64.bits 1).toNat=(f.val:Int)%2:=d_
theorem qR (f:Nat)(b:NP)(image:Int)(hf:f<=100):Sim.Spec Try.prog 76 [.agg b.tr,tvI (f:Int),tvI image] (rB (ut b image f)):=by
 refine bF hΓ aK Try.func76 rfl d_ rfl ?_;unfold ut;have hm:=FL ⟨f,o_⟩;dsimp only at hm;repeat' ((conv=>whnf);first|apply Wx|apply W6|apply oi|apply fi|intro h|refine⟨_,rfl,?_⟩|exact Y7|fail)
 all_goals first|exact⟨by rw[h,hm];rfl⟩|exact⟨by rw[h];rfl⟩
theorem wZ:∀{L:List (Nat×List Oa)},(∀x∈L,x.2.length<=2500)->(aB L).length<=2500*L.length
 | L,h=>by
  have:=ot h (d6 L.length);rwa [j5 (d6 _)]at this
theorem V68{p:Prop}(h:p:=by
 repeat' ((conv=>whnf);first|apply Wx|apply W6|apply oi|apply fi|intro h|refine cl hP ?_|refine cl hB ?_|refine cl gb ?_|refine⟨_,rfl,?_⟩|exact Y5|fail)):p:=h
theorem uJ (p:List NX)(b:NP)(image:Int)(hs:aH 1048576 (.lst 4 (p.map NX.tr))):Sim.Spec Try.prog 66 [tvP p,.agg b.tr,tvI image] (rL 8 ((cf p b image).map Oa.tr)):=by
 refine bF hΓ aK Try.func66 rfl d_ rfl ?_;have hP:=cF p hs;have hB:=jZ b;have gb:=bd image 0 1;by_cases hc:ah p=true/\aY b=true/\af image 0 1=true
 ·have Ro:cf p b image=aB (cn p b image (ay p).length 0 0):=by rw[cf,b9 hc];rfl
  rw[Ro];obtain⟨h1,h2,h3⟩:=hc;rw[h1]at hP;rw[h2]at hB;rw[h3]at gb;obtain⟨h6,Rb⟩:=jX h1;have gF:=cJ p o_;have L8:((ay p).map fun n:Nat=>aa n).length=(ay p).length:=s_;have TN:=fun x (hx:x∈cn p b image (ay p).length 0 0)=>(jS hs hx).1;repeat' ((conv=>whnf);first|apply Wx|apply W6|apply oi|apply fi|intro h|refine cl hP ?_|refine cl hB ?_|refine cl gb ?_|refine⟨_,rfl,?_⟩|exact Y7|fail)
  conv=>whnf
  refine⟨Nw p b image,fun q=>⟨[(0,vP p),(2,tI .i64 image),(4,.r (.c (.ptr (4,0,0) 0))),(7,.r (.c (.own (15,0,0)))),(8,tI .i64 q.1.2.1),(9,tI .i64 (q.1.1:Int))],[((15,0,0),some (.arr true 8 ((aB q.1.2.2).map Oa.tr))),((4,0,0),some (.box [.t (.int .i64 b.faC),.t (.int .i64 b.faq),.t (.bool b.faG),.t (.bool b.faF)]))],[15,4]⟩,fun q=>(ay p).length-q.1.1,⟨(0,0,[]),s_,s_,s_,s_⟩,?_,?_⟩
  ·exact Z1
  intro⟨⟨f,at0,acc⟩,hk,ha,Ow,hr⟩;dsimp only at hk ha Ow hr⊢;have Zq:(aB acc).length<=2500*acc.length:=wZ fun x hx=>TN x (by rw[<-hr];exact e7.2 (.inl hx));by_cases J3:f<(ay p).length
  ·obtain⟨n,hn⟩:∃n,(ay p).length-f=n+1:=⟨(ay p).length-f-1,o_⟩;have hi:=qR f b image o_;rw[hn,ob]at hr
   cases hin:ut b image f with
   | false=>
    rw[hin]at hi hr;rw[b8 s_]at hr;repeat' ((conv=>whnf);first|apply Wx|apply W6|apply oi|apply fi|intro h|refine cl gF ?_|refine cl hi ?_|refine⟨_,rfl,?_⟩|exact Y5|fail)
    conv=>whnf
    refine⟨⟨(f+1,at0,acc),g_,g_,g_,by dsimp only;rw[show(ay p).length-(f+1)=n by omega];exact hr⟩,?_,KD⟩
    exact Z7
   | true=>
    rw[hin]at hi hr;rw[b9 rfl]at hr;have Q1:=mu p (f:Int) b hs;obtain⟨f1,f2,f3⟩:=Mj (f:=f) hs h1 h2 J3;have O0:=(jy (p:=p) (f:=(f:Int)) (b:=b) hs).2
    generalize aD p (f:Int) b=I at *
    repeat' ((conv=>whnf);first|apply Wx|apply W6|apply oi|apply fi|intro h|refine cl gF ?_|refine cl hi ?_|refine cl Q1 ?_|refine⟨_,rfl,?_⟩|exact Y5|fail)
    have J0:(I.map NW.tr).length=I.length:=s_;have Pf:=uu at0 I;have L3:=fun k (h:k<=I.length)=>ke (at0:=at0) h;have P6:=gk at0 I;have hsu:=fun k x (h:I[k]?=some x)=>gK (at0:=at0) h;have Wt:∀(k:Nat) (x:NW),I[k]?=some x->(iN I at0)[k]?=some (Oa.mk (atL (bK at0 I) k) (ep (bK at0 I) k x)):=fun k x h=>fo h;have RH:=eb I at0;have Q9:zO at0 I=atL (bK at0 I) I.length:=rfl;have ye:=Lg (l:=I) (at0:=at0)
    generalize bK at0 I=S at *
    generalize iN I at0=F at *
    generalize zO at0 I=E at *
    conv=>whnf
    refine⟨{k:Nat//k<=I.length},fun k=>⟨[(0,vP p),(2,tI .i64 image),(4,.r (.c (.ptr (4,0,0) 0))),(7,.r (.c (.own (15,0,0)))),(8,tI .i64 (atL S k.1)),(9,tI .i64 (f:Int)),(10,.r (.c (.own (45,0,0)))),(11,.r (.c (.own (46,0,0)))),(12,tI .i64 (k.1:Int))],[((46,0,0),some (.arr true 1 ((S.take k.1).map aa))),((45,0,0),some (.arr true 7 (I.map NW.tr))),((15,0,0),some (.arr true 8 ((aB acc).map Oa.tr))),((4,0,0),some (.box [.t (.int .i64 b.faC),.t (.int .i64 b.faq),.t (.bool b.faG),.t (.bool b.faF)]))],[46,45,15,4]⟩,fun k=>I.length-k.1,⟨0,o_⟩,?_,?_⟩
    ·repeat' ((conv=>whnf);first|apply Wx|apply W6|apply oi|apply fi|intro h|refine⟨_,rfl,?_⟩|exact Y7|fail)
     all_goals try exact⟨by rw[P6]⟩
    intro⟨k,hk⟩;dsimp only;have SD:=L3 k hk;by_cases Qv:k<I.length
    ·obtain⟨x,hx⟩:=ae Qv;have hz:=jG x.fad.fab;have ho:=oW x.fad.fab;have UI:=hsu k x hx;have hg:S[k]?=some (atL S k):=Bg o_;have QA:k<(I.map NW.tr).length:=o_;have Xi:(I.map NW.tr)[k]?=some x.tr:=ab hx;repeat' ((conv=>whnf);first|apply Wx|apply W6|apply oi|apply fi|intro h|refine⟨k,rfl,QA,?_⟩|refine⟨_,Xi,?_⟩|refine cl ho ?_|refine⟨_,rfl,?_⟩|exact Y5|fail)
     all_goals try exact⟨⟨by simp<;>omega,by simp<;>omega⟩⟩
     conv=>whnf
     refine⟨⟨k+1,o_⟩,?_,KD⟩;repeat' ((conv=>whnf);first|apply Wx|apply W6|apply oi|apply fi|intro h|refine⟨_,rfl,?_⟩|exact Y8|fail)
     all_goals try exact⟨by rw[dF hg,u4];rfl⟩
     all_goals try exact⟨congrArg (Tr.int .i64) (by rw[UI,c9 _ o_])⟩
    ·have Om:k=I.length:=o_;subst Om;have hg:S[I.length]?=some (atL S I.length):=Bg o_;repeat' ((conv=>whnf);first|apply Wx|apply W6|apply oi|apply fi|intro h|refine⟨_,rfl,?_⟩|exact Y5|fail)
     all_goals try exact⟨⟨by simp<;>omega,by simp<;>omega⟩⟩
     conv=>whnf
     refine⟨{k:Nat//k<=I.length},fun k=>⟨[(0,vP p),(2,tI .i64 image),(4,.r (.c (.ptr (4,0,0) 0))),(7,.r (.c (.own (15,0,0)))),(8,tI .i64 (atL S I.length)),(9,tI .i64 (f:Int)),(10,.r (.c (.own (45,0,0)))),(11,.r (.c (.own (69,0,0)))),(13,tI .i64 (k.1:Int))],[((69,0,0),some (.arr true 1 (S.map aa))),((45,0,0),some (.arr true 7 (I.map NW.tr))),((15,0,0),some (.arr true 8 ((aB acc++F.take k.1).map Oa.tr))),((4,0,0),some (.box [.t (.int .i64 b.faC),.t (.int .i64 b.faq),.t (.bool b.faG),.t (.bool b.faF)]))],[69,45,15,4]⟩,fun k=>I.length-k.1,⟨0,o_⟩,?_,?_⟩
     ·repeat' ((conv=>whnf);first|apply Wx|apply W6|apply oi|apply fi|intro h|refine⟨_,rfl,?_⟩|exact Y7|fail)
      all_goals try exact⟨by rw[show [[Tr.int .i64 (atL S I.length)]]=[atL S I.length].map aa from rfl,<-u4,<-dF hg,j5 o_]⟩
      all_goals try exact⟨s_⟩
     intro⟨k,hk⟩;dsimp only;have P5:((aB acc++F.take k).map Oa.tr).length=(aB acc).length+k:=by rw[e8,c7,j9];omega
     have UY:(S.map aa).length=I.length+1:=by rw[e8];exact Pf
     have mg:∀j,j<=I.length->(S.map aa)[j]?=some (aa (atL S j)):=fun j hj=>by rw[l9,Bg o_];rfl
     by_cases Qv:k<I.length
     ·obtain⟨x,hx⟩:=ae Qv;have RL:=Wt k x hx;have Ri:(aB acc++F.take (k+1)).map Oa.tr=(aB acc++F.take k).map Oa.tr++[(Oa.mk (atL S k) (ep S k x)).tr]:=by rw[dF RL,<-k0,u4];rfl
      have QA:k<(I.map NW.tr).length:=o_;have Xi:(I.map NW.tr)[k]?=some x.tr:=ab hx;have OB:IntKind.i64.wrap ((k:Int)+1)=((k+1:Nat):Int):=by rw[c9 _ o_];rfl
      have QR:k<(S.map aa).length:=o_;have Oy:k+1<(S.map aa).length:=o_;have m0:=mg k o_;have m1:=mg (k+1) o_;have b1:=L3 (k+1) o_
      cases Qq:pz x with
      | true=>
       obtain⟨ja,jb⟩:=f3 x (d4 hx) Qq;have hwa:x.fad.faf=((x.fad.faf.toNat:Nat):Int):=(H3 ja).symm;have Q8:x.fad.faf.toNat<(S.map aa).length:=o_;have m2:=mg x.fad.faf.toNat o_;have b2:=L3 x.fad.faf.toNat o_;have O2:ep S k x=qj x (IntKind.i64.wrap (atL S x.fad.faf.toNat-atL S (k+1))):=by rw[ep,b9 Qq,c9 _ o_]
       rw[isJump_iff]at Qq;repeat' ((conv=>whnf);first|apply Wx|apply W6|apply oi|apply fi|intro h|refine⟨k,rfl,QA,?_⟩|refine⟨_,Xi,?_⟩|refine⟨k,rfl,QR,?_⟩|refine⟨k+1,OB,Oy,?_⟩|refine⟨_,hwa,Q8,?_⟩|refine⟨_,m0,?_⟩|refine⟨_,m1,?_⟩|refine⟨_,m2,?_⟩|refine⟨_,rfl,?_⟩|exact Y10|fail)
       all_goals try exact⟨⟨by simp only[gt,d5,P5]<;>omega,by simp only[gt,d5,P5]<;>omega⟩⟩
       all_goals(
        conv=>whnf
        refine⟨⟨k+1,o_⟩,?_,KD⟩;repeat' ((conv=>whnf);first|apply Wx|apply W6|apply oi|apply fi|intro h|refine⟨_,rfl,?_⟩|exact Y8|fail)
        all_goals try exact⟨by dsimp only;rw[Ri,O2];rfl⟩)
      | false=>
       have O2:ep S k x=x:=by rw[ep,b8 (by rw[Qq];simp)]
       have WL:¬(x.fad.fab=10\/x.fad.fab=11):=by rw[<-isJump_iff,Qq];simp
       repeat' ((conv=>whnf);first|apply Wx|apply W6|apply oi|apply fi|intro h|refine⟨k,rfl,QA,?_⟩|refine⟨_,Xi,?_⟩|refine⟨k,rfl,QR,?_⟩|refine⟨_,m0,?_⟩|refine⟨_,rfl,?_⟩|exact Y10|fail)
       all_goals try exact⟨⟨by simp only[gt,d5,P5]<;>omega,by simp only[gt,d5,P5]<;>omega⟩⟩
       all_goals(
        conv=>whnf
        refine⟨⟨k+1,o_⟩,?_,KD⟩;repeat' ((conv=>whnf);first|apply Wx|apply W6|apply oi|apply fi|intro h|refine⟨_,rfl,?_⟩|exact Y8|fail)
        all_goals try exact⟨by dsimp only;rw[Ri,O2];rfl⟩)
     ·have Om:k=I.length:=o_;subst Om;repeat' ((conv=>whnf);first|apply Wx|apply W6|apply oi|apply fi|intro h|refine⟨_,rfl,?_⟩|exact Y5|fail)
      conv=>whnf
      refine⟨⟨(f+1,E,acc++[(f,F)]),g_,g_,by simp;omega,by dsimp only;rw[k0,show(ay p).length-(f+1)=n by omega];exact hr⟩,?_,KD⟩;repeat' ((conv=>whnf);first|apply Wx|apply W6|apply oi|apply fi|intro h|refine⟨_,rfl,?_⟩|exact Y8|fail)
      all_goals try exact⟨by rw[Q9]⟩
      all_goals try exact⟨by rw[pV,j5 o_]⟩
  ·rw[show(ay p).length-f=0 by omega]at hr;have Ou:acc=cn p b image (ay p).length 0 0:=by rw[<-hr];simp[cn]
   repeat' ((conv=>whnf);first|apply Wx|apply W6|apply oi|apply fi|intro h|refine cl gF ?_|refine⟨_,rfl,?_⟩|exact Y5|fail)
   all_goals exact⟨by rw[Ou]⟩
 ·have Ro:cf p b image=[]:=by rw[cf,b8 hc]
  rw[Ro]
  cases h1:ah p with
  | false=>
   rw[h1]at hP
   exact V68
  | true=>
   rw[h1]at hP
   cases h2:aY b with
   | false=>
    rw[h2]at hB
    exact V68
   | true=>
    rw[h2]at hB
    cases h3:af image 0 1 with
    | true=>exact absurd ⟨h1,h2,h3⟩ hc
    | false=>rw[h3]at gb;exact V68
theorem jf (p:List NX)(b:NP)(image:Int)(hs:aH 1048576 (.lst 4 (p.map NX.tr))):Sim.Spec Try.prog 44 [tvP p,.agg b.tr,tvI image] (.r (.agg ((ao p b image).tr.map EO))):=by
 refine bF hΓ aK Try.func44 rfl d_ rfl ?_;have hP:=uJ p b image hs;by_cases hc:ah p=true/\aY b=true/\af image 0 1=true
 ·have Ro:ao p b image=⟨au (aB (cn p b image (ay p).length 0 0)),cy p 0 (cn p b image (ay p).length 0 0)⟩:=by rw[ao,b9 hc]
  have Wt:cf p b image=aB (cn p b image (ay p).length 0 0):=by rw[cf,b9 hc];rfl
  rw[Ro];rw[Wt]at hP;obtain⟨h1,h2,h3⟩:=hc;obtain⟨h6,Rb⟩:=jX h1;have PF:=kc p b image (ay p).length 0 0;have TN:=fun x (hx:x∈cn p b image (ay p).length 0 0)=>(jS hs hx).1;have XE:=fun{i:Nat} {x:Nat×List Oa} {j:Nat} {y:Oa} (h:(cn p b image (ay p).length 0 0)[i]?=some x) (hy:x.2[j]?=some y)=>fX hs h1 h2 h hy;have VR:=fun{i:Nat} {x:Nat×List Oa} (h:(cn p b image (ay p).length 0 0)[i]?=some x)=>(kG hs h1 h2 o_ h).2
  generalize cn p b image (ay p).length 0 0=L at *
  repeat' ((conv=>whnf);first|apply Wx|apply W6|apply oi|apply fi|intro h|refine cl hP ?_|refine⟨_,rfl,?_⟩|exact Y7|fail)
  conv=>whnf
  refine⟨{q:Nat×Nat//q.1<=L.length/\(∀x,L[q.1]?=some x->q.2<x.2.length)/\(q.1=L.length->q.2=0)},fun q=>⟨[(0,vP p),(6,.r (.c (.ptr (6,0,0) 0))),(7,.r (.c (.ptr (7,0,0) 0))),(8,.r (.c (.own (15,0,0)))),(9,tI .i64 (((aB (L.take q.1.1)).length+q.1.2:Nat):Int))],[((6,0,0),some (.box [.t (.str []),.nils 0])),((7,0,0),some (.box [.t (.str (gV L q.1.1 q.1.2)),.own (7,0,1)])),((7,0,1),some (.arr true 3 ((jR p L q.1.1 q.1.2).map Of.tr))),((15,0,0),some (.arr true 8 ((aB L).map Oa.tr)))],[15,7,6]⟩,fun q=>(aB L).length+1-((aB (L.take q.1.1)).length+q.1.2),⟨(0,0),g_,by intro x hx;exact(VR hx).2,fun _=>rfl⟩,?_,?_⟩
  ·repeat' ((conv=>whnf);first|apply Wx|apply W6|apply oi|apply fi|intro h|refine⟨_,rfl,?_⟩|exact Y7|fail)
   all_goals try exact⟨by rw[EH];rfl⟩
   all_goals try exact⟨by rw[xR];rfl⟩
  intro⟨⟨i,j⟩,hi,hj,he⟩;dsimp only at hi hj he⊢;by_cases J3:i<L.length
  ·obtain⟨x,hx⟩:=ae J3;have Qq:=hj x hx;obtain⟨y,hy⟩:=ae Qq;obtain⟨ZR,Pw⟩:=XE hx hy;have Pq:=Bn hx hy;have Om:=aJ Pq;have Ow:=wZ TN;have Q8:=B0 2500 (show L.length<=6 by omega);have hkm:(aB (L.take i)).length+j<((aB L).map Oa.tr).length:=by rw[e8];exact Om
   have W0:((aB L).map Oa.tr)[(aB (L.take i)).length+j]?=some y.tr:=ab Pq;have hE:=uC y.fai.fad;have hE5:=uf y.fai.fad;obtain⟨⟨i',j'⟩,q1,q2,q3,q4,q5,q6⟩:=JF (p:=p) (fun{i x} h=>(VR (i:=i) h).2) hx Qq;dsimp only at q1 q2 q3 q4 q5 q6;rw[GH hx hy]at q5;rw[zF hx]at q6;have M6:=Hm (j:=j) hx;have aaR:=iB (aB (L.take i));have aaS:=iB (x.2.take j);have aaA:(aB (L.take i)).length<=(aB L).length:=o_;have abN:(x.2.take j).length<=2500:=by have:=TN x (d4 hx);rw[j9];omega
   have Yo:au (x.2.take (j+1))=au (x.2.take j)++bm y.fai.fad:=by rw[dF hy,aO,eB]
   rw[Yo,c7]at q6;have P6:(cy p 0 (L.take i)).length=i:=by rw[lY,j9];omega
   rcases B5 j with rfl|Wa
   ·obtain⟨Ol,g,ln,Sl,Ta,WP,hf4⟩:=ZR.head rfl;have Pn:bH p x.1=ln.fac:=by rw[bH,Sl];dsimp only;rw[WP]
    rw[xR];have So:au (x.2.take 0)=[]:=by simp[au]
    rw[So]at q6 M6 Pw;rw[gt]at M6 Pw
    generalize gV L i 0=C at *
    generalize cy p 0 (L.take i)=S0 at *
    generalize bm y.fai.fad=EB at *
    generalize au (aB (L.take i))=C0 at *
    have PS:IntKind.i64.wrap (((S0.map Of.tr++[[Tr.str ln.fac,Tr.int .i64 y.fat,Tr.int .i64 0]]).length:Int)-1)=(i:Int):=by rw[c7,e8,P6];simp only[d5,gt];rw[c9 _ o_];omega
    have OH:i<(S0.map Of.tr++[[Tr.str ln.fac,Tr.int .i64 y.fat,Tr.int .i64 0]]).length:=by rw[c7,e8,P6];simp
    have Yb:(S0.map Of.tr++[[Tr.str ln.fac,Tr.int .i64 y.fat,Tr.int .i64 0]])[i]?=some [Tr.str ln.fac,Tr.int .i64 y.fat,Tr.int .i64 0]:=by rw[m5 (by rw[e8,P6];exact d6 _),e8,P6];simp
    have fin:∀(KK:List (List Tr)),KK=(S0.map Of.tr++[[Tr.str ln.fac,Tr.int .i64 y.fat,Tr.int .i64 0]]).set i [Tr.str ln.fac,Tr.int .i64 y.fat,Tr.int .i64 (IntKind.i64.wrap (((C++EB).length:Int)-y.fat))]->KK=(jR p L i' j').map Of.tr:=fun KK h=>by
     rw[h,q6,Pn,D8 _ _ (by rw[e8,P6];exact d6 _),e8,P6,v5,u4,c7,c9 _ o_];simp only[D3,p7,D5,Of.tr];congr 6<;>(simp only[gt];omega)
    rcases Ol with Ol|Ol
    all_goals(
     repeat' ((conv=>whnf);first|apply Wx|apply W6|apply oi|apply fi|intro h|refine⟨_,rfl,hkm,?_⟩|refine⟨_,W0,?_⟩|refine cl hE ?_|refine⟨g,ln.tr,Ta,ab WP,?_⟩|refine⟨_,PS,OH,?_⟩|refine⟨_,Yb,?_⟩|refine⟨_,rfl,?_⟩|exact Y13|fail)
     all_goals try exact⟨o_⟩
     all_goals try exact⟨⟨by simp only[gt,d5,e8,P6]<;>omega,by simp only[gt,d5,e8,P6]<;>omega⟩⟩
     all_goals(
      conv=>whnf
      refine⟨⟨(i',j'),q1,q2,q3⟩,?_,KD⟩;repeat' ((conv=>whnf);first|apply Wx|apply W6|apply oi|apply fi|intro h|refine⟨_,rfl,?_⟩|exact Y8|fail)
      all_goals try exact⟨by rw[q5]⟩
      all_goals try exact⟨fin _ rfl⟩
      all_goals exact⟨congrArg (Tr.int _) (by dsimp only;rw[c9 _ o_];omega)⟩))
   ·obtain⟨j,rfl⟩:∃j0,j=j0+1:=⟨j-1,o_⟩;obtain⟨Ol,m,ln,Ta,WP,hf4⟩:=ZR.body Wa;rw[zF hx]
    generalize gV L i (j+1)=C at *
    generalize cy p 0 (L.take i)=S0 at *
    generalize bm y.fai.fad=EB at *
    generalize au (aB (L.take i))=C0 at *
    generalize au (x.2.take (j+1))=C1 at *
    have PS:IntKind.i64.wrap ((((S0++[(⟨bH p x.1,(C0.length:Int),(C1.length:Int)⟩:Of)]).map Of.tr).length:Int)-1)=(i:Int):=by rw[e8,c7,P6];simp only[d5,gt];rw[c9 _ o_];omega
    have OH:i<((S0++[(⟨bH p x.1,(C0.length:Int),(C1.length:Int)⟩:Of)]).map Of.tr).length:=by rw[e8,c7,P6];simp
    have Yb:((S0++[(⟨bH p x.1,(C0.length:Int),(C1.length:Int)⟩:Of)]).map Of.tr)[i]?=some [Tr.str (bH p x.1),Tr.int .i64 (C0.length:Int),Tr.int .i64 (C1.length:Int)]:=by rw[l9,m5 (by rw[P6];exact d6 _),P6];simp[Of.tr]
    have fin:∀(KK:List (List Tr)),KK=((S0++[(⟨bH p x.1,(C0.length:Int),(C1.length:Int)⟩:Of)]).map Of.tr).set i [Tr.str (bH p x.1),Tr.int .i64 (C0.length:Int),Tr.int .i64 (IntKind.i64.wrap (((C++EB).length:Int)-(C0.length:Int)))]->KK=(jR p L i' j').map Of.tr:=fun KK h=>by
     rw[h,q6,u4,D8 _ _ (by rw[e8,P6];exact d6 _),e8,P6,v5,u4,c7,c9 _ o_];simp only[D3,p7,D5,Of.tr];congr 6;omega
    repeat' ((conv=>whnf);first|apply Wx|apply W6|apply oi|apply fi|intro h|refine⟨_,rfl,hkm,?_⟩|refine⟨_,W0,?_⟩|refine cl hE ?_|refine⟨m,ln.tr,Ta,ab WP,?_⟩|refine⟨_,PS,OH,?_⟩|refine⟨_,Yb,?_⟩|refine⟨_,rfl,?_⟩|exact Y13|fail)
    all_goals try exact⟨o_⟩
    all_goals(
     conv=>whnf
     refine⟨⟨(i',j'),q1,q2,q3⟩,?_,KD⟩;repeat' ((conv=>whnf);first|apply Wx|apply W6|apply oi|apply fi|intro h|refine⟨_,rfl,?_⟩|exact Y8|fail)
     all_goals try exact⟨by rw[q5]⟩
     all_goals try exact⟨fin _ rfl⟩
     all_goals exact⟨congrArg (Tr.int _) (by dsimp only;rw[c9 _ o_];omega)⟩)
  ·have OH:i=L.length:=o_;subst OH;have Wa:=he rfl;subst Wa;rw[GD,Hb,j5 (d6 _)];repeat' ((conv=>whnf);first|apply Wx|apply W6|apply oi|apply fi|intro h|refine⟨_,rfl,?_⟩|exact Y7|fail)
   all_goals try(exfalso;simp only[e8,i7]at h;omega)
 ·have Ro:ao p b image=⟨[],[]⟩:=by rw[ao,b8 hc]
  have Wt:cf p b image=[]:=by rw[cf,b8 hc]
  rw[Ro];rw[Wt]at hP;repeat' ((conv=>whnf);first|apply Wx|apply W6|apply oi|apply fi|intro h|refine cl hP ?_|refine⟨_,rfl,?_⟩|exact Y7|fail)
  conv=>whnf
  refine⟨Unit,fun _=>⟨[(0,vP p),(6,.r (.c (.ptr (6,0,0) 0))),(7,.r (.c (.ptr (7,0,0) 0))),(8,.r (.c (.own (15,0,0)))),(9,tI .i64 0)],[((6,0,0),some (.box [.t (.str []),.nils 0])),((7,0,0),some (.box [.t (.str []),.own (7,0,1)])),((7,0,1),some (.arr true 3 [])),((15,0,0),some (.arr true 8 []))],[15,7,6]⟩,fun _=>0,(),?_,?_⟩
  ·exact Z1
  intro _;repeat' ((conv=>whnf);first|apply Wx|apply W6|apply oi|apply fi|intro h|refine⟨_,rfl,?_⟩|exact Y7|fail)
  all_goals try(exfalso;simp at h;done)
theorem Ab {p:List NX}(hs:aH 1048576 (.lst 4 (p.map NX.tr)))(f:Nat):(bH p f).length<=1048576:=by
 unfold bH;split
 ·split
  ·rename_i g _ y hy;have:=bi hs (d4 hy);simp only[NX.tr,aR,aH]at this;omega
  ·simp
 ·simp
theorem qL {p:List NX}(hs:aH 1048576 (.lst 4 (p.map NX.tr))):∀(L:List (Nat×List Oa)) (at0:Int) (x:Of),x∈cy p at0 L->x.fac.length<=1048576
 | [],_,_,h=>by cases h
 |(f,l)::L,at0,x,h=>by
  rw[cy]at h;rcases d7.1 h with rfl|h
  ·exact Ab hs f
  ·exact qL hs L _ x h
theorem mL {p:List NX}{b:NP}{image:Int}(hs:aH 1048576 (.lst 4 (p.map NX.tr))):aR 1048576 (ao p b image).tr:=by
 rw[ao];split
 ·rename_i hc;obtain⟨h1,h2,h3⟩:=hc;obtain⟨h6,_⟩:=jX h1;have PF:=kc p b image (ay p).length 0 0;have Ow:=wZ fun x (hx:x∈cn p b image (ay p).length 0 0)=>(jS hs hx).1;have M6:=iB (aB (cn p b image (ay p).length 0 0));have Q8:=B0 2500 (show(cn p b image (ay p).length 0 0).length<=6 by omega);refine⟨by simp only[aH];omega,?_,trivial⟩
  exact jH (by rw[lY];omega) fun x hx=>by
   have:=qL hs _ _ x hx;simp only[Of.tr,aR,aH];exact⟨o_,trivial,trivial,trivial⟩
 ·simp[NU.tr,aR,aH,gR]
theorem pd {p:List NX}{b:NP}{image:Int}(h6:(ay p).length<=6):(ao p b image).fam.length<=6:=by
 unfold ao;split
 ·dsimp only;rw[lY];have:=kc p b image (ay p).length 0 0;omega
 ·simp
theorem vQ {F:Nat->List Int}(h:∀f,(F f).length<=12):∀n,(ll F n).length<=12*n
 | 0=>by simp[ll]
 | n+1=>by have:=vQ h n;have:=h n;rw[ll,c7];omega
theorem wX {p:List NX}{b:NP}(hs:aH 1048576 (.lst 4 (p.map NX.tr)))(h6:(ay p).length<=6){first second:Int}:aR 1048576 (aE p b first second).tr:=by
 have a0:=mL (b:=b) (image:=0) hs;have a1:=mL (b:=b) (image:=1) hs;have hi:∀ns:List Int,ns.length<=1048576->aH 1048576 (.lst 1 (ns.map aa)):=fun ns hn=>jH o_ fun x hx=>by simp[aa,aR,aH]
 refine⟨?_,hi _ (by simp[aE]),hi _ (by simp[aE,entries];omega),trivial⟩;simp only[aE];rw[aH];exact⟨s_,a0,a1,trivial⟩
theorem V74{p:Prop}(h:p:=by
 repeat' ((conv=>whnf);first|apply Wx|apply W6|apply oi|apply fi|intro h|refine cl hP ?_|refine cl hB ?_|refine⟨_,rfl,?_⟩|exact Y5|fail)):p:=h
theorem V73{p:Prop}(h:p:=by
 repeat' ((conv=>whnf);first|apply Wx|apply W6|apply oi|apply fi|intro h|refine cl gF ?_|refine cl M4 ?_|refine⟨_,rfl,?_⟩|exact Y5|fail)):p:=h
theorem sP (p:List NX)(b:NP)(first second:Int)(hs:aH 1048576 (.lst 4 (p.map NX.tr))):Sim.Spec Try.prog 22 [tvP p,.agg b.tr,tvI first,tvI second] (.tup [.agg ((oSp (ib p b first second)).tr.map EO),.c (.t (.bool (ib p b first second).isSome))]):=by
 refine bF hΓ aK Try.func22 rfl d_ rfl ?_;have hP:=cF p hs;have hB:=jZ b
 cases h1:ah p with
 | false=>
  rw[h1]at hP;rw[show ib p b first second=none by rw[ib,b8 (by rw[h1];simp)]]
  exact V74
 | true=>
  rw[h1]at hP
  cases h2:aY b with
  | false=>
   rw[h2]at hB;rw[show ib p b first second=none by rw[ib,b8 (by rw[h2];simp)]]
   exact V74
  | true=>
   rw[h2]at hB;obtain⟨h6,Rb⟩:=jX h1;have hA0:=jf p b 0 hs;have hA1:=jf p b 1 hs;have gF:=cJ p o_;have L8:((ay p).map fun n:Nat=>aa n).length=(ay p).length:=s_;have M4:=vO (aE p b first second) (wX hs h6);repeat' ((conv=>whnf);first|(with_reducible apply W1;fail_if_success (with_reducible show Wo _ _ _ _ (Code.region 4 _ _) _ _))|(with_reducible first|apply W2|apply W3|apply W4|apply W5|apply W6|apply W7|apply W8|apply W9)|apply aq|apply oi|apply fi|intro h|refine cl hP ?_|refine cl hB ?_|refine cl hA0 ?_|refine cl hA1 ?_|refine⟨_,rfl,?_⟩|exact Y5|fail)
   all_goals try exact⟨qZ _ (by intro x c hc sz rs e;subst e;simp[Of.tr]at hc)⟩
   have P6:(ao p b 0).fam.length<=6:=pd h6;have hS1:(ao p b 1).fam.length<=6:=pd h6;have hE:∀f,f<(ay p).length->uE p b (ao p b 0) (ao p b 1) first second f=[cP p b first second f]:=fun f hf=>LA h1 h2 hf first second;have Pv:ll (uE p b (ao p b 0) (ao p b 1) first second) (ay p).length=entries p b first second:=zE hE
   have hld:ib p b first second=if cN (aE p b first second)=true then some (aE p b first second)else none:=by
    rw[ib];by_cases SW:cN (aE p b first second)=true
    ·rw[b9 SW,b9 ⟨h1,h2,SW⟩]
    ·rw[b8 SW,b8 fun h=>SW h.2.2]
   have R8:(aE p b first second).tr=[.lst 2 [(ao p b 0).tr,(ao p b 1).tr],.lst 1 [aa first,aa second],.lst 1 ((entries p b first second).map aa)]:=rfl;rw[hld]
   generalize aE p b first second=cd at *
   generalize ao p b 0=i0 at *
   generalize ao p b 1=i1 at *
   have RZ:∀f,(uE p b i0 i1 first second f).length<=12:=fun f=>by
    unfold uE;split
    ·have:=vF (bH p f) second i1.fam;omega
    ·have:=vF (bH p f) first i0.fam;omega
   have hEt:=vQ RZ;conv=>whnf
   refine wy ⟨[(0,vP p),(5,.r (.c (.ptr (5,0,0) 0))),(8,.r (.c (.ptr (8,0,0) 0))),(10,.r (.c (.ptr (10,0,0) 0)))],[((5,0,0),some (.box (b.tr.map .t))),((8,0,0),some (.box [.nils 0,.nils 0,.nils 0])),((10,0,0),some (.box [.own (10,0,1),.own (10,0,2),.own (10,0,3)])),((10,0,1),some (.arr true 2 [i0.tr,i1.tr])),((10,0,2),some (.arr true 1 [aa first,aa second])),((10,0,3),some (.arr true 1 []))],[10,8,5]⟩ ?_ ?_
   ·exact Z1
   repeat' ((conv=>whnf);first|apply Wx|apply W6|apply oi|apply fi|intro h|refine⟨_,rfl,?_⟩|exact Y7|fail)
   conv=>whnf
   refine⟨{f:Nat//f<=(ay p).length},fun q=>⟨[(0,vP p),(5,.r (.c (.ptr (5,0,0) 0))),(8,.r (.c (.ptr (8,0,0) 0))),(10,.r (.c (.ptr (10,0,0) 0))),(11,tI .i64 (q.1:Int))],[((5,0,0),some (.box (b.tr.map .t))),((8,0,0),some (.box [.nils 0,.nils 0,.nils 0])),((10,0,0),some (.box [.own (10,0,1),.own (10,0,2),.own (10,0,3)])),((10,0,1),some (.arr true 2 [i0.tr,i1.tr])),((10,0,2),some (.arr true 1 [aa first,aa second])),((10,0,3),some (.arr true 1 ((ll (uE p b i0 i1 first second) q.1).map aa)))],[10,8,5]⟩,fun q=>(ay p).length-q.1,⟨0,o_⟩,?_,?_⟩
   ·exact Z1
   intro⟨f,hf⟩;dsimp only;have hef:=hEt f;by_cases J3:f<(ay p).length
   ·obtain⟨g,hg⟩:=ae J3;obtain⟨ln,ZD,_,Pn,_⟩:=rO h1 hg
    obtain⟨j,hj,WA⟩:∃j:Nat,bt b f=(j:Int)/\j<=1:=by
     rcases gr b f with e|e
     ·exact⟨0,by rw[e];rfl,o_⟩
     ·exact⟨1,by rw[e];rfl,o_⟩
    obtain⟨im,base,UQ,Qf,PD,hsy⟩:∃(im:NU) (base:Int),[i0.tr,i1.tr][j]?=some im.tr/\[aa first,aa second][j]?=some (aa base)/\uE p b i0 i1 first second f=lG ln.fac base im.fam/\im.fam.length<=6:=by
     rcases(show j=0\/j=1 by omega)with rfl|rfl
     ·exact⟨i0,first,rfl,rfl,by rw[uE,hj,b8 (show ¬((0:Nat):Int)=1 by decide),Pn],P6⟩
     ·exact⟨i1,second,rfl,rfl,by rw[uE,hj,b9 (show((1:Nat):Int)=1 from rfl),Pn],hS1⟩
    have Sh:=FL ⟨f,o_⟩;dsimp only at Sh;have OM:j<[i0.tr,i1.tr].length:=by simp;omega
    have hjb:j<[aa first,aa second].length:=by simp;omega
    have PJ:f<((ay p).map fun n:Nat=>aa n).length:=o_;have WB:((ay p).map fun n:Nat=>aa n)[f]?=some (aa (g:Int)):=by rw[l9,hg];rfl
    have Pf:(im.fam.map Of.tr).length=im.fam.length:=s_;repeat' ((conv=>whnf);first|(with_reducible apply W1;fail_if_success (with_reducible show Wo _ _ _ _ (Code.seq (Code.region 8 _ _) _) _ _))|(with_reducible first|apply W2|apply W3|apply W4|apply W5|apply W6|apply W7|apply W8|apply W9)|apply aq|apply oi|apply fi|intro h|refine cl gF ?_|refine⟨_,rfl,?_⟩|exact Y5|fail)
    conv=>whnf
    refine ou Unit (fun _=>⟨[(0,vP p),(5,.r (.c (.ptr (5,0,0) 0))),(8,.r (.c (.ptr (8,0,0) 0))),(10,.r (.c (.ptr (10,0,0) 0))),(11,tI .i64 (f:Int)),(12,tI .i64 (j:Int))],[((5,0,0),some (.box (b.tr.map .t))),((8,0,0),some (.box [.nils 0,.nils 0,.nils 0])),((10,0,0),some (.box [.own (10,0,1),.own (10,0,2),.own (10,0,3)])),((10,0,1),some (.arr true 2 [i0.tr,i1.tr])),((10,0,2),some (.arr true 1 [aa first,aa second])),((10,0,3),some (.arr true 1 ((ll (uE p b i0 i1 first second) f).map aa)))],[10,8,5]⟩) ?_ ?_
    ·have QE:=hj;unfold bt at QE
     cases SJ:b.faF with
     | true=>
      rw[SJ,b9 rfl]at QE;rw[QE]at Sh;repeat' ((conv=>whnf);first|apply Wx|apply W6|apply oi|apply fi|intro h|refine⟨_,rfl,?_⟩|exact Y7|fail)
      all_goals(conv=>whnf)
      all_goals try(exfalso;rw[SJ]at h;cases h;done)
      refine⟨(),?_⟩;repeat' ((conv=>whnf);first|apply Wx|apply W6|apply oi|apply fi|intro h|refine⟨_,rfl,?_⟩|exact Y7|fail)
      all_goals exact⟨congrArg (Tr.int _) Sh⟩
     | false=>
      rw[SJ,b8 s_]at QE;repeat' ((conv=>whnf);first|apply Wx|apply W6|apply oi|apply fi|intro h|refine⟨_,rfl,?_⟩|exact Y7|fail)
      all_goals(conv=>whnf)
      all_goals try(exfalso;rw[SJ]at h;cases h;done)
      refine⟨(),?_⟩;repeat' ((conv=>whnf);first|apply Wx|apply W6|apply oi|apply fi|intro h|refine⟨_,rfl,?_⟩|exact Y7|fail)
      all_goals exact⟨congrArg (Tr.int _) QE⟩
    intro _;dsimp only;repeat' ((conv=>whnf);first|apply Wx|apply W6|apply oi|apply fi|intro h|refine⟨_,rfl,?_⟩|exact Y7|fail)
    conv=>whnf
    refine⟨{k:Nat//k<=im.fam.length},fun q=>⟨[(0,vP p),(5,.r (.c (.ptr (5,0,0) 0))),(8,.r (.c (.ptr (8,0,0) 0))),(10,.r (.c (.ptr (10,0,0) 0))),(11,tI .i64 (f:Int)),(12,tI .i64 (j:Int)),(13,tI .i64 (q.1:Int))],[((5,0,0),some (.box (b.tr.map .t))),((8,0,0),some (.box [.nils 0,.nils 0,.nils 0])),((10,0,0),some (.box [.own (10,0,1),.own (10,0,2),.own (10,0,3)])),((10,0,1),some (.arr true 2 [i0.tr,i1.tr])),((10,0,2),some (.arr true 1 [aa first,aa second])),((10,0,3),some (.arr true 1 ((ll (uE p b i0 i1 first second) f++lG ln.fac base (im.fam.take q.1)).map aa)))],[10,8,5]⟩,fun q=>im.fam.length-q.1,⟨0,o_⟩,?_,?_⟩
    ·repeat' ((conv=>whnf);first|apply Wx|apply W6|apply oi|apply fi|intro h|refine⟨_,rfl,?_⟩|exact Y7|fail)
     all_goals try exact⟨by simp[Iw]⟩
    intro⟨k,hk⟩;dsimp only;by_cases Om:k<im.fam.length
    ·obtain⟨y,hy⟩:=ae Om;have hks:k<(im.fam.map Of.tr).length:=o_;have Z9:(im.fam.map Of.tr)[k]?=some y.tr:=ab hy;have Xo:=GY (nm:=ln.fac) (b:=base) hy;have hhl:=vF ln.fac base (im.fam.take k);rw[j9]at hhl
     cases hq:(y.fac==ln.fac)with
     | true=>
      rw[hq,b9 rfl]at Xo;repeat' ((conv=>whnf);first|apply Wx|apply W6|apply oi|apply fi|intro h|refine cl gF ?_|refine⟨j,rfl,OM,?_⟩|refine⟨_,UQ,?_⟩|refine⟨k,y.tr,rfl,Z9,?_⟩|refine⟨f,rfl,PJ,?_⟩|refine⟨_,WB,?_⟩|refine⟨g,ln.tr,rfl,ab ZD,?_⟩|refine⟨j,rfl,hjb,?_⟩|refine⟨_,Qf,?_⟩|refine⟨_,rfl,?_⟩|exact Y5|fail)
      all_goals try(exfalso;rw[hq]at h;cases h;done)
      all_goals try exact⟨⟨by simp<;>omega,by simp<;>omega⟩⟩
      conv=>whnf
      refine⟨⟨k+1,o_⟩,?_,KD⟩;repeat' ((conv=>whnf);first|apply Wx|apply W6|apply oi|apply fi|intro h|refine⟨_,rfl,?_⟩|exact Y8|fail)
      all_goals exact⟨by dsimp only;rw[Xo];simp[k0,aa]⟩
     | false=>
      rw[hq,b8 s_]at Xo;repeat' ((conv=>whnf);first|apply Wx|apply W6|apply oi|apply fi|intro h|refine cl gF ?_|refine⟨j,rfl,OM,?_⟩|refine⟨_,UQ,?_⟩|refine⟨k,y.tr,rfl,Z9,?_⟩|refine⟨f,rfl,PJ,?_⟩|refine⟨_,WB,?_⟩|refine⟨g,ln.tr,rfl,ab ZD,?_⟩|refine⟨j,rfl,hjb,?_⟩|refine⟨_,Qf,?_⟩|refine⟨_,rfl,?_⟩|exact Y5|fail)
      all_goals try(exfalso;rw[hq]at h;cases h;done)
      conv=>whnf
      refine⟨⟨k+1,o_⟩,?_,KD⟩;repeat' ((conv=>whnf);first|apply Wx|apply W6|apply oi|apply fi|intro h|refine⟨_,rfl,?_⟩|exact Y8|fail)
      all_goals exact⟨by dsimp only;rw[Xo,m9]⟩
    ·obtain rfl:k=im.fam.length:=o_;rw[j5 (d6 _),<-PD];repeat' ((conv=>whnf);first|apply Wx|apply W6|apply oi|apply fi|intro h|refine⟨j,rfl,OM,?_⟩|refine⟨_,UQ,?_⟩|refine⟨_,rfl,?_⟩|exact Y5|fail)
     conv=>whnf
     refine⟨⟨f+1,o_⟩,?_,KD⟩;exact Z7
   ·obtain rfl:f=(ay p).length:=o_;rw[Pv]
    cases SW:cN cd with
    | true=>
     rw[SW]at M4;rw[b9 rfl];rw[R8]at M4;simp only[oSp,R8]
     exact V73
    | false=>rw[SW]at M4;rw[b8 s_];rw[R8]at M4;exact V73
end Go.Proofs.Ytoglejgmjeojoaa
