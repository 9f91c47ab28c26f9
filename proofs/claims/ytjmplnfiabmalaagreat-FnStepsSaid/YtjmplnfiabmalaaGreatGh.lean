import Derived.Test.YtjmplnfiabmalaaGreatGg
namespace Go.Proofs.YtjmplnfiabmalaaGreat
open Go.Sim
set_option maxRecDepth 100000
set_option maxHeartbeats 4000000
def byteAt (s:List UInt8)(p:Nat):Nat:=match s[p]? with|some b=>b.toNat|none=>0
theorem byteAt_lt (s:List UInt8)(p:Nat):byteAt s p < 256:=by
 unfold byteAt
 split
 ·exact UInt8.toNat_lt _
 ·omega
def opArgN (s:List UInt8)(p:Nat):Nat→Nat
 | 0=>0
 | k+1=>opArgN s p k+byteAt s (p+k) * 256 ^ k
theorem opArgN_lt (s:List UInt8)(p:Nat):∀k,opArgN s p k < 256 ^ k
 | 0=>by simp[opArgN]
 | k+1=>by
  have h1:=opArgN_lt s p k
  have h2:=byteAt_lt s (p+k)
  rw[opArgN,Nat.pow_succ]
  have h3:=Nat.mul_le_mul_right (256 ^ k) (show byteAt s (p+k)≤255 by omega)
  omega
def argV (c:Int)(m:Nat):Int:=if(opArg c).2=true∧2 ^ (8 * (opArg c).1.toNat - 1)≤m then(m:Int) - 2 ^ (8 * (opArg c).1.toNat)else m
def decodeOp (s:List UInt8)(p:Int):Option (TOp×Nat):=
 if 0≤p∧p < s.length then
  (
   if opSize (byteAt s p.toNat)=0∨(s.length:Int) < p+opSize (byteAt s p.toNat)then none
   else some (⟨byteAt s p.toNat,argV (byteAt s p.toNat) (opArgN s (p.toNat+1) (opArg (byteAt s p.toNat)).1.toNat)⟩,(opSize (byteAt s p.toNat)).toNat))
 else none
def opX (o:Option (TOp×Nat)):TOp:=match o with|some x=>x.1|none=>⟨0,0⟩
def opZ (o:Option (TOp×Nat)):Int:=match o with|some x=>x.2|none=>0
abbrev rOp (o:Option (TOp×Nat)):Res:= .tup [.agg [.t (.int .i64 (opX o).fCode),.t (.int .i64 (opX o).fArg)],.c (.t (.int .i64 (opZ o))),.c (.t (.bool o.isSome))]
theorem opArg_cases (c:Int):opArg c=(4,true)∨opArg c=(2,true)∨opArg c=(2,false)∨opArg c=(1,false)∨opArg c=(0,false):=by
 unfold opArg
 repeat' split
 all_goals simp
theorem or_256 {n x k:Nat}(hn:n < 256 ^ k):n ||| x * 256 ^ k=n+x * 256 ^ k:=by
 have e:(256:Nat) ^ k=2 ^ (8 * k):=by rw[show(256:Nat)=2 ^ 8 from rfl,←Nat.pow_mul]
 have:=Nat.two_pow_add_eq_or_of_lt (i:=8 * k) (b:=n) (by rw[←e];exact hn) x
 rw[e,Nat.mul_comm x,Nat.or_comm,←this]
 omega
theorem shl_bytes {x k:Nat}(hk:k < 4)(hx:x < 256):IntKind.i64.wrap ((x:Int) * 2 ^ (min (Int.toNat (IntKind.i64.wrap (8 * (k:Int)))) IntKind.i64.bits))=((x * 256 ^ k:Nat):Int):=by
 rw[IntWalk.i64_in (8 * (k:Int)) (by omega)]
 have:k=0∨k=1∨k=2∨k=3:=by omega
 rcases this with rfl|rfl|rfl|rfl
 ·show IntKind.i64.wrap ((x:Int) * 1)=_
  rw[IntWalk.i64_in _ (by omega)];simp
 ·show IntKind.i64.wrap ((x:Int) * 256)=_
  rw[IntWalk.i64_in _ (by omega)];simp
 ·show IntKind.i64.wrap ((x:Int) * 65536)=_
  rw[IntWalk.i64_in _ (by omega)];simp
 ·show IntKind.i64.wrap ((x:Int) * 16777216)=_
  rw[IntWalk.i64_in _ (by omega)];simp
theorem pow256_le {k:Nat}(hk:k < 4):256 ^ k≤16777216:=by
 have:=Nat.pow_le_pow_right (n:=256) (by omega) (show k≤3 by omega)
 exact this
theorem or_bytes {n x k:Nat}(hk:k < 4)(hn:n < 256 ^ k)(hx:x < 256):IntKind.i64.wrap ((BitVec.ofInt IntKind.i64.bits (n:Int) ||| BitVec.ofInt IntKind.i64.bits (IntKind.i64.wrap ((x:Int) * 2 ^ (min (Int.toNat (IntKind.i64.wrap (8 * (k:Int)))) IntKind.i64.bits)))).toNat:Int)=((n+x * 256 ^ k:Nat):Int):=by
 rw[shl_bytes hk hx]
 have h4:=pow256_le hk
 have h5:x * 256 ^ k≤255 * 16777216:=Nat.mul_le_mul (by omega) h4
 have e:(BitVec.ofInt IntKind.i64.bits (n:Int) ||| BitVec.ofInt IntKind.i64.bits ((x * 256 ^ k:Nat):Int)).toNat=n+x * 256 ^ k:=by
  show(BitVec.ofInt 64 (n:Int) ||| BitVec.ofInt 64 ((x * 256 ^ k:Nat):Int)).toNat=_
  rw[BitVec.toNat_or,BitVec.toNat_ofInt,BitVec.toNat_ofInt]
  have e1:((n:Int) % ((2 ^ 64:Nat):Int)).toNat=n:=by omega
  have e2:(((x * 256 ^ k:Nat):Int) % ((2 ^ 64:Nat):Int)).toNat=x * 256 ^ k:=by omega
  rw[e1,e2,or_256 hn]
 rw[e,IntWalk.i64_in _ (by omega)]
theorem opArg_nat (c:Int):∃n:Nat,(opArg c).1=(n:Int)∧(n=0∨n=1∨n=2∨n=4)∧((opArg c).2=true→n=2∨n=4):=by
 rcases opArg_cases c with h|h|h|h|h <;> rw[h]
 ·exact⟨4,rfl,by omega,by omega⟩
 ·exact⟨2,rfl,by omega,by omega⟩
 ·exact⟨2,rfl,by omega,by simp⟩
 ·exact⟨1,rfl,by omega,by simp⟩
 ·exact⟨0,rfl,by omega,by simp⟩
theorem argV_yes {c:Int}{n m:Nat}(hn:(opArg c).1=(n:Int))(hg:(opArg c).2=true)(h:2 ^ (8 * n - 1)≤m):argV c m=(m:Int) - 2 ^ (8 * n):=by
 rw[argV,hn,Int.toNat_natCast,if_pos ⟨hg,h⟩]
theorem argV_no {c:Int}{n m:Nat}(hn:(opArg c).1=(n:Int))(h:¬((opArg c).2=true∧2 ^ (8 * n - 1)≤m)):argV c m=(m:Int):=by
 rw[argV,hn,Int.toNat_natCast,if_neg h]
theorem s_impl_DecodeOp (s:List UInt8)(p:Int)(hs:s.length≤1048576)(hp:p≤9223372036854775807):Sim.Spec Tryz.prog 104 [tvS s,tvI p] (rOp (decodeOp s p)):=by
 refine spec_of_W hΓ hmix Tryz.func104 rfl (by decide) rfl ?_
 have hb:=s_impl_between p 0 (IntKind.i64.wrap (s.length - 1))
 have hw:IntKind.i64.wrap ((s.length:Int) - 1)=(s.length:Int) - 1:=IntWalk.i64_in _ (by omega)
 by_cases hin:0≤p∧p < s.length
 ·obtain⟨p,rfl⟩:=Int.eq_ofNat_of_zero_le hin.1
  have hbt:within (p:Int) 0 (IntKind.i64.wrap (s.length - 1))=true:=by rw[hw];exact within_iff.2 ⟨by omega,by omega⟩
  rw[hbt]at hb
  obtain⟨b,hbb⟩:=get_of_lt (l:=s) (k:=p) (by omega)
  have hba:byteAt s p=b.toNat:=by rw[byteAt,hbb]
  have hz:=s_impl_OpSize (b.toNat:Int)
  have ha:=s_impl_argument (b.toNat:Int)
  have hzl:=opSize_le (b.toNat:Int)
  have hlt:=UInt8.toNat_lt b
  have hwb:IntKind.i64.wrap (b.toNat:Int)=b.toNat:=IntWalk.i64_in _ (by omega)
  rw[decodeOp,if_pos hin,Int.toNat_natCast,hba]
  by_cases hno:opSize (b.toNat:Int)=0∨(s.length:Int) < (p:Int)+opSize (b.toNat:Int)
  ·rw[if_pos hno]
   repeat' ((conv=>whnf);first|refine Or.inl ?_|apply oi|(apply fi<;>intro h)|refine ci hb (ai rfl (ai rfl (ai rfl trivial))) ?_|refine⟨p,b,rfl,hbb,?_⟩|refine ci hz (ai KW trivial) ?_|refine⟨_,rfl,?_⟩|((with_reducible show _=_);rfl))
   all_goals try((with_reducible refine Obl.mk ?_);exact KO)
   all_goals(
         exfalso;rename_i h0;have h1:¬opSize (b.toNat:Int)=0:=by simpa using h0
         rw[IntWalk.i64_in _ (by omega)]at h;have h':=of_decide_eq_false h;omega)
  ·rw[if_neg hno]
   repeat' ((conv=>whnf);first|refine Or.inl ?_|apply oi|(apply fi<;>intro h)|refine ci hb (ai rfl (ai rfl (ai rfl trivial))) ?_|refine⟨p,b,rfl,hbb,?_⟩|refine ci hz (ai KW trivial) ?_|refine ci ha (ai KW trivial) ?_|refine⟨_,rfl,?_⟩|((with_reducible show _=_);rfl))
   all_goals try((with_reducible refine Obl.mk ?_);exact KO)
   all_goals try(exfalso;first|(
                    have h1:opSize (b.toNat:Int)=0:=by simpa using h
                    omega)|(rw[IntWalk.i64_in _ (by omega)]at h;have h':=of_decide_eq_true h;omega))
   obtain⟨n,hn,hn4,hng⟩:=opArg_nat (b.toNat:Int)
   have hos:opSize (b.toNat:Int)=n+1:=by
    have h1:¬opSize (b.toNat:Int)=0:=fun h=>hno (Or.inl h)
    unfold opSize at h1 ⊢
    split at h1
    ·rename_i hwi
     rw[if_pos hwi,hn]
    ·omega
   have hav1:=fun m=>argV_yes (m:=m) hn
   have hav2:=fun m=>argV_no (m:=m) hn
   rw[hn,Int.toNat_natCast]
   generalize(opArg (b.toNat:Int)).2=sg at *
   generalize hV:argV (b.toNat:Int)=V at *
   conv=>whnf
   refine⟨{k:Nat // k≤n},fun k=>⟨[(0,tS s),(1,tI .i64 (p:Int)),(4,.r (.c (.ptr (4,0,0) 0))),(7,.r (.c (.ptr (7,0,0) 0))),(8,tI .i64 (opSize (b.toNat:Int))),(9,tI .i64 (n:Int)),(10,tB sg),(11,tI .i64 (k.1:Int))],[((7,0,0),some (.box [.t (.int .i64 b.toNat),.t (.int .i64 (opArgN s (p+1) k.1:Nat))])),((4,0,0),some (.box [.t (.int .i64 0),.t (.int .i64 0)]))],[7,4]⟩,fun k=>n - k.1,⟨0,by omega⟩,?_,?_⟩
   ·skip
    repeat' ((conv=>whnf);first|refine Or.inl ?_|apply oi|(apply fi<;>intro h)|refine⟨_,rfl,?_⟩|((with_reducible show _=_);rfl))
    all_goals try((with_reducible refine Obl.mk ?_);exact KO)
    all_goals exact⟨by first|rfl|(rw[hwb];done)|(rw[hn];done)⟩
   intro⟨k,hk⟩
   dsimp only
   by_cases hlt2:k < n
   ·obtain⟨b2,hb2⟩:=get_of_lt (l:=s) (k:=p+1+k) (by omega)
    have hbb2:byteAt s (p+1+k)=b2.toNat:=by rw[byteAt,hb2]
    have hl2:=UInt8.toNat_lt b2
    have ha1:=opArgN_lt s (p+1) k
    have hix:IntKind.i64.wrap (IntKind.i64.wrap ((p:Int)+1)+k)=((p+1+k:Nat):Int):=by rw[IntWalk.i64_in ((p:Int)+1) (by omega),IntWalk.i64_in _ (by omega)];omega
    have hst:opArgN s (p+1) (k+1)=opArgN s (p+1) k+b2.toNat * 256 ^ k:=by rw[opArgN,hbb2]
    have hw2:IntKind.i64.wrap (b2.toNat:Int)=b2.toNat:=IntWalk.i64_in _ (by omega)
    repeat' ((conv=>whnf);first|refine Or.inl ?_|apply oi|(apply fi<;>intro h)|refine⟨(p+1+k),b2,hix,hb2,?_⟩|refine⟨_,rfl,?_⟩|((with_reducible show _=_);rfl))
    all_goals try((with_reducible refine Obl.mk ?_);exact KO)
    all_goals try exact KX
    all_goals try exact⟨K6⟩
    conv=>whnf
    refine⟨⟨k+1,by omega⟩,?_,by dsimp only;omega⟩
    repeat' ((conv=>whnf);first|refine Or.inl ?_|apply oi|(apply fi<;>intro h)|refine⟨_,rfl,?_⟩|((with_reducible show _=_);rfl))
    all_goals try((with_reducible refine Obl.mk ?_);exact KO)
    ·exact⟨by dsimp only;rw[IntWalk.i64_in _ (by omega)];rfl⟩
    ·refine⟨congrArg (Tr.int _) ?_⟩
     dsimp only
     rw[hst,hw2]
     exact or_bytes (by omega) ha1 hl2
   ·have hkn:k=n:=by omega
    subst hkn
    have ha1:=opArgN_lt s (p+1) k
    cases sg with
    | false=>
     have hv:=hav2 (opArgN s (p+1) k) (by simp)
     repeat' ((conv=>whnf);first|refine Or.inl ?_|apply oi|(apply fi<;>intro h)|refine⟨_,rfl,?_⟩|((with_reducible show _=_);rfl))
     all_goals try((with_reducible refine Obl.mk ?_);exact KO)
     all_goals try exact KX
     all_goals(refine⟨congrArg (Tr.int _) ?_⟩;simp only[opX,opZ];first|(rw[hv];done)|omega)
    | true=>
     have hAB:∃A B:Nat,2 ^ (8 * k - 1)=A∧2 ^ (8 * k)=B∧B≤4294967296∧IntKind.i64.wrap (1 * 2 ^ (min (Int.toNat (IntKind.i64.wrap (IntKind.i64.wrap (8 * (k:Int)) - 1))) IntKind.i64.bits))=(A:Int)∧
       IntKind.i64.wrap (1 * 2 ^ (min (Int.toNat (IntKind.i64.wrap (8 * (k:Int)))) IntKind.i64.bits))=(B:Int)∧256 ^ k=B:=by
      rcases hng rfl with h|h <;> rw[h]
      ·exact⟨32768,65536,by decide,by decide,by decide,by decide,by decide,by decide⟩
      ·exact⟨2147483648,4294967296,by decide,by decide,by decide,by decide,by decide,by decide⟩
     obtain⟨A,B,hA,hB,hBl,hc1,hc2,h256⟩:=hAB
     rw[h256]at ha1
     have hB':(2:Int) ^ (8 * k)=(B:Int):=by rw[←hB];simp
     rw[hA,hB']at hav1
     rw[hA]at hav2
     have hsh1:0≤IntKind.i64.wrap (IntKind.i64.wrap (8 * (k:Int)) - 1):=by
      rcases hng rfl with h|h <;> rw[h] <;> decide
     have hsh2:0≤IntKind.i64.wrap (8 * (k:Int)):=by
      rcases hng rfl with h|h <;> rw[h] <;> decide
     by_cases hge:A≤opArgN s (p+1) k
     ·have hv:=hav1 _ rfl hge
      have hws:IntKind.i64.wrap ((opArgN s (p+1) k:Int) - (B:Int))=(opArgN s (p+1) k:Int) - B:=IntWalk.i64_in _ (by omega)
      repeat' ((conv=>whnf);first|refine Or.inl ?_|apply oi|(apply fi<;>intro h)|refine⟨_,rfl,?_⟩|((with_reducible show _=_);rfl))
      all_goals try((with_reducible refine Obl.mk ?_);exact KO)
      all_goals try exact KX
      all_goals try(exfalso;rw[hc1]at h;have h':=of_decide_eq_false h;omega)
      all_goals first
       | exact⟨hsh1⟩
       | exact⟨hsh2⟩
       |(refine⟨congrArg (Tr.int _) ?_⟩;simp only[opX,opZ];first|(rw[hc2,hws,hv];done)|omega)
     ·have hv:=hav2 _ (fun h=>hge h.2)
      repeat' ((conv=>whnf);first|refine Or.inl ?_|apply oi|(apply fi<;>intro h)|refine⟨_,rfl,?_⟩|((with_reducible show _=_);rfl))
      all_goals try((with_reducible refine Obl.mk ?_);exact KO)
      all_goals try exact KX
      all_goals try(exfalso;rw[hc1]at h;have h':=of_decide_eq_true h;omega)
      all_goals first
       | exact⟨hsh1⟩
       | exact⟨hsh2⟩
       |(refine⟨congrArg (Tr.int _) ?_⟩;simp only[opX,opZ];first|(rw[hv];done)|omega)
 ·rw[decodeOp,if_neg hin]
  have hbt:within p 0 (IntKind.i64.wrap (s.length - 1))=false:=by
   rw[hw]
   cases h:within p 0 ((s.length:Int) - 1)with
   | false=>rfl
   | true=>exact absurd (within_iff.1 h) (by omega)
  rw[hbt]at hb
  repeat' ((conv=>whnf);first|refine Or.inl ?_|apply oi|(apply fi<;>intro h)|refine ci hb (ai rfl (ai rfl (ai rfl trivial))) ?_|refine⟨_,rfl,?_⟩|((with_reducible show _=_);rfl))
  all_goals try((with_reducible refine Obl.mk ?_);exact KO)
theorem s_spec_DecodeOp (s:List UInt8)(p:Int)(hs:s.length≤1048576)(hp:p≤9223372036854775807):Sim.Spec Tryz.prog 183 [tvS s,tvI p] (rOp (decodeOp s p)):=by
 refine spec_of_W hΓ hmix Tryz.func183 rfl (by decide) rfl ?_
 have hw:IntKind.i64.wrap ((s.length:Int) - 1)=(s.length:Int) - 1:=IntWalk.i64_in _ (by omega)
 by_cases hin:0≤p∧p < s.length
 ·obtain⟨p,rfl⟩:=Int.eq_ofNat_of_zero_le hin.1
  obtain⟨b,hbb⟩:=get_of_lt (l:=s) (k:=p) (by omega)
  have hba:byteAt s p=b.toNat:=by rw[byteAt,hbb]
  have hz:=s_spec_OpSize (b.toNat:Int)
  have ha:=s_spec_l07Width (b.toNat:Int)
  have hzl:=opSize_le (b.toNat:Int)
  have hlt:=UInt8.toNat_lt b
  have hwb:IntKind.i64.wrap (b.toNat:Int)=b.toNat:=IntWalk.i64_in _ (by omega)
  rw[decodeOp,if_pos hin,Int.toNat_natCast,hba]
  by_cases hno:opSize (b.toNat:Int)=0∨(s.length:Int) < (p:Int)+opSize (b.toNat:Int)
  ·rw[if_pos hno]
   have hw6:IntKind.i64.wrap (IntKind.i64.wrap ((p:Int)+1)+(opArg (b.toNat:Int)).1)=(p:Int)+1+(opArg (b.toNat:Int)).1:=by
    have:=opArg_le (b.toNat:Int)
    rw[IntWalk.i64_in ((p:Int)+1) (by omega),IntWalk.i64_in _ (by omega)]
   have hos0:¬opSize (b.toNat:Int)=0→opSize (b.toNat:Int)=(opArg (b.toNat:Int)).1+1:=fun h=>by
    unfold opSize at h ⊢
    split at h
    ·rename_i hwi;rw[if_pos hwi]
    ·omega
   repeat' ((conv=>whnf);first|refine Or.inl ?_|apply oi|(apply fi<;>intro h)|refine⟨p,b,rfl,hbb,?_⟩|refine ci hz (ai KW trivial) ?_|refine ci ha (ai KW trivial) ?_|refine⟨_,rfl,?_⟩|((with_reducible show _=_);rfl))
   all_goals try((with_reducible refine Obl.mk ?_);exact KO)
   all_goals try(exfalso;first|(have h':=of_decide_eq_true h;omega))
   all_goals(
         exfalso;rename_i h0;have h1:¬opSize (b.toNat:Int)=0:=by simpa using h0
         rw[hw6]at h;have h':=of_decide_eq_false h;have:=hos0 h1;omega)
  ·rw[if_neg hno]
   have hw6:IntKind.i64.wrap (IntKind.i64.wrap ((p:Int)+1)+(opArg (b.toNat:Int)).1)=(p:Int)+1+(opArg (b.toNat:Int)).1:=by
    have:=opArg_le (b.toNat:Int)
    rw[IntWalk.i64_in ((p:Int)+1) (by omega),IntWalk.i64_in _ (by omega)]
   have hos0:opSize (b.toNat:Int)=(opArg (b.toNat:Int)).1+1:=by
    have h:¬opSize (b.toNat:Int)=0:=fun h=>hno (Or.inl h)
    unfold opSize at h ⊢
    split at h
    ·rename_i hwi;rw[if_pos hwi]
    ·omega
   repeat' ((conv=>whnf);first|refine Or.inl ?_|apply oi|(apply fi<;>intro h)|refine⟨p,b,rfl,hbb,?_⟩|refine ci hz (ai KW trivial) ?_|refine ci ha (ai KW trivial) ?_|refine⟨_,rfl,?_⟩|((with_reducible show _=_);rfl))
   all_goals try((with_reducible refine Obl.mk ?_);exact KO)
   all_goals try(exfalso;first|(
                    have h1:opSize (b.toNat:Int)=0:=by simpa using h
                    omega)|(rw[hw6]at h;have h':=of_decide_eq_true h;omega)|(have h':=of_decide_eq_true h;omega))
   clear hw6
   obtain⟨n,hn,hn4,hng⟩:=opArg_nat (b.toNat:Int)
   have hos:opSize (b.toNat:Int)=n+1:=by
    have h1:¬opSize (b.toNat:Int)=0:=fun h=>hno (Or.inl h)
    unfold opSize at h1 ⊢
    split at h1
    ·rename_i hwi
     rw[if_pos hwi,hn]
    ·omega
   have hav1:=fun m=>argV_yes (m:=m) hn
   have hav2:=fun m=>argV_no (m:=m) hn
   rw[hn,Int.toNat_natCast]
   generalize(opArg (b.toNat:Int)).2=sg at *
   generalize hV:argV (b.toNat:Int)=V at *
   conv=>whnf
   refine⟨{k:Nat // k≤n},fun k=>⟨[(0,tS s),(1,tI .i64 (p:Int)),(4,.r (.c (.ptr (4,0,0) 0))),(7,.r (.c (.ptr (7,0,0) 0))),(8,tI .i64 (n:Int)),(9,tB sg),(10,tI .i64 (k.1:Int))],[((7,0,0),some (.box [.t (.int .i64 b.toNat),.t (.int .i64 (opArgN s (p+1) k.1:Nat))])),((4,0,0),some (.box [.t (.int .i64 0),.t (.int .i64 0)]))],[7,4]⟩,fun k=>n - k.1,⟨0,by omega⟩,?_,?_⟩
   ·skip
    repeat' ((conv=>whnf);first|refine Or.inl ?_|apply oi|(apply fi<;>intro h)|refine⟨_,rfl,?_⟩|((with_reducible show _=_);rfl))
    all_goals try((with_reducible refine Obl.mk ?_);exact KO)
    all_goals exact⟨by first|rfl|(rw[hwb];done)|(rw[hn];done)⟩
   intro⟨k,hk⟩
   dsimp only
   by_cases hlt2:k < n
   ·obtain⟨b2,hb2⟩:=get_of_lt (l:=s) (k:=p+1+k) (by omega)
    have hbb2:byteAt s (p+1+k)=b2.toNat:=by rw[byteAt,hb2]
    have hl2:=UInt8.toNat_lt b2
    have ha1:=opArgN_lt s (p+1) k
    have hix:IntKind.i64.wrap (IntKind.i64.wrap ((p:Int)+1)+k)=((p+1+k:Nat):Int):=by rw[IntWalk.i64_in ((p:Int)+1) (by omega),IntWalk.i64_in _ (by omega)];omega
    have hst:opArgN s (p+1) (k+1)=opArgN s (p+1) k+b2.toNat * 256 ^ k:=by rw[opArgN,hbb2]
    have hw2:IntKind.i64.wrap (b2.toNat:Int)=b2.toNat:=IntWalk.i64_in _ (by omega)
    repeat' ((conv=>whnf);first|refine Or.inl ?_|apply oi|(apply fi<;>intro h)|refine⟨(p+1+k),b2,hix,hb2,?_⟩|refine⟨_,rfl,?_⟩|((with_reducible show _=_);rfl))
    all_goals try((with_reducible refine Obl.mk ?_);exact KO)
    all_goals try exact KX
    all_goals try exact⟨K6⟩
    conv=>whnf
    refine⟨⟨k+1,by omega⟩,?_,by dsimp only;omega⟩
    repeat' ((conv=>whnf);first|refine Or.inl ?_|apply oi|(apply fi<;>intro h)|refine⟨_,rfl,?_⟩|((with_reducible show _=_);rfl))
    all_goals try((with_reducible refine Obl.mk ?_);exact KO)
    ·exact⟨by dsimp only;rw[IntWalk.i64_in _ (by omega)];rfl⟩
    ·refine⟨congrArg (Tr.int _) ?_⟩
     dsimp only
     rw[hst,hw2]
     rw[shl_bytes (by omega) hl2]
     have h4:=pow256_le (show k < 4 by omega)
     have h5:b2.toNat * 256 ^ k≤255 * 16777216:=Nat.mul_le_mul (by omega) h4
     rw[IntWalk.i64_in _ (by omega)]
     simp
   ·have hkn:k=n:=by omega
    subst hkn
    have ha1:=opArgN_lt s (p+1) k
    have hwz:IntKind.i64.wrap (1+(k:Int))=1+k:=IntWalk.i64_in _ (by omega)
    cases sg with
    | false=>
     have hv:=hav2 (opArgN s (p+1) k) (by simp)
     repeat' ((conv=>whnf);first|refine Or.inl ?_|apply oi|(apply fi<;>intro h)|refine⟨_,rfl,?_⟩|((with_reducible show _=_);rfl))
     all_goals try((with_reducible refine Obl.mk ?_);exact KO)
     all_goals try exact KX
     all_goals(refine⟨congrArg (Tr.int _) ?_⟩;simp only[opX,opZ];first|(rw[hv];done)|(rw[hwz];omega))
    | true=>
     have hAB:∃A B:Nat,2 ^ (8 * k - 1)=A∧2 ^ (8 * k)=B∧B≤4294967296∧IntKind.i64.wrap (1 * 2 ^ (min (Int.toNat (IntKind.i64.wrap (IntKind.i64.wrap (8 * (k:Int)) - 1))) IntKind.i64.bits))=(A:Int)∧
       IntKind.i64.wrap (1 * 2 ^ (min (Int.toNat (IntKind.i64.wrap (8 * (k:Int)))) IntKind.i64.bits))=(B:Int)∧256 ^ k=B:=by
      rcases hng rfl with h|h <;> rw[h]
      ·exact⟨32768,65536,by decide,by decide,by decide,by decide,by decide,by decide⟩
      ·exact⟨2147483648,4294967296,by decide,by decide,by decide,by decide,by decide,by decide⟩
     obtain⟨A,B,hA,hB,hBl,hc1,hc2,h256⟩:=hAB
     rw[h256]at ha1
     have hB':(2:Int) ^ (8 * k)=(B:Int):=by rw[←hB];simp
     rw[hA,hB']at hav1
     rw[hA]at hav2
     have hsh1:0≤IntKind.i64.wrap (IntKind.i64.wrap (8 * (k:Int)) - 1):=by
      rcases hng rfl with h|h <;> rw[h] <;> decide
     have hsh2:0≤IntKind.i64.wrap (8 * (k:Int)):=by
      rcases hng rfl with h|h <;> rw[h] <;> decide
     by_cases hge:A≤opArgN s (p+1) k
     ·have hv:=hav1 _ rfl hge
      have hws:IntKind.i64.wrap ((opArgN s (p+1) k:Int) - (B:Int))=(opArgN s (p+1) k:Int) - B:=IntWalk.i64_in _ (by omega)
      repeat' ((conv=>whnf);first|refine Or.inl ?_|apply oi|(apply fi<;>intro h)|refine⟨_,rfl,?_⟩|((with_reducible show _=_);rfl))
      all_goals try((with_reducible refine Obl.mk ?_);exact KO)
      all_goals try exact KX
      all_goals try(exfalso;rw[hc1]at h;have h':=of_decide_eq_false h;omega)
      all_goals first
       | exact⟨hsh1⟩
       | exact⟨hsh2⟩
       |(refine⟨congrArg (Tr.int _) ?_⟩;simp only[opX,opZ];first|(rw[hc2,hws,hv];done)|(rw[hwz];omega))
     ·have hv:=hav2 _ (fun h=>hge h.2)
      repeat' ((conv=>whnf);first|refine Or.inl ?_|apply oi|(apply fi<;>intro h)|refine⟨_,rfl,?_⟩|((with_reducible show _=_);rfl))
      all_goals try((with_reducible refine Obl.mk ?_);exact KO)
      all_goals try exact KX
      all_goals try(exfalso;rw[hc1]at h;have h':=of_decide_eq_true h;omega)
      all_goals first
       | exact⟨hsh1⟩
       | exact⟨hsh2⟩
       |(refine⟨congrArg (Tr.int _) ?_⟩;simp only[opX,opZ];first|(rw[hv];done)|(rw[hwz];omega))
 ·rw[decodeOp,if_neg hin]
  repeat' ((conv=>whnf);first|refine Or.inl ?_|apply oi|(apply fi<;>intro h)|refine⟨_,rfl,?_⟩|((with_reducible show _=_);rfl))
  all_goals try((with_reducible refine Obl.mk ?_);exact KO)
  all_goals(exfalso;rename_i h0;have h1:=of_decide_eq_false h0;have h2:=of_decide_eq_false h;omega)
def disF (s:List UInt8):Nat→Nat→Option (List TOp)
 | 0,p=>if p < s.length then none else some []
 | f+1,p=>if p < s.length then(match decodeOp s (p:Int)with
   | some x=>(disF s f (p+x.2)).map (x.1::·)
   | none=>none)else some []
def disasm (s:List UInt8):Option (List TOp):=disF s s.length 0
theorem decodeOp_some {s:List UInt8}{p:Nat}{x:TOp}{z:Nat}(h:decodeOp s (p:Int)=some (x,z)):1≤z∧z≤5∧p+z≤s.length:=by
 unfold decodeOp at h
 split at h
 ·rename_i hin
  split at h
  ·cases h
  ·rename_i hno
   injection h with h
   injection h with h1 h2
   rw[not_or]at hno
   have:=opSize_le (byteAt s (p:Int).toNat)
   omega
 ·cases h
theorem disF_fuel {s:List UInt8}:∀{f p:Nat},s.length - p≤f→disF s f p=disF s (s.length - p) p
 | 0,p,h=>by rw[show s.length - p=0 by omega]
 | f+1,p,h=>by
  rcases Nat.lt_or_ge p s.length with hlt|hge
  ·obtain⟨m,hm⟩:∃m,s.length - p=m+1:=⟨s.length - p - 1,by omega⟩
   rw[hm,disF,disF,if_pos hlt,if_pos hlt]
   match hd:decodeOp s (p:Int)with
   | none=>rfl
   | some (x,z)=>
    have:=decodeOp_some hd
    dsimp only
    rw[disF_fuel (f:=f) (p:=p+z) (by omega),disF_fuel (f:=m) (p:=p+z) (by omega)]
  ·rw[disF,if_neg (by omega),show s.length - p=0 by omega,disF,if_neg (by omega)]
theorem disF_step {s:List UInt8}{p:Nat}(hlt:p < s.length):disF s (s.length - p) p=(match decodeOp s (p:Int)with
  | some x=>(disF s (s.length - (p+x.2)) (p+x.2)).map (x.1::·)
  | none=>none):=by
 obtain⟨m,hm⟩:∃m,s.length - p=m+1:=⟨s.length - p - 1,by omega⟩
 rw[hm,disF,if_pos hlt]
 match hd:decodeOp s (p:Int)with
 | none=>rfl
 | some (x,z)=>
  have:=decodeOp_some hd
  dsimp only
  rw[disF_fuel (f:=m) (p:=p+z) (by omega)]
theorem disF_end {s:List UInt8}{p:Nat}(hge:s.length≤p):disF s (s.length - p) p=some []:=by
 rw[show s.length - p=0 by omega,disF,if_neg (by omega)]
abbrev DisIx (s:List UInt8)(R:Option (List TOp)):={q:Nat×List TOp // q.1≤s.length∧q.2.length≤q.1∧(disF s (s.length - q.1) q.1).map (q.2++·)=R}
theorem s_impl_Disassemble (s:List UInt8)(hs:s.length≤1048576):Sim.Spec Tryz.prog 170 [tvS s] (.tup [.c (.arr 2 ((oL (disasm s)).map TOp.tr)),.c (.t (.bool (disasm s).isSome))]):=by
 refine spec_of_W hΓ hmix Tryz.func170 rfl (by decide) rfl ?_
 have hR0:(disF s (s.length - 0) 0).map (([]:List TOp)++·)=disasm s:=by simp[disasm]
 generalize disasm s=R at hR0 ⊢
 repeat' ((conv=>whnf);first|refine Or.inl ?_|apply oi|(apply fi<;>intro h)|refine⟨_,rfl,?_⟩|((with_reducible show _=_);rfl))
 all_goals try((with_reducible refine Obl.mk ?_);exact KO)
 conv=>whnf
 refine⟨DisIx s R,fun q=>⟨[(0,tS s),(4,.r (.c (.own (9,0,0)))),(5,tI .i64 (q.1.1:Int))],[((9,0,0),some (.arr true 2 (q.1.2.map TOp.tr)))],[9]⟩,fun q=>s.length - q.1.1,⟨(0,[]),by simp,by simp,hR0⟩,?_,?_⟩
 ·skip
  repeat' ((conv=>whnf);first|refine Or.inl ?_|apply oi|(apply fi<;>intro h)|refine⟨_,rfl,?_⟩|((with_reducible show _=_);rfl))
  all_goals try((with_reducible refine Obl.mk ?_);exact KO)
 intro⟨⟨p,acc⟩,hp,hal,hr⟩
 dsimp only at hp hal hr ⊢
 by_cases hlt:p < s.length
 ·have hD:=s_impl_DecodeOp s (p:Int) hs (by omega)
  rw[disF_step hlt]at hr
  match hd:decodeOp s (p:Int)with
  | none=>
   rw[hd]at hr hD
   dsimp only[rOp,opX,opZ,Option.isSome]at hr hD
   subst hr
   repeat' ((conv=>whnf);first|refine Or.inl ?_|apply oi|(apply fi<;>intro h)|refine ci hD (ai rfl (ai rfl trivial)) ?_|refine⟨_,rfl,?_⟩|((with_reducible show _=_);rfl))
   all_goals try((with_reducible refine Obl.mk ?_);exact KO)
   all_goals try exact KX
  | some (x,z)=>
   rw[hd]at hr hD
   have hz:=decodeOp_some hd
   dsimp only[rOp,opX,opZ,Option.isSome]at hr hD
   repeat' ((conv=>whnf);first|refine Or.inl ?_|apply oi|(apply fi<;>intro h)|refine ci hD (ai rfl (ai rfl trivial)) ?_|refine⟨_,rfl,?_⟩|((with_reducible show _=_);rfl))
   all_goals try((with_reducible refine Obl.mk ?_);exact KO)
   all_goals try exact KX
   all_goals try exact⟨⟨by simp only[List.length_map,List.length_cons,List.length_nil];omega,by simp only[List.length_map,List.length_cons,List.length_nil];omega⟩⟩
   conv=>whnf
   refine⟨⟨(p+z,acc++[x]),by dsimp only;omega,by simp;omega,?_⟩,?_,by dsimp only;omega⟩
   ·dsimp only
    rw[←hr,Option.map_map]
    congr 1
    funext l
    simp
   repeat' ((conv=>whnf);first|refine Or.inl ?_|apply oi|(apply fi<;>intro h)|refine⟨_,rfl,?_⟩|((with_reducible show _=_);rfl))
   all_goals try((with_reducible refine Obl.mk ?_);exact KO)
   all_goals first
    |(refine⟨congrArg (Tr.int _) ?_⟩;dsimp only;rw[IntWalk.i64_in _ (by omega)];omega)
    |(refine⟨?_⟩;dsimp only;rw[List.map_append];rfl)
 ·have hge:s.length≤p:=by omega
  rw[disF_end hge]at hr
  simp only[Option.map_some,List.append_nil]at hr
  subst hr
  repeat' ((conv=>whnf);first|refine Or.inl ?_|apply oi|(apply fi<;>intro h)|refine⟨_,rfl,?_⟩|((with_reducible show _=_);rfl))
  all_goals try((with_reducible refine Obl.mk ?_);exact KO)
  all_goals try exact KX
theorem s_spec_Disassemble (s:List UInt8)(hs:s.length≤1048576):Sim.Spec Tryz.prog 222 [tvS s] (.tup [.c (.arr 2 ((oL (disasm s)).map TOp.tr)),.c (.t (.bool (disasm s).isSome))]):=by
 refine spec_of_W hΓ hmix Tryz.func222 rfl (by decide) rfl ?_
 have hR0:(disF s (s.length - 0) 0).map (([]:List TOp)++·)=disasm s:=by simp[disasm]
 generalize disasm s=R at hR0 ⊢
 repeat' ((conv=>whnf);first|refine Or.inl ?_|apply oi|(apply fi<;>intro h)|refine⟨_,rfl,?_⟩|((with_reducible show _=_);rfl))
 all_goals try((with_reducible refine Obl.mk ?_);exact KO)
 conv=>whnf
 refine⟨DisIx s R,fun q=>⟨[(0,tS s),(4,.r (.c (.own (9,0,0)))),(5,tI .i64 (q.1.1:Int))],[((9,0,0),some (.arr true 2 (q.1.2.map TOp.tr)))],[9]⟩,fun q=>s.length - q.1.1,⟨(0,[]),by simp,by simp,hR0⟩,?_,?_⟩
 ·skip
  repeat' ((conv=>whnf);first|refine Or.inl ?_|apply oi|(apply fi<;>intro h)|refine⟨_,rfl,?_⟩|((with_reducible show _=_);rfl))
  all_goals try((with_reducible refine Obl.mk ?_);exact KO)
 intro⟨⟨p,acc⟩,hp,hal,hr⟩
 dsimp only at hp hal hr ⊢
 by_cases hlt:p < s.length
 ·have hD:=s_spec_DecodeOp s (p:Int) hs (by omega)
  rw[disF_step hlt]at hr
  match hd:decodeOp s (p:Int)with
  | none=>
   rw[hd]at hr hD
   dsimp only[rOp,opX,opZ,Option.isSome]at hr hD
   subst hr
   repeat' ((conv=>whnf);first|refine Or.inl ?_|apply oi|(apply fi<;>intro h)|refine ci hD (ai rfl (ai rfl trivial)) ?_|refine⟨_,rfl,?_⟩|((with_reducible show _=_);rfl))
   all_goals try((with_reducible refine Obl.mk ?_);exact KO)
   all_goals try exact KX
  | some (x,z)=>
   rw[hd]at hr hD
   have hz:=decodeOp_some hd
   dsimp only[rOp,opX,opZ,Option.isSome]at hr hD
   repeat' ((conv=>whnf);first|refine Or.inl ?_|apply oi|(apply fi<;>intro h)|refine ci hD (ai rfl (ai rfl trivial)) ?_|refine⟨_,rfl,?_⟩|((with_reducible show _=_);rfl))
   all_goals try((with_reducible refine Obl.mk ?_);exact KO)
   all_goals try exact KX
   all_goals try exact⟨⟨by simp only[List.length_map,List.length_cons,List.length_nil];omega,by simp only[List.length_map,List.length_cons,List.length_nil];omega⟩⟩
   conv=>whnf
   refine⟨⟨(p+z,acc++[x]),by dsimp only;omega,by simp;omega,?_⟩,?_,by dsimp only;omega⟩
   ·dsimp only
    rw[←hr,Option.map_map]
    congr 1
    funext l
    simp
   repeat' ((conv=>whnf);first|refine Or.inl ?_|apply oi|(apply fi<;>intro h)|refine⟨_,rfl,?_⟩|((with_reducible show _=_);rfl))
   all_goals try((with_reducible refine Obl.mk ?_);exact KO)
   all_goals first
    |(refine⟨congrArg (Tr.int _) ?_⟩;dsimp only;rw[IntWalk.i64_in _ (by omega)];omega)
    |(refine⟨?_⟩;dsimp only;rw[List.map_append];rfl)
 ·have hge:s.length≤p:=by omega
  rw[disF_end hge]at hr
  simp only[Option.map_some,List.append_nil]at hr
  subst hr
  repeat' ((conv=>whnf);first|refine Or.inl ?_|apply oi|(apply fi<;>intro h)|refine⟨_,rfl,?_⟩|((with_reducible show _=_);rfl))
  all_goals try((with_reducible refine Obl.mk ?_);exact KO)
  all_goals try exact KX
end Go.Proofs.YtjmplnfiabmalaaGreat
namespace Go.Proofs.YtjmplnfiabmalaaGreat
open Go.Sim
set_option maxRecDepth 100000
set_option maxHeartbeats 4000000
def seenName (seen:List TSymbol)(nm:List UInt8):Bool:=seen.any fun y=>y.fName==nm
def imgPre (len a:Nat)(x:TSymbol):Bool:=x.fStart==(a:Int) && (decide (1≤x.fSize) && (decide (x.fSize≤(len:Int) - a) && nameOk x.fName))
def imgAt (code:List UInt8)(seen:List TSymbol)(a:Nat)(x:TSymbol):Bool:=imgPre code.length a x && (!(seenName seen x.fName) && (disasm ((code.take (a+x.fSize.toNat)).drop a)).isSome)
def imgOkF (code:List UInt8):List TSymbol→Nat→List TSymbol→Bool
 | _,a,[]=>a==code.length
 | seen,a,x::l=>imgAt code seen a x && imgOkF code (seen++[x]) (a+x.fSize.toNat) l
def imageOk (i:TImage):Bool:=decide (i.fCode.length≤1000000) && imgOkF i.fCode [] 0 i.fSymbols
theorem img_at {code:List UInt8}{l:List TSymbol}{k a:Nat}{x:TSymbol}(hx:l[k]?=some x):imgOkF code (l.take k) a (l.drop k)=(imgAt code (l.take k) a x && imgOkF code (l.take (k+1)) (a+x.fSize.toNat) (l.drop (k+1))):=by
 rw[drop_at hx,imgOkF]
 obtain⟨hk,rfl⟩:=List.getElem?_eq_some_iff.1 hx
 rw[List.take_succ_eq_append_getElem hk]
theorem seen_take {l:List TSymbol}{j:Nat}{y:TSymbol}{nm:List UInt8}(hy:l[j]?=some y):seenName (l.take (j+1)) nm=(seenName (l.take j) nm || y.fName==nm):=by
 obtain⟨hk,rfl⟩:=List.getElem?_eq_some_iff.1 hy
 rw[List.take_succ_eq_append_getElem hk,seenName,List.any_append]
 simp[seenName]
theorem seen_mem {l:List TSymbol}{j k:Nat}{y:TSymbol}(hy:l[j]?=some y)(h:j < k):seenName (l.take k) y.fName=true:=by
 rw[seenName,List.any_eq_true]
 refine⟨y,?_,by simp⟩
 rw[List.mem_iff_getElem?]
 exact⟨j,by rw[List.getElem?_take,if_pos h];exact hy⟩
theorem imgPre_iff {len a:Nat}{x:TSymbol}:imgPre len a x=true↔x.fStart=(a:Int)∧1≤x.fSize∧x.fSize≤(len:Int) - a∧nameOk x.fName=true:=by
 unfold imgPre
 rw[Bool.and_eq_true,Bool.and_eq_true,Bool.and_eq_true,beq_iff_eq,decide_eq_true_eq,decide_eq_true_eq]
abbrev ImoIx (code:List UInt8)(l:List TSymbol):={q:Nat×Nat // q.1≤l.length∧q.2≤code.length∧imgOkF code (l.take q.1) q.2 (l.drop q.1)=imgOkF code [] 0 l}
theorem s_impl_ImageOk (i:TImage)(hs:smallR 1048576 i.tr):Sim.Spec Tryz.prog 101 [.agg i.tr] (rB (imageOk i)):=by
 refine spec_of_W hΓ hmix Tryz.func101 rfl (by decide) rfl ?_
 obtain⟨code,l⟩:=i
 simp only[TImage.tr,smallR]at hs
 have hcl:code.length≤1048576:=by have:=hs.1;rw[smallT]at this;omega
 have hl:=small_nat hs.2.1
 have hlen:(l.map TSymbol.tr).length=l.length:=by simp
 unfold imageOk
 dsimp only
 by_cases hbig:code.length≤1000000
 ·rw[show decide (code.length≤1000000)=true from decide_eq_true hbig,Bool.true_and]
  repeat' ((conv=>whnf);first|refine Or.inl ?_|apply oi|(apply fi<;>intro h)|refine⟨_,rfl,?_⟩|((with_reducible show _=_);rfl))
  all_goals try((with_reducible refine Obl.mk ?_);exact KO)
  all_goals try(exfalso;have h':=of_decide_eq_true h;dsimp only at h';omega;done)
  conv=>whnf
  refine⟨ImoIx code l,fun q=>⟨[(1,.r (.c (.ptr (1,0,0) 0))),(3,tI .i64 (q.1.2:Int)),(15,.r (.c (.t (.lst 3 (l.map TSymbol.tr))))),(16,tI .i64 ((l.map TSymbol.tr).length:Int)),(17,tI .i64 (q.1.1:Int))],[((1,0,0),some (.box [.t (.str code),.t (.lst 3 (l.map TSymbol.tr))]))],[1]⟩,fun q=>l.length - q.1.1,⟨(0,0),by simp,by simp,by simp⟩,?_,?_⟩
  ·skip
   repeat' ((conv=>whnf);first|refine Or.inl ?_|apply oi|(apply fi<;>intro h)|refine⟨_,rfl,?_⟩|((with_reducible show _=_);rfl))
   all_goals try((with_reducible refine Obl.mk ?_);exact KO)
  intro⟨⟨k,a⟩,hk,ha,hr⟩
  dsimp only at hk ha hr ⊢
  by_cases hlt:k < l.length
  ·obtain⟨x,hx⟩:=get_of_lt hlt
   have hxl:x.fName.length≤1099511627775:=by
    have:=smallRs_map hs.2.1 (List.mem_of_getElem? hx)
    simp only[TSymbol.tr,smallR,smallT]at this
    omega
   have hN:=s_impl_NameOk x.fName hxl
   rw[img_at hx,imgAt]at hr
   have hw1:IntKind.i64.wrap ((code.length:Int) - a)=(code.length:Int) - a:=IntWalk.i64_in _ (by omega)
   cases hpre:imgPre code.length a x with
   | false=>
    rw[hpre,Bool.false_and,Bool.false_and]at hr
    repeat' ((conv=>whnf);first|refine Or.inl ?_|apply oi|(apply fi<;>intro h)|refine⟨k,x.tr,rfl,map_get hx,?_⟩|refine ci hN (ai rfl trivial) ?_|refine⟨_,rfl,?_⟩|((with_reducible show _=_);rfl))
    all_goals try((with_reducible refine Obl.mk ?_);exact KO)
    all_goals try(exfalso;have h':=of_decide_eq_false h;rw[hlen]at h';omega;done)
    all_goals try exact⟨by rw[←hr]⟩
    all_goals(exfalso;rw[←Bool.not_eq_true,imgPre_iff]at hpre;apply hpre;rw[hw1]at *;(simp_all) <;> omega)
   | true=>
    obtain⟨p1,p2,p3,p4⟩:=imgPre_iff.1 hpre
    rw[p4]at hN
    rw[hpre,Bool.true_and]at hr
    repeat' ((conv=>whnf);first|refine Or.inl ?_|apply oi|(apply fi<;>intro h)|refine⟨k,x.tr,rfl,map_get hx,?_⟩|refine ci hN (ai rfl trivial) ?_|refine⟨_,rfl,?_⟩|((with_reducible show _=_);rfl))
    all_goals try((with_reducible refine Obl.mk ?_);exact KO)
    all_goals try(exfalso;first|(have h':=of_decide_eq_false h;rw[hlen]at h';omega)|(simp at h;done)|(rw[p1]at h;simp at h;done)|(have h':=of_decide_eq_true h;(try rw[hw1]at h');omega))
    conv=>whnf
    refine⟨0,k,rfl,rfl,by omega,by rw[hlen];omega,?_⟩
    repeat' ((conv=>whnf);first|refine Or.inl ?_|apply oi|(apply fi<;>intro h)|refine⟨_,rfl,?_⟩|((with_reducible show _=_);rfl))
    all_goals try((with_reducible refine Obl.mk ?_);exact KO)
    conv=>whnf
    have hrl:(((l.map TSymbol.tr).take k).drop 0).length=k:=by simp;omega
    refine⟨{j:Nat // j≤k∧seenName (l.take j) x.fName=false},fun j=>⟨[(1,.r (.c (.ptr (1,0,0) 0))),(3,tI .i64 (a:Int)),(5,.r (.c (.ptr (5,0,0) 0))),(15,.r (.c (.t (.lst 3 (l.map TSymbol.tr))))),(16,tI .i64 ((l.map TSymbol.tr).length:Int)),(17,tI .i64 (k:Int)),(50,.r (.c (.t (.lst 3 (((l.map TSymbol.tr).take k).drop 0))))),(51,tI .i64 ((((l.map TSymbol.tr).take k).drop 0).length:Int)),(52,tI .i64 (j.1:Int))],[((1,0,0),some (.box [.t (.str code),.t (.lst 3 (l.map TSymbol.tr))])),((5,0,0),some (.box [.t (.str x.fName),.t (.int .i64 x.fStart),.t (.int .i64 x.fSize)]))],[5,1]⟩,fun j=>k - j.1,⟨0,by omega,rfl⟩,?_,?_⟩
    ·skip
     repeat' ((conv=>whnf);first|refine Or.inl ?_|apply oi|(apply fi<;>intro h)|refine⟨_,rfl,?_⟩|((with_reducible show _=_);rfl))
     all_goals try((with_reducible refine Obl.mk ?_);exact KO)
    intro⟨j,hj,hsn⟩
    dsimp only
    by_cases hjk:j < k
    ·obtain⟨y,hy⟩:=get_of_lt (l:=l) (k:=j) (by omega)
     have hyr:(((l.map TSymbol.tr).take k).drop 0)[j]?=some y.tr:=by rw[List.drop_zero,List.getElem?_take,if_pos hjk];exact map_get hy
     have hst:=seen_take (nm:=x.fName) hy
     rw[hsn,Bool.false_or]at hst
     cases hyx:(y.fName==x.fName)with
     | true=>
      have hs2:=seen_mem hy hjk
      rw[beq_iff_eq.1 hyx]at hs2
      rw[hs2]at hr
      repeat' ((conv=>whnf);first|refine Or.inl ?_|apply oi|(apply fi<;>intro h)|refine⟨j,y.tr,rfl,hyr,?_⟩|refine⟨_,rfl,?_⟩|((with_reducible show _=_);rfl))
      all_goals try((with_reducible refine Obl.mk ?_);exact KO)
      all_goals first
       |(exfalso;have h':=of_decide_eq_false h;rw[hrl]at h';omega)
       | exact⟨by rw[←hr];rfl⟩
       |(exfalso;rw[hyx]at h;simp at h;done)
     | false=>
      rw[hyx]at hst
      repeat' ((conv=>whnf);first|refine Or.inl ?_|apply oi|(apply fi<;>intro h)|refine⟨j,y.tr,rfl,hyr,?_⟩|refine⟨_,rfl,?_⟩|((with_reducible show _=_);rfl))
      all_goals try((with_reducible refine Obl.mk ?_);exact KO)
      all_goals try(exfalso;first|(have h':=of_decide_eq_false h;rw[hrl]at h';omega)|(rw[hyx]at h;simp at h;done))
      conv=>whnf
      refine⟨⟨j+1,by omega,hst⟩,?_,by dsimp only;omega⟩
      repeat' ((conv=>whnf);first|refine Or.inl ?_|apply oi|(apply fi<;>intro h)|refine⟨_,rfl,?_⟩|((with_reducible show _=_);rfl))
      all_goals try((with_reducible refine Obl.mk ?_);exact KO)
      all_goals exact⟨by dsimp only;rw[IntWalk.i64_in _ (by omega)];rfl⟩
    ·have hjk2:j=k:=by omega
     subst hjk2
     obtain⟨z,hz⟩:=Int.eq_ofNat_of_zero_le (show 0≤x.fSize by omega)
     have hw2:IntKind.i64.wrap ((a:Int)+x.fSize)=((a+z:Nat):Int):=by rw[IntWalk.i64_in _ (by omega),hz];rfl
     rw[hsn,hz,Int.toNat_natCast]at hr
     have hD:=s_impl_Disassemble ((code.take (a+z)).drop a) (by simp;omega)
     repeat' ((conv=>whnf);first|refine Or.inl ?_|apply oi|(apply fi<;>intro h)|refine⟨_,rfl,?_⟩|((with_reducible show _=_);rfl))
     all_goals try((with_reducible refine Obl.mk ?_);exact KO)
     all_goals try(exfalso;have h':=of_decide_eq_true h;rw[hrl]at h';omega)
     conv=>whnf
     refine⟨a,a+z,p1,hw2,by omega,by omega,?_⟩
     cases hds:(disasm ((code.take (a+z)).drop a)).isSome with
     | false=>
      rw[hds]at hr hD
      repeat' ((conv=>whnf);first|refine Or.inl ?_|apply oi|(apply fi<;>intro h)|refine ci hD (ai rfl trivial) ?_|refine⟨_,rfl,?_⟩|((with_reducible show _=_);rfl))
      all_goals try((with_reducible refine Obl.mk ?_);exact KO)
      all_goals first
       | exact⟨by rw[←hr];rfl⟩
       |(exfalso;simp at h;done)
     | true=>
      rw[hds]at hr hD
      repeat' ((conv=>whnf);first|refine Or.inl ?_|apply oi|(apply fi<;>intro h)|refine ci hD (ai rfl trivial) ?_|refine⟨_,rfl,?_⟩|((with_reducible show _=_);rfl))
      all_goals try((with_reducible refine Obl.mk ?_);exact KO)
      all_goals try(exfalso;simp at h;done)
      conv=>whnf
      refine⟨⟨(j+1,a+z),by dsimp only;omega,by dsimp only;omega,by simpa using hr⟩,?_,by dsimp only;omega⟩
      repeat' ((conv=>whnf);first|refine Or.inl ?_|apply oi|(apply fi<;>intro h)|refine⟨_,rfl,?_⟩|((with_reducible show _=_);rfl))
      all_goals try((with_reducible refine Obl.mk ?_);exact KO)
      all_goals first
       | exact⟨by dsimp only;rw[hw2]⟩
       | exact⟨by dsimp only;rw[IntWalk.i64_in _ (by omega)];rfl⟩
  ·have hge:l.length≤k:=by omega
   rw[List.drop_eq_nil_of_le hge,imgOkF]at hr
   repeat' ((conv=>whnf);first|refine Or.inl ?_|apply oi|(apply fi<;>intro h)|refine⟨_,rfl,?_⟩|((with_reducible show _=_);rfl))
   all_goals try((with_reducible refine Obl.mk ?_);exact KO)
   all_goals try exact KX
   exact⟨by rw[←hr];congr 1;rw[Bool.eq_iff_iff,beq_iff_eq,beq_iff_eq];omega⟩
 ·rw[show decide (code.length≤1000000)=false from decide_eq_false hbig,Bool.false_and]
  repeat' ((conv=>whnf);first|refine Or.inl ?_|apply oi|(apply fi<;>intro h)|refine⟨_,rfl,?_⟩|((with_reducible show _=_);rfl))
  all_goals try((with_reducible refine Obl.mk ?_);exact KO)
  all_goals(exfalso;have h':=of_decide_eq_false h;dsimp only at h';omega)
theorem s_spec_ImageOk (i:TImage)(hs:smallR 1048576 i.tr):Sim.Spec Tryz.prog 164 [.agg i.tr] (rB (imageOk i)):=by
 refine spec_of_W hΓ hmix Tryz.func164 rfl (by decide) rfl ?_
 obtain⟨code,l⟩:=i
 simp only[TImage.tr,smallR]at hs
 have hcl:code.length≤1048576:=by have:=hs.1;rw[smallT]at this;omega
 have hl:=small_nat hs.2.1
 have hlen:(l.map TSymbol.tr).length=l.length:=by simp
 unfold imageOk
 dsimp only
 repeat' ((conv=>whnf);first|refine Or.inl ?_|apply oi|(apply fi<;>intro h)|refine⟨_,rfl,?_⟩|((with_reducible show _=_);rfl))
 all_goals try((with_reducible refine Obl.mk ?_);exact KO)
 conv=>whnf
 refine⟨ImoIx code l,fun q=>⟨[(1,.r (.c (.ptr (1,0,0) 0))),(3,tI .i64 (q.1.2:Int)),(4,tI .i64 (q.1.1:Int))],[((1,0,0),some (.box [.t (.str code),.t (.lst 3 (l.map TSymbol.tr))]))],[1]⟩,fun q=>l.length - q.1.1,⟨(0,0),by simp,by simp,by simp⟩,?_,?_⟩
 ·skip
  repeat' ((conv=>whnf);first|refine Or.inl ?_|apply oi|(apply fi<;>intro h)|refine⟨_,rfl,?_⟩|((with_reducible show _=_);rfl))
  all_goals try((with_reducible refine Obl.mk ?_);exact KO)
 intro⟨⟨k,a⟩,hk,ha,hr⟩
 dsimp only at hk ha hr ⊢
 by_cases hlt:k < l.length
 ·obtain⟨x,hx⟩:=get_of_lt hlt
  have hxl:x.fName.length≤1099511627775:=by
   have:=smallRs_map hs.2.1 (List.mem_of_getElem? hx)
   simp only[TSymbol.tr,smallR,smallT]at this
   omega
  have hN:=s_spec_NameOk x.fName hxl
  rw[img_at hx,imgAt]at hr
  have hw1:IntKind.i64.wrap ((code.length:Int) - a)=(code.length:Int) - a:=IntWalk.i64_in _ (by omega)
  cases hpre:imgPre code.length a x with
  | false=>
   rw[hpre,Bool.false_and,Bool.false_and]at hr
   repeat' ((conv=>whnf);first|refine Or.inl ?_|apply oi|(apply fi<;>intro h)|refine⟨k,x.tr,rfl,map_get hx,?_⟩|refine ci hN (ai rfl trivial) ?_|refine⟨_,rfl,?_⟩|((with_reducible show _=_);rfl))
   all_goals try((with_reducible refine Obl.mk ?_);exact KO)
   all_goals try(exfalso;have h':=of_decide_eq_false h;rw[hlen]at h';omega;done)
   all_goals try exact KX
   all_goals try exact⟨by rw[←hr,Bool.and_false]⟩
   all_goals(exfalso;rw[←Bool.not_eq_true,imgPre_iff]at hpre;apply hpre;rw[hw1]at *;(simp_all) <;> omega)
  | true=>
   obtain⟨p1,p2,p3,p4⟩:=imgPre_iff.1 hpre
   rw[p4]at hN
   rw[hpre,Bool.true_and]at hr
   repeat' ((conv=>whnf);first|refine Or.inl ?_|apply oi|(apply fi<;>intro h)|refine⟨k,x.tr,rfl,map_get hx,?_⟩|refine ci hN (ai rfl trivial) ?_|refine⟨_,rfl,?_⟩|((with_reducible show _=_);rfl))
   all_goals try((with_reducible refine Obl.mk ?_);exact KO)
   all_goals try exact KX
   all_goals try(exfalso;first|(have h':=of_decide_eq_false h;rw[hlen]at h';omega)|(simp at h;done)|(rw[p1]at h;simp at h;done)|(have h':=of_decide_eq_true h;(try rw[hw1]at h');omega))
   conv=>whnf
   have hrl:(((l.map TSymbol.tr).take k).drop 0).length=k:=by simp;omega
   refine⟨{j:Nat // j≤k∧seenName (l.take j) x.fName=false},fun j=>⟨[(1,.r (.c (.ptr (1,0,0) 0))),(3,tI .i64 (a:Int)),(5,.r (.c (.ptr (5,0,0) 0))),(4,tI .i64 (k:Int)),(6,tI .i64 (j.1:Int))],[((1,0,0),some (.box [.t (.str code),.t (.lst 3 (l.map TSymbol.tr))])),((5,0,0),some (.box [.t (.str x.fName),.t (.int .i64 x.fStart),.t (.int .i64 x.fSize)]))],[5,1]⟩,fun j=>k - j.1,⟨0,by omega,rfl⟩,?_,?_⟩
   ·skip
    repeat' ((conv=>whnf);first|refine Or.inl ?_|apply oi|(apply fi<;>intro h)|refine⟨_,rfl,?_⟩|((with_reducible show _=_);rfl))
    all_goals try((with_reducible refine Obl.mk ?_);exact KO)
   intro⟨j,hj,hsn⟩
   dsimp only
   by_cases hjk:j < k
   ·obtain⟨y,hy⟩:=get_of_lt (l:=l) (k:=j) (by omega)
    have hyr:(((l.map TSymbol.tr).take k).drop 0)[j]?=some y.tr:=by rw[List.drop_zero,List.getElem?_take,if_pos hjk];exact map_get hy
    have hst:=seen_take (nm:=x.fName) hy
    rw[hsn,Bool.false_or]at hst
    cases hyx:(y.fName==x.fName)with
    | true=>
     have hs2:=seen_mem hy hjk
     rw[beq_iff_eq.1 hyx]at hs2
     rw[hs2]at hr
     repeat' ((conv=>whnf);first|refine Or.inl ?_|apply oi|(apply fi<;>intro h)|refine⟨j,y.tr,rfl,map_get hy,?_⟩|refine⟨_,rfl,?_⟩|((with_reducible show _=_);rfl))
     all_goals try((with_reducible refine Obl.mk ?_);exact KO)
     all_goals first
      |(exfalso;have h':=of_decide_eq_false h;omega)
      | exact⟨by rw[←hr];simp⟩
      |(exfalso;rw[hyx]at h;simp at h;done)
    | false=>
     rw[hyx]at hst
     repeat' ((conv=>whnf);first|refine Or.inl ?_|apply oi|(apply fi<;>intro h)|refine⟨j,y.tr,rfl,map_get hy,?_⟩|refine⟨_,rfl,?_⟩|((with_reducible show _=_);rfl))
     all_goals try((with_reducible refine Obl.mk ?_);exact KO)
     all_goals try(exfalso;first|(have h':=of_decide_eq_false h;omega)|(rw[hyx]at h;simp at h;done))
     conv=>whnf
     refine⟨⟨j+1,by omega,hst⟩,?_,by dsimp only;omega⟩
     repeat' ((conv=>whnf);first|refine Or.inl ?_|apply oi|(apply fi<;>intro h)|refine⟨_,rfl,?_⟩|((with_reducible show _=_);rfl))
     all_goals try((with_reducible refine Obl.mk ?_);exact KO)
     all_goals exact⟨by dsimp only;rw[IntWalk.i64_in _ (by omega)];rfl⟩
   ·have hjk2:j=k:=by omega
    subst hjk2
    obtain⟨z,hz⟩:=Int.eq_ofNat_of_zero_le (show 0≤x.fSize by omega)
    have hw2:IntKind.i64.wrap ((a:Int)+x.fSize)=((a+z:Nat):Int):=by rw[IntWalk.i64_in _ (by omega),hz];rfl
    rw[hsn,hz,Int.toNat_natCast]at hr
    have hD:=s_spec_Disassemble ((code.take (a+z)).drop a) (by simp;omega)
    repeat' ((conv=>whnf);first|refine Or.inl ?_|apply oi|(apply fi<;>intro h)|refine⟨_,rfl,?_⟩|((with_reducible show _=_);rfl))
    all_goals try((with_reducible refine Obl.mk ?_);exact KO)
    all_goals try(exfalso;have h':=of_decide_eq_true h;omega)
    conv=>whnf
    refine⟨a,a+z,rfl,hw2,by omega,by omega,?_⟩
    cases hds:(disasm ((code.take (a+z)).drop a)).isSome with
    | false=>
     rw[hds]at hr hD
     repeat' ((conv=>whnf);first|refine Or.inl ?_|apply oi|(apply fi<;>intro h)|refine ci hD (ai rfl trivial) ?_|refine⟨_,rfl,?_⟩|((with_reducible show _=_);rfl))
     all_goals try((with_reducible refine Obl.mk ?_);exact KO)
     all_goals first
      | exact⟨by rw[←hr];simp⟩
      |(exfalso;simp at h;done)
    | true=>
     rw[hds]at hr hD
     repeat' ((conv=>whnf);first|refine Or.inl ?_|apply oi|(apply fi<;>intro h)|refine ci hD (ai rfl trivial) ?_|refine⟨_,rfl,?_⟩|((with_reducible show _=_);rfl))
     all_goals try((with_reducible refine Obl.mk ?_);exact KO)
     all_goals try(exfalso;simp at h;done)
     conv=>whnf
     refine⟨⟨(j+1,a+z),by dsimp only;omega,by dsimp only;omega,by simpa using hr⟩,?_,by dsimp only;omega⟩
     repeat' ((conv=>whnf);first|refine Or.inl ?_|apply oi|(apply fi<;>intro h)|refine⟨_,rfl,?_⟩|((with_reducible show _=_);rfl))
     all_goals try((with_reducible refine Obl.mk ?_);exact KO)
     all_goals first
      | exact⟨by dsimp only;rw[hw2]⟩
      | exact⟨by dsimp only;rw[IntWalk.i64_in _ (by omega)];rfl⟩
 ·have hge:l.length≤k:=by omega
  rw[List.drop_eq_nil_of_le hge,imgOkF]at hr
  repeat' ((conv=>whnf);first|refine Or.inl ?_|apply oi|(apply fi<;>intro h)|refine⟨_,rfl,?_⟩|((with_reducible show _=_);rfl))
  all_goals try((with_reducible refine Obl.mk ?_);exact KO)
  all_goals try exact KX
  ·have h9:a=code.length:=by have:=eq_of_beq h;omega
   refine⟨congrArg Tr.bool ?_⟩
   rw[←hr,h9,beq_self_eq_true,Bool.and_true]
   exact decide_eq_decide.2 (by omega)
  ·have h9:(a==code.length)=false:=by rw[beq_eq_false_iff_ne]at h ⊢;omega
   refine⟨congrArg Tr.bool ?_⟩
   rw[←hr,h9,Bool.and_false]
end Go.Proofs.YtjmplnfiabmalaaGreat
namespace Go.Proofs.YtjmplnfiabmalaaGreat
open Go.Sim
set_option maxRecDepth 100000
set_option maxHeartbeats 4000000
theorem imgOkF_mem {code:List UInt8}:∀{l:List TSymbol} {seen:List TSymbol} {a:Nat},imgOkF code seen a l=true→a≤code.length→∀x∈l,(a:Int)≤x.fStart∧1≤x.fSize∧x.fStart+x.fSize≤code.length
 | [],_,_,_,_,x,hx=>by cases hx
 | y::l,seen,a,h,ha,x,hx=>by
  rw[imgOkF,Bool.and_eq_true,imgAt,Bool.and_eq_true,imgPre_iff]at h
  obtain⟨⟨⟨p1,p2,p3,_⟩,_⟩,h2⟩:=h
  rcases List.mem_cons.1 hx with rfl|hx
  ·omega
  ·have:=imgOkF_mem h2 (by omega) x hx
   omega
theorem imgOkF_hit {code:List UInt8}:∀{l:List TSymbol} {seen:List TSymbol} {a j k:Nat} {x:TSymbol},imgOkF code seen a l=true→a≤code.length→code.length≤1000000→l[k]?=some x→symAtF x.fStart l j=((j+k:Nat):Int)
 | [],_,_,_,_,_,_,_,_,hx=>by simp at hx
 | y::l,seen,a,j,k,x,h,ha,hc,hx=>by
  have hall:=imgOkF_mem h ha
  rw[imgOkF,Bool.and_eq_true,imgAt,Bool.and_eq_true,imgPre_iff]at h
  obtain⟨⟨⟨p1,p2,p3,_⟩,_⟩,h2⟩:=h
  rw[symAtF]
  match k,hx with
  | 0,hx=>
   rw[List.getElem?_cons_zero]at hx
   injection hx with hx
   subst hx
   have hh:symHit y.fStart y=true:=by
    unfold symHit
    rw[Bool.and_eq_true,Bool.and_eq_true,Bool.and_eq_true,within_iff,within_iff,decide_eq_true_eq,decide_eq_true_eq]
    omega
   rw[if_pos hh]
   rfl
  | k+1,hx=>
   rw[List.getElem?_cons_succ]at hx
   have h3:=imgOkF_mem h2 (by omega) x (List.mem_of_getElem? hx)
   have hh:¬symHit x.fStart y=true:=by
    unfold symHit
    rw[Bool.and_eq_true,Bool.and_eq_true,Bool.and_eq_true,within_iff,within_iff,decide_eq_true_eq,decide_eq_true_eq]
    omega
   rw[if_neg hh,imgOkF_hit h2 (by omega) hc hx]
   congr 1
   omega
def entryIn (i:TImage)(b e:Int):Bool:=i.fSymbols.any fun x=>b+x.fStart==e
def loc2 (i0 i1:TImage)(b0 b1 e:Int):Int×Int:=
 if b0≤e∧e < b0+i0.fCode.length then(0,e - b0)else if b1≤e∧e < b1+i1.fCode.length then(1,e - b1)else(-1,-1)
def startAt (i:TImage)(off:Int):Bool:=decide (0≤symbolAt i.fSymbols off) && (match i.fSymbols[(symbolAt i.fSymbols off).toNat]? with|some x=>x.fStart==off|none=>false)
theorem imageOk_iff {i:TImage}:imageOk i=true↔i.fCode.length≤1000000∧imgOkF i.fCode [] 0 i.fSymbols=true:=by
 rw[imageOk,Bool.and_eq_true,decide_eq_true_eq]
theorem startAt_iff {i:TImage}(h:imageOk i=true){off:Int}:startAt i off=true↔∃x∈i.fSymbols,x.fStart=off:=by
 obtain⟨hc,ho⟩:=imageOk_iff.1 h
 unfold startAt
 constructor
 ·intro h1
  rw[Bool.and_eq_true]at h1
  split at h1
  ·rename_i x hx
   exact⟨x,List.mem_of_getElem? hx,by simpa using h1.2⟩
  ·cases h1.2
 ·rintro⟨x,hx,rfl⟩
  obtain⟨k,hk⟩:=List.mem_iff_getElem?.1 hx
  have:=imgOkF_hit (j:=0) ho (by omega) hc hk
  rw[Nat.zero_add]at this
  rw[symbolAt,this,Int.toNat_natCast,hk]
  simp
def entryS (i0 i1:TImage)(b0 b1 e:Int):Bool:=
 if(loc2 i0 i1 b0 b1 e).1=0 then startAt i0 (loc2 i0 i1 b0 b1 e).2 else if(loc2 i0 i1 b0 b1 e).1=1 then startAt i1 (loc2 i0 i1 b0 b1 e).2 else false
def overlap (i0 i1:TImage)(b0 b1:Int):Bool:=decide (0 < i0.fCode.length) && (decide (0 < i1.fCode.length) && (decide (b0 < b1+i1.fCode.length) && decide (b1 < b0+i0.fCode.length)))
theorem entry_same {i0 i1:TImage}{b0 b1 e:Int}(h0:imageOk i0=true)(h1:imageOk i1=true)(ho:overlap i0 i1 b0 b1=false):entryS i0 i1 b0 b1 e=(entryIn i0 b0 e || entryIn i1 b1 e):=by
 have hno:¬(0 < i0.fCode.length∧0 < i1.fCode.length∧b0 < b1+i1.fCode.length∧b1 < b0+i0.fCode.length):=by
  intro⟨a,b,c,d⟩
  rw[overlap,decide_eq_true a,decide_eq_true b,decide_eq_true c,decide_eq_true d]at ho
  cases ho
 have m0:=imgOkF_mem (imageOk_iff.1 h0).2 (by omega)
 have m1:=imgOkF_mem (imageOk_iff.1 h1).2 (by omega)
 have e0:∀{i:TImage} {b:Int},entryIn i b e=true↔∃x∈i.fSymbols,b+x.fStart=e:=by
  intro i b
  rw[entryIn,List.any_eq_true]
  simp only[beq_iff_eq]
 rw[Bool.eq_iff_iff,Bool.or_eq_true,e0,e0,entryS,loc2]
 by_cases c0:b0≤e∧e < b0+i0.fCode.length
 ·rw[if_pos c0,if_pos rfl,startAt_iff h0]
  constructor
  ·rintro⟨x,hx,h⟩
   exact .inl ⟨x,hx,by dsimp only at h;omega⟩
  ·rintro(⟨x,hx,h⟩|⟨x,hx,h⟩)
   ·exact⟨x,hx,by dsimp only;omega⟩
   ·have:=m1 x hx
    exfalso;apply hno;omega
 ·rw[if_neg c0]
  by_cases c1:b1≤e∧e < b1+i1.fCode.length
  ·rw[if_pos c1,if_neg (by simp),if_pos rfl,startAt_iff h1]
   constructor
   ·rintro⟨x,hx,h⟩
    exact .inr ⟨x,hx,by dsimp only at h;omega⟩
   ·rintro(⟨x,hx,h⟩|⟨x,hx,h⟩)
    ·have:=m0 x hx
     exfalso;apply c0;omega
    ·exact⟨x,hx,by dsimp only;omega⟩
  ·rw[if_neg c1,if_neg (by decide),if_neg (by decide)]
   constructor
   ·intro h;cases h
   ·rintro(⟨x,hx,h⟩|⟨x,hx,h⟩)
    ·have:=m0 x hx
     exfalso;apply c0;omega
    ·have:=m1 x hx
     exfalso;apply c1;omega
def spaceOk2 (i0 i1:TImage)(b0 b1:Int)(es:List Int):Bool:=
 within es.length 1 6 && (imageOk i0 && (within b0 1 1000000 && (imageOk i1 && (within b1 1 1000000 && (!(overlap i0 i1 b0 b1) && es.all fun e=>entryIn i0 b0 e || entryIn i1 b1 e)))))
def spaceOk (s:TSpace):Bool:=match s.fImages,s.fBases with
 | [i0,i1],[b0,b1]=>spaceOk2 i0 i1 b0 b1 s.fEntries
 | _,_=>false
abbrev spBox (i0 i1:TImage)(b0 b1:Int)(es:List Int):List AC:=[.t (.lst 2 [i0.tr,i1.tr]),.t (.lst 1 [intRow b0,intRow b1]),.t (.lst 1 (es.map intRow))]
theorem s_impl_isEntry (i0 i1:TImage)(b0 b1 e:Int)(es:List Int)(h0:∀x∈i0.fSymbols,0≤x.fStart∧x.fStart≤1000000)(h1:∀x∈i1.fSymbols,0≤x.fStart∧x.fStart≤1000000)(hb0:0≤b0∧b0≤1000000)(hb1:0≤b1∧b1≤1000000)(hl0:i0.fSymbols.length≤1048576)(hl1:i1.fSymbols.length≤1048576):Sim.Spec Tryz.prog 102 [.agg (TSpace.mk [i0,i1] [b0,b1] es).tr,tvI e] (rB (entryIn i0 b0 e || entryIn i1 b1 e)):=by
 refine spec_of_W hΓ hmix Tryz.func102 rfl (by decide) rfl ?_
 repeat' ((conv=>whnf);first|refine Or.inl ?_|apply oi|(apply fi<;>intro h)|refine⟨_,rfl,?_⟩|((with_reducible show _=_);rfl))
 all_goals try((with_reducible refine Obl.mk ?_);exact KO)
 conv=>whnf
 refine⟨{k:Nat // k≤2∧(1≤k→entryIn i0 b0 e=false)∧(2≤k→entryIn i1 b1 e=false)},fun k=>⟨[(1,tI .i64 e),(2,.r (.c (.ptr (2,0,0) 0))),(10,.r (.c (.t (.lst 2 [i0.tr,i1.tr])))),(11,tI .i64 2),(12,tI .i64 (k.1:Int))],[((2,0,0),some (.box (spBox i0 i1 b0 b1 es)))],[2]⟩,fun k=>2 - k.1,⟨0,by omega,by omega,by omega⟩,?_,?_⟩
 ·skip
  repeat' ((conv=>whnf);first|refine Or.inl ?_|apply oi|(apply fi<;>intro h)|refine⟨_,rfl,?_⟩|((with_reducible show _=_);rfl))
  all_goals try((with_reducible refine Obl.mk ?_);exact KO)
 intro⟨k,hk,hk1,hk2⟩
 dsimp only
 by_cases hlt:k < 2
 ·obtain⟨i,b,hi,hb,hst,hbb,hll,hyes,hno⟩:∃(i:TImage) (b:Int),([i0.tr,i1.tr]:List (List Tr))[k]?=some i.tr∧([intRow b0,intRow b1]:List (List Tr))[k]?=some (intRow b)∧(∀x∈i.fSymbols,0≤x.fStart∧x.fStart≤1000000)∧(0≤b∧b≤1000000)∧i.fSymbols.length≤1048576∧
    (entryIn i b e=true→(entryIn i0 b0 e || entryIn i1 b1 e)=true)∧(entryIn i b e=false→(1≤k+1→entryIn i0 b0 e=false)∧(2≤k+1→entryIn i1 b1 e=false)):=by
   have:k=0∨k=1:=by omega
   rcases this with rfl|rfl
   ·exact⟨i0,b0,rfl,rfl,h0,hb0,hl0,fun h=>by rw[h];rfl,fun h=>⟨fun _=>h,fun h2=>by omega⟩⟩
   ·exact⟨i1,b1,rfl,rfl,h1,hb1,hl1,fun h=>by rw[h];simp,fun h=>⟨fun _=>hk1 (by omega),fun _=>h⟩⟩
  have hlen:(i.fSymbols.map TSymbol.tr).length=i.fSymbols.length:=by simp
  repeat' ((conv=>whnf);first|refine Or.inl ?_|apply oi|(apply fi<;>intro h)|refine⟨k,i.tr,rfl,hi,?_⟩|refine⟨_,rfl,?_⟩|((with_reducible show _=_);rfl))
  all_goals try((with_reducible refine Obl.mk ?_);exact KO)
  all_goals try(exfalso;have h':=of_decide_eq_false h;omega)
  conv=>whnf
  refine⟨{j:Nat // j≤i.fSymbols.length∧((i.fSymbols.take j).any fun x=>b+x.fStart==e)=false},fun j=>⟨[(1,tI .i64 e),(2,.r (.c (.ptr (2,0,0) 0))),(5,tI .i64 (k:Int)),(10,.r (.c (.t (.lst 2 [i0.tr,i1.tr])))),(11,tI .i64 2),(12,tI .i64 (k:Int)),(18,.r (.c (.t (.lst 3 (i.fSymbols.map TSymbol.tr))))),(19,tI .i64 ((i.fSymbols.map TSymbol.tr).length:Int)),(20,tI .i64 (j.1:Int))],[((2,0,0),some (.box (spBox i0 i1 b0 b1 es)))],[2]⟩,fun j=>i.fSymbols.length - j.1,⟨0,by omega,rfl⟩,?_,?_⟩
  ·skip
   repeat' ((conv=>whnf);first|refine Or.inl ?_|apply oi|(apply fi<;>intro h)|refine⟨_,rfl,?_⟩|((with_reducible show _=_);rfl))
   all_goals try((with_reducible refine Obl.mk ?_);exact KO)
  intro⟨j,hj,hr⟩
  dsimp only
  by_cases hjl:j < i.fSymbols.length
  ·obtain⟨x,hx⟩:=get_of_lt hjl
   have hxm:=List.mem_of_getElem? hx
   have hxs:=hst x hxm
   have hw1:IntKind.i64.wrap (b+x.fStart)=b+x.fStart:=IntWalk.i64_in _ (by omega)
   have hnext:((i.fSymbols.take (j+1)).any fun x=>b+x.fStart==e)=(b+x.fStart==e):=by
    obtain⟨hk',rfl⟩:=List.getElem?_eq_some_iff.1 hx
    rw[List.take_succ_eq_append_getElem hk',List.any_append,hr,Bool.false_or]
    simp
   cases hxe:(b+x.fStart==e)with
   | true=>
    have hall:=hyes (by rw[entryIn,List.any_eq_true];exact⟨x,hxm,hxe⟩)
    repeat' ((conv=>whnf);first|refine Or.inl ?_|apply oi|(apply fi<;>intro h)|refine⟨j,x.tr,rfl,map_get hx,?_⟩|refine⟨k,intRow b,rfl,hb,?_⟩|refine⟨_,rfl,?_⟩|((with_reducible show _=_);rfl))
    all_goals try((with_reducible refine Obl.mk ?_);exact KO)
    all_goals first
     |(exfalso;have h':=of_decide_eq_false h;rw[hlen]at h';omega)
     | exact⟨by rw[hall]⟩
     |(exfalso;rw[hw1,hxe]at h;simp at h;done)
   | false=>
    rw[hxe]at hnext
    repeat' ((conv=>whnf);first|refine Or.inl ?_|apply oi|(apply fi<;>intro h)|refine⟨j,x.tr,rfl,map_get hx,?_⟩|refine⟨k,intRow b,rfl,hb,?_⟩|refine⟨_,rfl,?_⟩|((with_reducible show _=_);rfl))
    all_goals try((with_reducible refine Obl.mk ?_);exact KO)
    all_goals try(exfalso;first|(have h':=of_decide_eq_false h;rw[hlen]at h';omega)|(rw[hw1,hxe]at h;simp at h;done))
    conv=>whnf
    refine⟨⟨j+1,by omega,hnext⟩,?_,by dsimp only;omega⟩
    repeat' ((conv=>whnf);first|refine Or.inl ?_|apply oi|(apply fi<;>intro h)|refine⟨_,rfl,?_⟩|((with_reducible show _=_);rfl))
    all_goals try((with_reducible refine Obl.mk ?_);exact KO)
    all_goals exact⟨by dsimp only;rw[IntWalk.i64_in _ (by omega)];rfl⟩
  ·have hjn:i.fSymbols.length≤j:=by omega
   rw[List.take_of_length_le hjn]at hr
   have hnx:=hno hr
   repeat' ((conv=>whnf);first|refine Or.inl ?_|apply oi|(apply fi<;>intro h)|refine⟨_,rfl,?_⟩|((with_reducible show _=_);rfl))
   all_goals try((with_reducible refine Obl.mk ?_);exact KO)
   all_goals try(exfalso;have h':=of_decide_eq_true h;rw[hlen]at h';omega)
   conv=>whnf
   refine⟨⟨k+1,by omega,hnx⟩,?_,by dsimp only;omega⟩
   repeat' ((conv=>whnf);first|refine Or.inl ?_|apply oi|(apply fi<;>intro h)|refine⟨_,rfl,?_⟩|((with_reducible show _=_);rfl))
   all_goals try((with_reducible refine Obl.mk ?_);exact KO)
   all_goals exact⟨by dsimp only;rw[IntWalk.i64_in _ (by omega)];rfl⟩
 ·have hk2':k=2:=by omega
  subst hk2'
  repeat' ((conv=>whnf);first|refine Or.inl ?_|apply oi|(apply fi<;>intro h)|refine⟨_,rfl,?_⟩|((with_reducible show _=_);rfl))
  all_goals try((with_reducible refine Obl.mk ?_);exact KO)
  all_goals exact⟨by rw[hk1 (by omega),hk2 (by omega)];rfl⟩
theorem s_impl_SpaceOk2 (i0 i1:TImage)(b0 b1:Int)(es:List Int)(hs:smallR 1048576 (TSpace.mk [i0,i1] [b0,b1] es).tr):Sim.Spec Tryz.prog 29 [.agg (TSpace.mk [i0,i1] [b0,b1] es).tr] (rB (spaceOk2 i0 i1 b0 b1 es)):=by
 refine spec_of_W hΓ hmix Tryz.func29 rfl (by decide) rfl ?_
 have hlen:(es.map intRow).length=es.length:=by simp
 have hE:=s_impl_between es.length 1 6
 unfold spaceOk2
 cases hw:within es.length 1 6 with
 | false=>
  rw[hw]at hE
  repeat' ((conv=>whnf);first|refine Or.inl ?_|apply oi|(apply fi<;>intro h)|refine ci hE (ai KW (ai rfl (ai rfl trivial))) ?_|refine⟨_,rfl,?_⟩|((with_reducible show _=_);rfl))
  all_goals try((with_reducible refine Obl.mk ?_);exact KO)
  all_goals(exfalso;simp at h;done)
 | true=>
  rw[hw]at hE
  repeat' ((conv=>whnf);first|refine Or.inl ?_|apply oi|(apply fi<;>intro h)|refine ci hE (ai KW (ai rfl (ai rfl trivial))) ?_|refine⟨_,rfl,?_⟩|((with_reducible show _=_);rfl))
  all_goals try((with_reducible refine Obl.mk ?_);exact KO)
  all_goals try(exfalso;simp at h;done)
  have hsp:=hs
  simp only[TSpace.tr,smallR]at hsp
  have hsI:=hsp.1
  have hi0:smallR 1048576 i0.tr:=smallRs_map hsI (by simp)
  have hi1:smallR 1048576 i1.tr:=smallRs_map hsI (by simp)
  have hc0:i0.fCode.length≤1048576:=by have:=hi0;simp only[TImage.tr,smallR,smallT]at this;omega
  have hc1:i1.fCode.length≤1048576:=by have:=hi1;simp only[TImage.tr,smallR,smallT]at this;omega
  have hsy0:i0.fSymbols.length≤1048576:=by have:=hi0;simp only[TImage.tr,smallR]at this;exact small_nat this.2.1
  have hsy1:i1.fSymbols.length≤1048576:=by have:=hi1;simp only[TImage.tr,smallR]at this;exact small_nat this.2.1
  have hel:es.length≤1048576:=small_nat hsp.2.2.1
  rw[Bool.true_and]
  generalize hR:(imageOk i0 && (within b0 1 1000000 && (imageOk i1 && (within b1 1 1000000 && (!(overlap i0 i1 b0 b1) && es.all fun e=>entryIn i0 b0 e || entryIn i1 b1 e)))))=R
  conv=>whnf
  refine⟨{k:Nat // k≤2∧(1≤k→imageOk i0=true∧within b0 1 1000000=true)∧(2≤k→imageOk i1=true∧within b1 1 1000000=true)},fun k=>⟨[(1,.r (.c (.ptr (1,0,0) 0))),(27,tI .i64 2),(28,tI .i64 (k.1:Int))],[((1,0,0),some (.box (spBox i0 i1 b0 b1 es)))],[1]⟩,fun k=>2 - k.1,⟨0,by omega,by omega,by omega⟩,?_,?_⟩
  ·skip
   repeat' ((conv=>whnf);first|refine Or.inl ?_|apply oi|(apply fi<;>intro h)|refine⟨_,rfl,?_⟩|((with_reducible show _=_);rfl))
   all_goals try((with_reducible refine Obl.mk ?_);exact KO)
  intro⟨k,hk,hk1,hk2⟩
  dsimp only
  by_cases hlt:k < 2
  ·obtain⟨i,b,hi,hb,hsi,hn1,hn2,hyes⟩:∃(i:TImage) (b:Int),([i0.tr,i1.tr]:List (List Tr))[k]?=some i.tr∧([intRow b0,intRow b1]:List (List Tr))[k]?=some (intRow b)∧smallR 1048576 i.tr∧
     (imageOk i=false→R=false)∧(within b 1 1000000=false→R=false)∧(imageOk i=true→within b 1 1000000=true→(1≤k+1→imageOk i0=true∧within b0 1 1000000=true)∧(2≤k+1→imageOk i1=true∧within b1 1 1000000=true)):=by
    have:k=0∨k=1:=by omega
    rcases this with rfl|rfl
    ·exact⟨i0,b0,rfl,rfl,hi0,fun h=>by rw[←hR,h];rfl,fun h=>by rw[←hR,h];simp,fun h h'=>⟨fun _=>⟨h,h'⟩,fun h2=>by omega⟩⟩
    ·exact⟨i1,b1,rfl,rfl,hi1,fun h=>by rw[←hR,h];simp,fun h=>by rw[←hR,h];simp,fun h h'=>⟨fun _=>hk1 (by omega),fun _=>⟨h,h'⟩⟩⟩
   have hI:=s_impl_ImageOk i hsi
   have hB:=s_impl_between b 1 1000000
   cases hio:imageOk i with
   | false=>
    rw[hio]at hI
    rw[hn1 hio]
    repeat' ((conv=>whnf);first|refine Or.inl ?_|apply oi|(apply fi<;>intro h)|refine⟨k,i.tr,rfl,hi,?_⟩|refine ci hI (ai (ai rfl (ai rfl trivial)) trivial) ?_|refine⟨_,rfl,?_⟩|((with_reducible show _=_);rfl))
    all_goals try((with_reducible refine Obl.mk ?_);exact KO)
    all_goals(exfalso;first|(have h':=of_decide_eq_false h;omega)|(simp at h;done))
   | true=>
    rw[hio]at hI
    cases hbo:within b 1 1000000 with
    | false=>
     rw[hbo]at hB
     rw[hn2 hbo]
     repeat' ((conv=>whnf);first|refine Or.inl ?_|apply oi|(apply fi<;>intro h)|refine⟨k,i.tr,rfl,hi,?_⟩|refine⟨k,intRow b,rfl,hb,?_⟩|refine ci hI (ai (ai rfl (ai rfl trivial)) trivial) ?_|refine ci hB (ai rfl (ai rfl (ai rfl trivial))) ?_|refine⟨_,rfl,?_⟩|((with_reducible show _=_);rfl))
     all_goals try((with_reducible refine Obl.mk ?_);exact KO)
     all_goals(exfalso;first|(have h':=of_decide_eq_false h;omega)|(simp at h;done))
    | true=>
     rw[hbo]at hB
     repeat' ((conv=>whnf);first|refine Or.inl ?_|apply oi|(apply fi<;>intro h)|refine⟨k,i.tr,rfl,hi,?_⟩|refine⟨k,intRow b,rfl,hb,?_⟩|refine ci hI (ai (ai rfl (ai rfl trivial)) trivial) ?_|refine ci hB (ai rfl (ai rfl (ai rfl trivial))) ?_|refine⟨_,rfl,?_⟩|((with_reducible show _=_);rfl))
     all_goals try((with_reducible refine Obl.mk ?_);exact KO)
     all_goals try(exfalso;first|(have h':=of_decide_eq_false h;omega)|(simp at h;done))
     conv=>whnf
     refine⟨⟨k+1,by omega,hyes hio hbo⟩,?_,by dsimp only;omega⟩
     repeat' ((conv=>whnf);first|refine Or.inl ?_|apply oi|(apply fi<;>intro h)|refine⟨_,rfl,?_⟩|((with_reducible show _=_);rfl))
     all_goals try((with_reducible refine Obl.mk ?_);exact KO)
     all_goals exact⟨by dsimp only;rw[IntWalk.i64_in _ (by omega)];rfl⟩
  ·have hk2':k=2:=by omega
   subst hk2'
   obtain⟨g0,w0⟩:=hk1 (by omega)
   obtain⟨g1,w1⟩:=hk2 (by omega)
   have v0:=within_iff.1 w0
   have v1:=within_iff.1 w1
   rw[g0,g1,w0,w1,Bool.true_and,Bool.true_and,Bool.true_and,Bool.true_and]at hR
   have x0:IntKind.i64.wrap (b1+(i1.fCode.length:Int))=b1+i1.fCode.length:=IntWalk.i64_in _ (by omega)
   have x1:IntKind.i64.wrap (b0+(i0.fCode.length:Int))=b0+i0.fCode.length:=IntWalk.i64_in _ (by omega)
   cases ho:overlap i0 i1 b0 b1 with
   | true=>
    rw[ho]at hR
    rw[overlap,Bool.and_eq_true,Bool.and_eq_true,Bool.and_eq_true,decide_eq_true_eq,decide_eq_true_eq,decide_eq_true_eq,decide_eq_true_eq]at ho
    obtain⟨o1,o2,o3,o4⟩:=ho
    subst hR
    repeat' ((conv=>whnf);first|refine Or.inl ?_|apply oi|(apply fi<;>intro h)|refine⟨0,_,rfl,rfl,?_⟩|refine⟨1,_,rfl,rfl,?_⟩|refine⟨_,rfl,?_⟩|((with_reducible show _=_);rfl))
    all_goals try((with_reducible refine Obl.mk ?_);exact KO)
    all_goals(exfalso;first|(have h':=of_decide_eq_false h;(try rw[x0]at h');(try rw[x1]at h');omega)|(have h':=of_decide_eq_true h;omega))
   | false=>
    rw[ho,Bool.not_false,Bool.true_and]at hR
    have hno:¬(0 < i0.fCode.length∧0 < i1.fCode.length∧b0 < b1+i1.fCode.length∧b1 < b0+i0.fCode.length):=by
     intro⟨a,b,c,d⟩
     rw[overlap,decide_eq_true a,decide_eq_true b,decide_eq_true c,decide_eq_true d]at ho
     cases ho
    have m0:=imgOkF_mem (imageOk_iff.1 g0).2 (by omega)
    have m1:=imgOkF_mem (imageOk_iff.1 g1).2 (by omega)
    have l0:=(imageOk_iff.1 g0).1
    have l1:=(imageOk_iff.1 g1).1
    repeat' ((conv=>whnf);first|refine Or.inl ?_|apply oi|(apply fi<;>intro h)|refine⟨0,_,rfl,rfl,?_⟩|refine⟨1,_,rfl,rfl,?_⟩|refine⟨_,rfl,?_⟩|((with_reducible show _=_);rfl))
    all_goals try((with_reducible refine Obl.mk ?_);exact KO)
    all_goals try(
     exfalso
     rename_i a1 a2 a3
     have c1:=of_decide_eq_true a1
     have c2:=of_decide_eq_true a2
     have c3:=of_decide_eq_true a3
     have c4:=of_decide_eq_true h
     rw[x0]at c3
     rw[x1]at c4
     exact hno ⟨by omega,by omega,c3,c4⟩)
    all_goals(
     conv=>whnf
     refine⟨{j:Nat // j≤es.length∧((es.drop j).all fun e=>entryIn i0 b0 e || entryIn i1 b1 e)=R},fun j=>⟨[(1,.r (.c (.ptr (1,0,0) 0))),(93,.r (.c (.t (.lst 1 (es.map intRow))))),(94,tI .i64 ((es.map intRow).length:Int)),(95,tI .i64 (j.1:Int))],[((1,0,0),some (.box (spBox i0 i1 b0 b1 es)))],[1]⟩,fun j=>es.length - j.1,⟨0,by omega,hR⟩,?_,?_⟩
     ·skip
      repeat' ((conv=>whnf);first|refine Or.inl ?_|apply oi|(apply fi<;>intro h)|refine⟨_,rfl,?_⟩|((with_reducible show _=_);rfl))
      all_goals try((with_reducible refine Obl.mk ?_);exact KO)
     intro⟨j,hj,hr⟩
     dsimp only
     by_cases hjl:j < es.length
     ·obtain⟨e,he⟩:=get_of_lt hjl
      have hEn:=s_impl_isEntry i0 i1 b0 b1 e es (fun x hx=>by have:=m0 x hx;omega) (fun x hx=>by have:=m1 x hx;omega) (by omega) (by omega) hsy0 hsy1
      rw[drop_at he,List.all_cons]at hr
      cases hee:(entryIn i0 b0 e || entryIn i1 b1 e)with
      | false=>
       rw[hee]at hEn hr
       rw[Bool.false_and]at hr
       subst hr
       repeat' ((conv=>whnf);first|refine Or.inl ?_|apply oi|(apply fi<;>intro h)|refine⟨j,intRow e,rfl,map_get he,?_⟩|refine ci hEn (ai (ai rfl (ai rfl (ai rfl trivial))) (ai rfl trivial)) ?_|refine⟨_,rfl,?_⟩|((with_reducible show _=_);rfl))
       all_goals try((with_reducible refine Obl.mk ?_);exact KO)
       all_goals(exfalso;first|(have h':=of_decide_eq_false h;rw[hlen]at h';omega)|(simp at h;done))
      | true=>
       rw[hee]at hEn hr
       rw[Bool.true_and]at hr
       repeat' ((conv=>whnf);first|refine Or.inl ?_|apply oi|(apply fi<;>intro h)|refine⟨j,intRow e,rfl,map_get he,?_⟩|refine ci hEn (ai (ai rfl (ai rfl (ai rfl trivial))) (ai rfl trivial)) ?_|refine⟨_,rfl,?_⟩|((with_reducible show _=_);rfl))
       all_goals try((with_reducible refine Obl.mk ?_);exact KO)
       all_goals try(exfalso;first|(have h':=of_decide_eq_false h;rw[hlen]at h';omega)|(simp at h;done))
       conv=>whnf
       refine⟨⟨j+1,by omega,hr⟩,?_,by dsimp only;omega⟩
       repeat' ((conv=>whnf);first|refine Or.inl ?_|apply oi|(apply fi<;>intro h)|refine⟨_,rfl,?_⟩|((with_reducible show _=_);rfl))
       all_goals try((with_reducible refine Obl.mk ?_);exact KO)
       all_goals exact⟨by dsimp only;rw[IntWalk.i64_in _ (by omega)];rfl⟩
     ·have hge:es.length≤j:=by omega
      rw[List.drop_eq_nil_of_le hge,List.all_nil]at hr
      subst hr
      repeat' ((conv=>whnf);first|refine Or.inl ?_|apply oi|(apply fi<;>intro h)|refine⟨_,rfl,?_⟩|((with_reducible show _=_);rfl))
      all_goals try((with_reducible refine Obl.mk ?_);exact KO)
      all_goals(exfalso;have h':=of_decide_eq_true h;rw[hlen]at h';omega))
end Go.Proofs.YtjmplnfiabmalaaGreat
namespace Go.Proofs.YtjmplnfiabmalaaGreat
open Go.Sim
set_option maxRecDepth 100000
set_option maxHeartbeats 4000000
theorem opByte_toNat (a:Int)(k:Nat):((opByte a k).toNat:Int)=(a / (2 ^ (8 * k))) % 256:=by
 unfold opByte
 rw[Int.fdiv_eq_ediv_of_nonneg _ (Int.pow_nonneg (by decide))]
 generalize a / 2 ^ (8 * k)=z
 have h1:=Int.emod_nonneg z (show(256:Int)≠0 by decide)
 have h2:=Int.emod_lt_of_pos z (show(0:Int) < 256 by decide)
 simp
 omega
theorem byteAt_pre (pre rest:List UInt8)(c:UInt8)(k:Nat)(m:List UInt8)(h:m[k]?=some c):byteAt (pre++m++rest) (pre.length+k)=c.toNat:=by
 have hk:=lt_of_get h
 unfold byteAt
 rw[List.append_assoc,List.getElem?_append_right (by omega),Nat.add_sub_cancel_left,List.getElem?_append_left hk,h]
theorem bytesN_get {a:Int}{n k:Nat}(h:k < n):(bytesN a n)[k]?=some (opByte a k):=by
 unfold bytesN
 rw[List.getElem?_map,List.getElem?_range h]
 rfl
theorem arg_back {c a:Int}(h:opOkB c a=true){s:List UInt8}{p:Nat}(hb:∀k,k < (opArg c).1.toNat→byteAt s (p+k)=(opByte a k).toNat):argV c (opArgN s p (opArg c).1.toNat)=a:=by
 unfold opOkB at h
 rw[Bool.and_eq_true,within_iff,within_iff]at h
 obtain⟨_,ha⟩:=h
 have hd:∀k,k < (opArg c).1.toNat→(byteAt s (p+k):Int)=(a / (2 ^ (8 * k))) % 256:=fun k hk=>by rw[hb k hk,opByte_toNat]
 have b0:0 < (opArg c).1.toNat→((opArgN s p 1:Nat):Int)=a % 256:=fun h=>by
  have d0:=hd 0 h
  rw[show(2:Int) ^ (8 * 0)=1 from rfl]at d0
  simp only[opArgN,Nat.pow_zero,Nat.mul_one,Nat.zero_add]
  omega
 have b1:1 < (opArg c).1.toNat→((opArgN s p 2:Nat):Int)=a % 65536:=fun h=>by
  have d0:=b0 (by omega)
  have d1:=hd 1 h
  rw[show(2:Int) ^ (8 * 1)=256 from rfl]at d1
  rw[opArgN,show(256:Nat) ^ 1=256 from rfl]
  omega
 have b2:2 < (opArg c).1.toNat→((opArgN s p 3:Nat):Int)=a % 16777216:=fun h=>by
  have d0:=b1 (by omega)
  have d1:=hd 2 h
  rw[show(2:Int) ^ (8 * 2)=65536 from rfl]at d1
  rw[opArgN,show(256:Nat) ^ 2=65536 from rfl]
  omega
 have b3:3 < (opArg c).1.toNat→((opArgN s p 4:Nat):Int)=a % 4294967296:=fun h=>by
  have d0:=b2 (by omega)
  have d1:=hd 3 h
  rw[show(2:Int) ^ (8 * 3)=16777216 from rfl]at d1
  rw[opArgN,show(256:Nat) ^ 3=16777216 from rfl]
  omega
 unfold argV
 rcases op_cases c with⟨e1,e2⟩|⟨e1,e2⟩|⟨e1,e2⟩|⟨e1,e2⟩|⟨e1,e2⟩
 ·rw[e1]at b3 ⊢
  rw[e2]at ha
  have b3:=b3 (by decide)
  have ha:-2147483648≤a∧a≤2147483647:=ha
  show(if(true:Bool)=true∧(2147483648:Nat)≤opArgN s p 4 then((opArgN s p 4:Nat):Int) - ((4294967296:Nat):Int)else((opArgN s p 4:Nat):Int))=a
  split
  ·rename_i hc;have:=hc.2;omega
  ·rename_i hc;have:¬(2147483648≤opArgN s p 4):=fun h=>hc ⟨rfl,h⟩;omega
 ·rw[e1]at b1 ⊢
  rw[e2]at ha
  have b1:=b1 (by decide)
  have ha:-32768≤a∧a≤32767:=ha
  show(if(true:Bool)=true∧(32768:Nat)≤opArgN s p 2 then((opArgN s p 2:Nat):Int) - ((65536:Nat):Int)else((opArgN s p 2:Nat):Int))=a
  split
  ·rename_i hc;have:=hc.2;omega
  ·rename_i hc;have:¬(32768≤opArgN s p 2):=fun h=>hc ⟨rfl,h⟩;omega
 ·rw[e1]at b1 ⊢
  rw[e2]at ha
  have b1:=b1 (by decide)
  have ha:0≤a∧a≤65535:=ha
  rw[if_neg (by simp)]
  show((opArgN s p 2:Nat):Int)=a
  omega
 ·rw[e1]at b0 ⊢
  rw[e2]at ha
  have b0:=b0 (by decide)
  have ha:0≤a∧a≤255:=ha
  rw[if_neg (by simp)]
  show((opArgN s p 1:Nat):Int)=a
  omega
 ·rw[e1]
  rw[e2]at ha
  have ha:0≤a∧a≤0:=ha
  rw[if_neg (by simp)]
  show((0:Nat):Int)=a
  omega
theorem encodeOp_eq {x:TOp}(h:opOkB x.fCode x.fArg=true):encodeOp x=UInt8.ofNat x.fCode.toNat::bytesN x.fArg (opArg x.fCode).1.toNat:=by rw[encodeOp,if_pos h]
theorem decode_at {x:TOp}(h:opOkB x.fCode x.fArg=true)(pre rest:List UInt8):decodeOp (pre++encodeOp x++rest) (pre.length:Int)=some (x,(opSize x.fCode).toNat):=by
 have hc:0≤x.fCode∧x.fCode≤17:=by
  unfold opOkB at h
  rw[Bool.and_eq_true,within_iff,within_iff]at h
  exact h.1
 have hlen:=encodeOp_len h
 have hle:=opArg_le x.fCode
 have hz:opSize x.fCode=(opArg x.fCode).1+1:=by rw[opSize,if_pos (within_iff.2 hc)]
 have hb0:((byteAt (pre++encodeOp x++rest) pre.length:Nat):Int)=x.fCode:=by
  have:=byteAt_pre pre rest (UInt8.ofNat x.fCode.toNat) 0 (encodeOp x) (by rw[encodeOp_eq h];rfl)
  rw[Nat.add_zero]at this
  rw[this]
  simp
  omega
 have hbk:∀k,k < (opArg x.fCode).1.toNat→byteAt (pre++encodeOp x++rest) (pre.length+1+k)=(opByte x.fArg k).toNat:=fun k hk=>by
  have:=byteAt_pre pre rest (opByte x.fArg k) (k+1) (encodeOp x) (by rw[encodeOp_eq h,List.getElem?_cons_succ];exact bytesN_get hk)
  rw[show pre.length+1+k=pre.length+(k+1) by omega]
  exact this
 have hav:=arg_back h hbk
 have hsl:(pre++encodeOp x++rest).length=pre.length+(encodeOp x).length+rest.length:=by simp;omega
 generalize pre++encodeOp x++rest=s at *
 rw[decodeOp,if_pos ⟨by omega,by omega⟩,Int.toNat_natCast,hb0,if_neg (by omega),hav]
theorem decode_code {l:List TPlace}(h:∀y∈l,opOkB y.fItem.fOp.fCode y.fItem.fOp.fArg=true){k:Nat}{y:TPlace}(hy:l[k]?=some y)(pre rest:List UInt8):decodeOp (pre++codeOf l++rest) (((pre++codeOf (l.take k)).length:Nat):Int)=some (y.fItem.fOp,(opSize y.fItem.fOp.fCode).toNat):=by
 have e:l=l.take k++(y::l.drop (k+1)):=by rw[←drop_at hy,List.take_append_drop]
 have e2:codeOf l=codeOf (l.take k)++(encodeOp y.fItem.fOp++codeOf (l.drop (k+1))):=by
  conv=>lhs;rw[e]
  rw[codeOf_append,show y::l.drop (k+1)=[y]++l.drop (k+1) from rfl,codeOf_append,codeOf_one]
 have:=decode_at (h y (List.mem_of_getElem? hy)) (pre++codeOf (l.take k)) (codeOf (l.drop (k+1))++rest)
 rw[e2]
 simpa [List.append_assoc]using this
theorem disasm_code:∀{l:List TPlace} (pre:List UInt8),(∀y∈l,opOkB y.fItem.fOp.fCode y.fItem.fOp.fArg=true)→disF (pre++codeOf l) ((pre++codeOf l).length - pre.length) pre.length=some (l.map fun y=>y.fItem.fOp)
 | [],pre,_=>by
  rw[show codeOf []=[] from rfl,List.append_nil]
  exact disF_end (Nat.le_refl _)
 | y::l,pre,h=>by
  have hy:=h y (by simp)
  have hlen:=encodeOp_len hy
  have hle:=opArg_le y.fItem.fOp.fCode
  have hc:within y.fItem.fOp.fCode 0 17=true:=by
   unfold opOkB at hy
   rw[Bool.and_eq_true]at hy
   exact hy.1
  have hz:opSize y.fItem.fOp.fCode=(opArg y.fItem.fOp.fCode).1+1:=by rw[opSize,if_pos hc]
  have e:codeOf (y::l)=encodeOp y.fItem.fOp++codeOf l:=by rw[show y::l=[y]++l from rfl,codeOf_append,codeOf_one]
  have ih:=disasm_code (l:=l) (pre++encodeOp y.fItem.fOp) (fun z hz=>h z (by simp[hz]))
  have hd:=decode_at hy pre (codeOf l)
  rw[List.append_assoc]at hd ih
  have hl2:(pre++(encodeOp y.fItem.fOp++codeOf l)).length=pre.length+(encodeOp y.fItem.fOp).length+(codeOf l).length:=by simp;omega
  have hl3:(pre++encodeOp y.fItem.fOp).length=pre.length+(opSize y.fItem.fOp.fCode).toNat:=by rw[List.length_append];omega
  rw[e,disF_step (by omega),hd]
  dsimp only
  rw[hl3]at ih
  rw[ih]
  rfl
theorem disasm_some {l:List TPlace}(h:∀y∈l,opOkB y.fItem.fOp.fCode y.fItem.fOp.fArg=true):(disasm (codeOf l)).isSome=true:=by
 have:=disasm_code [] h
 rw[List.nil_append]at this
 have e:disasm (codeOf l)=some (l.map fun y=>y.fItem.fOp):=by
  unfold disasm
  simpa using this
 rw[e];rfl
theorem funsF_sorted:∀(l:List TLine) (i:Nat),(funsF l i).Pairwise (· < ·)
 | [],_=>by rw[funsF];exact List.Pairwise.nil
 | x::l,i=>by
  have ih:=funsF_sorted l (i+1)
  rw[funsF]
  split
  ·refine List.pairwise_append.2 ⟨List.pairwise_singleton _ _,ih,fun a ha b hb=>?_⟩
   rw[List.mem_singleton]at ha
   have:=(funsF_lt hb).1
   omega
  ·rw[List.nil_append];exact ih
theorem funs_inj {p:List TLine}{f g k:Nat}(hf:(funs p)[f]?=some k)(hg:(funs p)[g]?=some k):f=g:=by
 have hs:=List.pairwise_iff_getElem.1 (funsF_sorted p 0)
 obtain⟨h1,e1⟩:=List.getElem?_eq_some_iff.1 hf
 obtain⟨h2,e2⟩:=List.getElem?_eq_some_iff.1 hg
 rcases Nat.lt_trichotomy f g with h|h|h
 ·have:=hs f g h1 h2 h
  change(funs p)[f] < (funs p)[g]at this
  rw[e1,e2]at this
  omega
 ·exact h
 ·have:=hs g f h2 h1 h
  change(funs p)[g] < (funs p)[f]at this
  rw[e1,e2]at this
  omega
theorem fun_name {p:List TLine}(h:programOk p=true){f k:Nat}(hf:(funs p)[f]?=some k):∃y,p[k]?=some y∧y.fKind=0∧nameOf p f=y.fName∧nameOk y.fName=true∧findN p 0 y.fName=some k:=by
 unfold programOk at h
 simp only[Bool.and_eq_true,decide_eq_true_eq]at h
 obtain⟨_,_,h3,_,h5,_⟩:=h
 obtain⟨_,y,hy,h0⟩:=funs_lt (List.mem_of_getElem? hf)
 have hl:=List.all_eq_true.1 h3 y (List.mem_of_getElem? hy)
 have hn:=List.all_eq_true.1 h5 k (List.mem_of_getElem? hf)
 refine⟨y,hy,h0,by rw[nameOf,hf];dsimp only;rw[hy],?_,?_⟩
 ·unfold lineOk at hl
  simp only[Bool.and_eq_true]at hl
  have:=hl.2.1
  rwa [if_pos (.inl h0)]at this
 ·unfold nameFirst at hn
  rw[hy]at hn
  exact eq_of_beq hn
theorem name_inj {p:List TLine}(h:programOk p=true){f g:Nat}(hf:f < (funs p).length)(hg:g < (funs p).length)(he:nameOf p f=nameOf p g):f=g:=by
 obtain⟨k,hk⟩:=get_of_lt hf
 obtain⟨j,hj⟩:=get_of_lt hg
 obtain⟨_,_,_,e1,_,f1⟩:=fun_name h hk
 obtain⟨_,_,_,e2,_,f2⟩:=fun_name h hj
 rw[e1,e2]at he
 rw[he,f2]at f1
 injection f1 with f1
 subst f1
 exact funs_inj hk hj
theorem imgOk_syms {p:List TLine}:∀(L:List (Nat×List TPlace)) (pre post:List UInt8) (seen:List TSymbol),
  (∀x∈L,0 < (codeOf x.2).length∧(∀y∈x.2,opOkB y.fItem.fOp.fCode y.fItem.fOp.fArg=true)∧nameOk (nameOf p x.1)=true)→L.Pairwise (fun x y=>nameOf p x.1≠nameOf p y.1)→(∀x∈L,∀y∈seen,y.fName≠nameOf p x.1)→post=[]→
  imgOkF (pre++codeOf (allPl L)++post) seen pre.length (symsOf p pre.length L)=true
 | [],pre,post,seen,_,_,_,hp=>by subst hp;simp[symsOf,imgOkF,allPl,codeOf]
 |(f,l)::L,pre,post,seen,h1,h2,h3,hp=>by
  subst hp
  obtain⟨q1,q2,q3⟩:=h1 (f,l) (by simp)
  dsimp only at q1 q2 q3
  have e:codeOf (allPl ((f,l)::L))=codeOf l++codeOf (allPl L):=by rw[show allPl ((f,l)::L)=l++allPl L by simp[allPl],codeOf_append]
  rw[List.pairwise_cons]at h2
  rw[e,List.append_nil,symsOf,imgOkF,Bool.and_eq_true]
  constructor
  ·unfold imgAt
   rw[Bool.and_eq_true,Bool.and_eq_true]
   refine⟨imgPre_iff.2 ⟨rfl,by dsimp only;omega,by dsimp only;simp;omega,q3⟩,?_,?_⟩
   ·rw[Bool.not_eq_true',seenName,List.any_eq_false]
    intro y hy
    have:=h3 (f,l) (by simp) y hy
    simpa using this
   ·dsimp only
    rw[Int.toNat_natCast]
    have e2:((pre++(codeOf l++codeOf (allPl L))).take (pre.length+(codeOf l).length)).drop pre.length=codeOf l:=by
     rw[←List.append_assoc,List.take_left' (by simp),List.drop_left]
    rw[e2]
    exact disasm_some q2
  ·dsimp only
   rw[Int.toNat_natCast]
   have ih:=imgOk_syms L (pre++codeOf l) [] (seen++[⟨nameOf p f,(pre.length:Int),((codeOf l).length:Int)⟩]) (fun x hx=>h1 x (by simp[hx])) h2.2 (fun x hx y hy=>by
    rcases List.mem_append.1 hy with hy|hy
    ·exact h3 x (by simp[hx]) y hy
    ·rw[List.mem_singleton]at hy
     subst hy
     exact h2.1 x hx) rfl
   rw[List.append_nil,List.length_append,List.append_assoc]at ih
   simpa using ih
theorem imgL_sorted {p:List TLine}{b:TBuild}{image:Int}:∀(n f:Nat) (at0:Int),(imgL p b image n f at0).Pairwise (fun x y=>x.1 < y.1)
 | 0,_,_=>by rw[imgL];exact List.Pairwise.nil
 | n+1,f,at0=>by
  rw[imgL_step]
  split
  ·refine List.pairwise_cons.2 ⟨fun y hy=>?_,imgL_sorted n _ _⟩
   have:=(imgL_fun hy).1
   dsimp only
   omega
  ·exact imgL_sorted n _ _
theorem assemble_ok {p:List TLine}{b:TBuild}(hs:smallT 1048576 (.lst 4 (p.map TLine.tr)))(h1:programOk p=true)(h2:buildOk b=true){image:Int}(h3:within image 0 1=true):imageOk (assemble p b image)=true∧(assemble p b image).fCode.length≤75000:=by
 rw[assemble,if_pos ⟨h1,h2,h3⟩]
 obtain⟨h6,_⟩:=funs_six h1
 have hll:=imgL_len p b image (funs p).length 0 0
 have hlc:=fun x (hx:x∈imgL p b image (funs p).length 0 0)=>(imgL_cap hs hx).1
 have hlf:=fun x (hx:x∈imgL p b image (funs p).length 0 0)=>(imgL_fun hx).2
 have hso:=imgL_sorted (p:=p) (b:=b) (image:=image) (funs p).length 0 0
 have hat:∀x∈imgL p b image (funs p).length 0 0,0 < x.2.length∧∀y∈x.2,opOkB y.fItem.fOp.fCode y.fItem.fOp.fArg=true:=fun x hx=>by
  obtain⟨i,hi⟩:=List.mem_iff_getElem?.1 hx
  have hl:=(imgL_at hs h1 h2 (by omega) hi).2.2
  have ho:∀y∈x.2,opOkB y.fItem.fOp.fCode y.fItem.fOp.fArg=true:=fun y hy=>by
   obtain⟨j,hj⟩:=List.mem_iff_getElem?.1 hy
   exact(imgL_place hs h1 h2 hi hj).1.op
  exact⟨hl,ho⟩
 generalize imgL p b image (funs p).length 0 0=L at *
 have hal:=allPl_cap hlc (Nat.le_refl L.length)
 rw[List.take_of_length_le (Nat.le_refl _)]at hal
 have hal2:=Nat.mul_le_mul_left 2500 (show L.length≤6 by omega)
 have hcl:=codeOf_len (allPl L)
 refine⟨imageOk_iff.2 ⟨by dsimp only;omega,?_⟩,by dsimp only;omega⟩
 have:=imgOk_syms (p:=p) L [] [] [] (fun x hx=>?_) ?_ (fun x hx y hy=>by cases hy) rfl
 ·simpa using this
 ·obtain⟨q1,q2⟩:=hat x hx
  obtain⟨k,hk⟩:=get_of_lt (l:=funs p) (k:=x.1) (by have:=hlf x hx;omega)
  obtain⟨y,_,_,e,hn,_⟩:=fun_name h1 hk
  refine⟨?_,q2,by rw[e];exact hn⟩
  obtain⟨z,l',hz⟩:=List.exists_cons_of_length_pos q1
  rw[hz,show z::l'=[z]++l' from rfl,codeOf_append,codeOf_one,List.length_append]
  have hop:=q2 z (by rw[hz];simp)
  have:=encodeOp_len hop
  have h4:=opArg_le z.fItem.fOp.fCode
  have hc:within z.fItem.fOp.fCode 0 17=true:=by
   unfold opOkB at hop
   rw[Bool.and_eq_true]at hop
   exact hop.1
  rw[opSize,if_pos hc]at this
  omega
 ·refine hso.imp_of_mem fun{x y} hx hy hlt he=>?_
  have:=name_inj h1 (by have:=hlf x hx;omega) (by have:=hlf y hy;omega) he
  omega
end Go.Proofs.YtjmplnfiabmalaaGreat
namespace Go.Proofs.YtjmplnfiabmalaaGreat
open Go.Sim
set_option maxRecDepth 100000
set_option maxHeartbeats 4000000
def hits (nm:List UInt8)(b:Int)(l:List TSymbol):List Int:=(l.filter fun y=>y.fName==nm).map fun y=>IntKind.i64.wrap (b+y.fStart)
theorem hits_nil (nm:List UInt8)(b:Int):hits nm b []=[]:=rfl
theorem hits_snoc (nm:List UInt8)(b:Int)(l:List TSymbol)(y:TSymbol):hits nm b (l++[y])=hits nm b l++if(y.fName==nm)=true then [IntKind.i64.wrap (b+y.fStart)]else []:=by
 unfold hits
 rw[List.filter_append,List.map_append]
 congr 1
 split
 ·rename_i h;simp[h]
 ·rename_i h;simp[h]
theorem hits_take {nm:List UInt8}{b:Int}{l:List TSymbol}{k:Nat}{y:TSymbol}(h:l[k]?=some y):hits nm b (l.take (k+1))=hits nm b (l.take k)++if(y.fName==nm)=true then [IntKind.i64.wrap (b+y.fStart)]else []:=by
 rw[take_one h,hits_snoc]
theorem hits_len (nm:List UInt8)(b:Int)(l:List TSymbol):(hits nm b l).length≤l.length:=by
 unfold hits
 rw[List.length_map]
 exact List.length_filter_le _ _
def startIn (f:Nat):List (Nat×List TPlace)→Int→Option Int
 | [],_=>none
 | x::L,a=>if x.1=f then some a else startIn f L (a+(codeOf x.2).length)
theorem hits_none {p:List TLine}{nm:List UInt8}{b:Int}:∀(L:List (Nat×List TPlace)) (a:Int),(∀x∈L,nameOf p x.1≠nm)→hits nm b (symsOf p a L)=[]
 | [],_,_=>rfl
 |(g,l)::L,a,h=>by
  have h1:=h (g,l) (by simp)
  have ih:=hits_none (p:=p) (nm:=nm) (b:=b) L (a+(codeOf l).length) (fun x hx=>h x (by simp[hx]))
  unfold hits at ih ⊢
  rw[symsOf,List.filter_cons,if_neg (by simpa using h1)]
  exact ih
theorem hits_syms {p:List TLine}{b:Int}{f:Nat}:∀(L:List (Nat×List TPlace)) (a:Int),(∀x∈L,nameOf p x.1=nameOf p f→x.1=f)→L.Pairwise (fun x y=>x.1 < y.1)→
  hits (nameOf p f) b (symsOf p a L)=match startIn f L a with|some s=>[IntKind.i64.wrap (b+s)]|none=>[]
 | [],_,_,_=>rfl
 |(g,l)::L,a,h,hs=>by
  rw[List.pairwise_cons]at hs
  rw[startIn]
  by_cases hg:g=f
  ·subst hg
   rw[if_pos rfl]
   have hn:=hits_none (p:=p) (nm:=nameOf p g) (b:=b) L (a+(codeOf l).length) (fun x hx he=>by
    have h1:=h x (by simp[hx]) he
    have h2:=hs.1 x hx
    dsimp only at h2
    omega)
   unfold hits at hn ⊢
   rw[symsOf,List.filter_cons,if_pos (by simp),List.map_cons,hn]
  ·rw[if_neg hg]
   have ih:=hits_syms (p:=p) (b:=b) (f:=f) L (a+(codeOf l).length) (fun x hx=>h x (by simp[hx])) hs.2
   rw[←ih]
   unfold hits
   rw[symsOf,List.filter_cons,if_neg]
   simp only[beq_iff_eq]
   exact fun he=>hg (h (g,l) (by simp) he)
theorem startIn_some {f:Nat}:∀{L:List (Nat×List TPlace)} {a:Int},(∃x∈L,x.1=f)→∃s,startIn f L a=some s
 | [],_,⟨_,h,_⟩=>by cases h
 | x::L,a,⟨y,hy,he⟩=>by
  rw[startIn]
  split
  ·exact⟨_,rfl⟩
  ·rename_i hx
   rcases List.mem_cons.1 hy with rfl|hy
   ·exact absurd he hx
   ·exact startIn_some ⟨y,hy,he⟩
theorem startIn_none {f:Nat}:∀{L:List (Nat×List TPlace)} {a:Int},(∀x∈L,x.1≠f)→startIn f L a=none
 | [],_,_=>rfl
 | x::L,a,h=>by rw[startIn,if_neg (h x (by simp)),startIn_none fun y hy=>h y (by simp[hy])]
theorem startIn_at {f:Nat}:∀{L:List (Nat×List TPlace)} {a s:Int},startIn f L a=some s→∃i x,L[i]?=some x∧x.1=f∧s=a+((codeOf (allPl (L.take i))).length:Int)
 | [],_,_,h=>by rw[startIn]at h;cases h
 | x::L,a,s,h=>by
  rw[startIn]at h
  split at h
  ·injection h with h
   exact⟨0,x,rfl,by assumption,by subst h;simp[allPl,codeOf]⟩
  ·obtain⟨i,y,h1,h2,h3⟩:=startIn_at h
   refine⟨i+1,y,by simpa using h1,h2,?_⟩
   rw[List.take_succ_cons,show allPl (x::L.take i)=x.2++allPl (L.take i) by simp[allPl],codeOf_append,List.length_append]
   omega
theorem imgL_mem {p:List TLine}{b:TBuild}{image:Int}:∀{n f:Nat} {at0:Int} {g:Nat},(∃x∈imgL p b image n f at0,x.1=g)↔(f≤g∧g < f+n∧inImg b image g=true)
 | 0,f,at0,g=>by
  rw[imgL]
  constructor
  ·rintro⟨x,h,_⟩;cases h
  ·rintro⟨h1,h2,_⟩;omega
 | n+1,f,at0,g=>by
  rw[imgL_step]
  split
  ·rename_i hin
   constructor
   ·rintro⟨x,hx,he⟩
    rcases List.mem_cons.1 hx with rfl|hx
    ·dsimp only at he;subst he;exact⟨by omega,by omega,hin⟩
    ·have:=imgL_mem.1 ⟨x,hx,he⟩;exact⟨by omega,by omega,this.2.2⟩
   ·rintro⟨h1,h2,h3⟩
    by_cases hg:g=f
    ·exact⟨_,List.mem_cons_self ..,hg.symm⟩
    ·obtain⟨x,hx,he⟩:=(imgL_mem (p:=p) (at0:=endF at0 (compileF p f b)) (n:=n) (f:=f+1)).2 ⟨by omega,by omega,h3⟩
     exact⟨x,List.mem_cons_of_mem _ hx,he⟩
  ·rename_i hin
   constructor
   ·intro h
    have:=imgL_mem.1 h
    exact⟨by omega,by omega,this.2.2⟩
   ·rintro⟨h1,h2,h3⟩
    have hg:g≠f:=fun e=>by subst e;exact hin h3
    exact imgL_mem.2 ⟨by omega,by omega,h3⟩
noncomputable abbrev imL (p:List TLine) (b:TBuild) (image:Int):List (Nat×List TPlace):=imgL p b image (funs p).length 0 0
def imgNo (b:TBuild)(f:Nat):Int:=if b.fSplit=true then(f:Int) % 2 else 0
theorem inImg_iff {b:TBuild}{f:Nat}{image:Int}(h:image=0∨image=1):inImg b image f=true↔image=imgNo b f:=by
 unfold inImg imgNo
 split
 ·rw[beq_iff_eq];omega
 ·rw[beq_iff_eq]
def entS (p:List TLine)(b:TBuild)(i0 i1:TImage)(first second:Int)(f:Nat):List Int:=if imgNo b f=1 then hits (nameOf p f) second i1.fSymbols else hits (nameOf p f) first i0.fSymbols
def entsTo (F:Nat→List Int):Nat→List Int
 | 0=>[]
 | n+1=>entsTo F n++F n
noncomputable def startOf (p:List TLine) (b:TBuild) (f:Nat):Int:=(startIn f (imL p b (imgNo b f)) 0).getD 0
noncomputable def entryAt (p:List TLine) (b:TBuild) (first second:Int) (f:Nat):Int:=IntKind.i64.wrap ((if imgNo b f=1 then second else first)+startOf p b f)
theorem imgNo_01 (b:TBuild)(f:Nat):imgNo b f=0∨imgNo b f=1:=by unfold imgNo;split <;> omega
theorem hits_image {p:List TLine}{b:TBuild}(h1:programOk p=true)(h2:buildOk b=true){image:Int}(hi:image=0∨image=1){f:Nat}(hf:f < (funs p).length)(base:Int):
  hits (nameOf p f) base (assemble p b image).fSymbols=if imgNo b f=image then [IntKind.i64.wrap (base+startOf p b f)]else []:=by
 have h3:within image 0 1=true:=by rw[within_iff];omega
 rw[assemble,if_pos ⟨h1,h2,h3⟩]
 dsimp only
 rw[hits_syms _ _ (fun x hx he=>name_inj h1 (by have:=(imgL_fun hx).2;omega) hf he) (imgL_sorted _ _ _)]
 by_cases he:imgNo b f=image
 ·subst he
  obtain⟨s,hs⟩:=startIn_some (f:=f) (a:=0) ((imgL_mem (p:=p) (b:=b) (image:=imgNo b f) (n:=(funs p).length) (f:=0) (at0:=0) (g:=f)).2 ⟨by omega,by omega,(inImg_iff hi).2 rfl⟩)
  rw[hs,if_pos rfl,startOf,show imL p b (imgNo b f)=imgL p b (imgNo b f) (funs p).length 0 0 from rfl,hs]
  rfl
 ·rw[if_neg he,startIn_none fun x hx hxe=>?_]
  have:=(imgL_mem (g:=f)).1 ⟨x,hx,hxe⟩
  exact he ((inImg_iff hi).1 this.2.2).symm
theorem entS_eq {p:List TLine}{b:TBuild}(h1:programOk p=true)(h2:buildOk b=true){f:Nat}(hf:f < (funs p).length)(first second:Int):entS p b (assemble p b 0) (assemble p b 1) first second f=[entryAt p b first second f]:=by
 unfold entS entryAt
 rw[hits_image h1 h2 (.inr rfl) hf,hits_image h1 h2 (.inl rfl) hf]
 rcases imgNo_01 b f with e|e
 ·rw[e];rfl
 ·rw[e];rfl
theorem entsTo_eq {F:Nat→List Int}{G:Nat→Int}:∀{n:Nat},(∀f,f < n→F f=[G f])→entsTo F n=(List.range n).map G
 | 0,_=>rfl
 | n+1,h=>by rw[entsTo,entsTo_eq fun f hf=>h f (by omega),h n (by omega),List.range_succ,List.map_append];rfl
noncomputable def entries (p:List TLine) (b:TBuild) (first second:Int):List Int:=(List.range (funs p).length).map (entryAt p b first second)
noncomputable def candS (p:List TLine) (b:TBuild) (first second:Int):TSpace:=⟨[assemble p b 0,assemble p b 1],[first,second],entries p b first second⟩
noncomputable def loadS (p:List TLine) (b:TBuild) (first second:Int):Option TSpace:=if programOk p=true∧buildOk b=true∧spaceOk (candS p b first second)=true then some (candS p b first second)else none
def oSp (o:Option TSpace):TSpace:=match o with|some s=>s|none=>⟨[],[],[]⟩
end Go.Proofs.YtjmplnfiabmalaaGreat
namespace Go.Proofs.YtjmplnfiabmalaaGreat
open Go.Sim
set_option maxRecDepth 100000
set_option maxHeartbeats 4000000
theorem symsOf_start {p:List TLine}:∀(L:List (Nat×List TPlace)) (a:Int) (y:TSymbol),y∈symsOf p a L→a≤y.fStart∧y.fStart≤a+(codeOf (allPl L)).length
 | [],_,_,h=>by cases h
 |(f,l)::L,a,y,h=>by
  have e:((codeOf (allPl ((f,l)::L))).length:Int)=(codeOf l).length+(codeOf (allPl L)).length:=by
   rw[show allPl ((f,l)::L)=l++allPl L by simp[allPl],codeOf_append,List.length_append];simp
  rw[e]
  rw[symsOf]at h
  rcases List.mem_cons.1 h with rfl|h
  ·dsimp only;omega
  ·have:=symsOf_start L _ y h;omega
theorem assemble_start {p:List TLine}{b:TBuild}(hs:smallT 1048576 (.lst 4 (p.map TLine.tr)))(h1:programOk p=true)(h2:buildOk b=true){image:Int}(h3:within image 0 1=true){y:TSymbol}(hy:y∈(assemble p b image).fSymbols):0≤y.fStart∧y.fStart≤75000:=by
 have hl:=(assemble_ok hs h1 h2 h3).2
 rw[assemble,if_pos ⟨h1,h2,h3⟩]at hy hl
 have:=symsOf_start _ _ y hy
 dsimp only at hl
 omega
theorem funs_pos {p:List TLine}(h1:programOk p=true):1≤(funs p).length∧(funs p).length≤6:=by
 unfold programOk at h1
 simp only[Bool.and_eq_true,decide_eq_true_eq]at h1
 exact h1.2.1
theorem entryAt_in {p:List TLine}{b:TBuild}(hs:smallT 1048576 (.lst 4 (p.map TLine.tr)))(h1:programOk p=true)(h2:buildOk b=true){first second:Int}(hf:1≤first∧first≤1000000)(hse:1≤second∧second≤1000000){f:Nat}(hlt:f < (funs p).length):
  (imgNo b f=0∧∃y∈(assemble p b 0).fSymbols,first+y.fStart=entryAt p b first second f)∨(imgNo b f=1∧∃y∈(assemble p b 1).fSymbols,second+y.fStart=entryAt p b first second f):=by
 have key:∀(image base:Int),(image=0∨image=1)→1≤base∧base≤1000000→imgNo b f=image→∃y∈(assemble p b image).fSymbols,base+y.fStart=IntKind.i64.wrap (base+startOf p b f):=by
  intro image base hi hb he
  have hh:=hits_image h1 h2 hi hlt base
  rw[if_pos he]at hh
  have hm:IntKind.i64.wrap (base+startOf p b f)∈hits (nameOf p f) base (assemble p b image).fSymbols:=by rw[hh];simp
  unfold hits at hm
  obtain⟨y,hy,e⟩:=List.mem_map.1 hm
  have hy':=(List.mem_filter.1 hy).1
  have hr:=assemble_start hs h1 h2 (by rw[within_iff];omega) hy'
  refine⟨y,hy',?_⟩
  rw[←e,IntWalk.i64_in _ (by omega)]
 unfold entryAt
 rcases imgNo_01 b f with e|e
 ·rw[e]
  exact .inl ⟨rfl,by simpa using key 0 first(.inl rfl) hf e⟩
 ·rw[e]
  exact .inr ⟨rfl,by simpa using key 1 second (.inr rfl) hse e⟩
theorem spaceOk_cand {p:List TLine}{b:TBuild}(hs:smallT 1048576 (.lst 4 (p.map TLine.tr)))(h1:programOk p=true)(h2:buildOk b=true){first second:Int}(hf:1≤first∧first≤1000000)(hse:1≤second∧second≤1000000)(hno:overlap (assemble p b 0) (assemble p b 1) first second=false):spaceOk (candS p b first second)=true:=by
 have a0:=assemble_ok hs h1 h2 (image:=0) (by decide)
 have a1:=assemble_ok hs h1 h2 (image:=1) (by decide)
 have hl:=funs_pos h1
 show spaceOk2 (assemble p b 0) (assemble p b 1) first second (entries p b first second)=true
 unfold spaceOk2
 simp only[Bool.and_eq_true]
 refine⟨by rw[within_iff];simp[entries];omega,a0.1,within_iff.2 hf,a1.1,within_iff.2 hse,by rw[hno];rfl,?_⟩
 rw[List.all_eq_true]
 intro e he
 obtain⟨f,hfm,rfl⟩:=List.mem_map.1 he
 rw[List.mem_range]at hfm
 rw[Bool.or_eq_true]
 rcases entryAt_in hs h1 h2 hf hse hfm with⟨_,y,hy,e⟩|⟨_,y,hy,e⟩
 ·refine .inl ?_
  rw[entryIn,List.any_eq_true]
  exact⟨y,hy,by rw[beq_iff_eq];exact e⟩
 ·refine .inr ?_
  rw[entryIn,List.any_eq_true]
  exact⟨y,hy,by rw[beq_iff_eq];exact e⟩
theorem loadS_some {p:List TLine}{b:TBuild}(hs:smallT 1048576 (.lst 4 (p.map TLine.tr)))(h1:programOk p=true)(h2:buildOk b=true){first second:Int}(hf:1≤first∧first≤9000)(hse:100000≤second∧second≤1000000):loadS p b first second=some (candS p b first second):=by
 have a0:=assemble_ok hs h1 h2 (image:=0) (by decide)
 have hno:overlap (assemble p b 0) (assemble p b 1) first second=false:=by
  unfold overlap
  rw[show decide (second < first+((assemble p b 0).fCode.length:Int))=false from decide_eq_false (by have:=a0.2;omega),Bool.and_false,Bool.and_false,Bool.and_false]
 rw[loadS,if_pos ⟨h1,h2,spaceOk_cand hs h1 h2 (by omega) (by omega) hno⟩]
end Go.Proofs.YtjmplnfiabmalaaGreat
namespace Go.Proofs.YtjmplnfiabmalaaGreat
open Go.Sim
set_option maxRecDepth 100000
set_option maxHeartbeats 4000000
structure PsOk (P:List TPlace):Prop where
 at0:∀x:TPlace,P[0]?=some x→x.fOffset=0
 next:∀(k:Nat) (x y:TPlace),P[k]?=some x→P[k+1]?=some y→y.fOffset=x.fOffset+opSize x.fItem.fOp.fCode
 rng:∀(k:Nat) (x:TPlace),P[k]?=some x→0≤x.fOffset∧x.fOffset≤100000∧1≤opSize x.fItem.fOp.fCode∧opSize x.fItem.fOp.fCode≤5∧0≤x.fItem.fLine∧x.fItem.fLine≤59
 len:P.length≤15000
theorem opSize_pos {c a:Int}(h:opOkB c a=true):1≤opSize c∧opSize c≤5:=by
 unfold opOkB at h
 rw[Bool.and_eq_true]at h
 have:=opArg_le c
 rw[opSize,if_pos h.1]
 omega
theorem PsOk.lt {P:List TPlace}(h:PsOk P):∀{n k:Nat} {x y:TPlace},P[k]?=some x→P[k+n+1]?=some y→x.fOffset+opSize x.fItem.fOp.fCode≤y.fOffset
 | 0,k,x,y,hx,hy=>by have:=h.next k x y hx hy;omega
 | n+1,k,x,y,hx,hy=>by
  obtain⟨z,hz⟩:=get_of_lt (l:=P) (k:=k+n+1) (by have:=lt_of_get hy;omega)
  have h1:=h.lt hx hz
  have h2:=h.next (k+n+1) z y hz (by rw[show k+n+1+1=k+(n+1)+1 by omega];exact hy)
  have:=(h.rng _ z hz).2.2.1
  omega
end Go.Proofs.YtjmplnfiabmalaaGreat
namespace Go.Proofs.YtjmplnfiabmalaaGreat
open Go.Sim
set_option maxRecDepth 100000
set_option maxHeartbeats 4000000
abbrev rLoc (x:Int×Int):Res:= .tup [.c (.t (.int .i64 x.1)),.c (.t (.int .i64 x.2))]
theorem s_impl_locate (i0 i1:TImage)(b0 b1 e:Int)(es:List Int)(hb0:0≤b0∧b0≤1000000)(hb1:0≤b1∧b1≤1000000)(hl0:i0.fCode.length≤1048576)(hl1:i1.fCode.length≤1048576):Sim.Spec Tryz.prog 103 [.agg (TSpace.mk [i0,i1] [b0,b1] es).tr,tvI e] (rLoc (loc2 i0 i1 b0 b1 e)):=by
 refine spec_of_W hΓ hmix Tryz.func103 rfl (by decide) rfl ?_
 generalize hR:loc2 i0 i1 b0 b1 e=R
 repeat' ((conv=>whnf);first|refine Or.inl ?_|apply oi|(apply fi<;>intro h)|refine⟨_,rfl,?_⟩|((with_reducible show _=_);rfl))
 all_goals try((with_reducible refine Obl.mk ?_);exact KO)
 conv=>whnf
 refine⟨{k:Nat // k≤2∧(1≤k→¬(b0≤e∧e < b0+i0.fCode.length))∧(2≤k→¬(b1≤e∧e < b1+i1.fCode.length))},fun k=>⟨[(1,tI .i64 e),(2,.r (.c (.ptr (2,0,0) 0))),(9,.r (.c (.t (.lst 2 [i0.tr,i1.tr])))),(10,tI .i64 2),(11,tI .i64 (k.1:Int))],[((2,0,0),some (.box (spBox i0 i1 b0 b1 es)))],[2]⟩,fun k=>2 - k.1,⟨0,by omega,by omega,by omega⟩,?_,?_⟩
 ·skip
  repeat' ((conv=>whnf);first|refine Or.inl ?_|apply oi|(apply fi<;>intro h)|refine⟨_,rfl,?_⟩|((with_reducible show _=_);rfl))
  all_goals try((with_reducible refine Obl.mk ?_);exact KO)
 intro⟨k,hk,hk1,hk2⟩
 dsimp only
 by_cases hlt:k < 2
 ·obtain⟨i,b,hi,hb,hbb,hll,hyes,hno⟩:∃(i:TImage) (b:Int),([i0.tr,i1.tr]:List (List Tr))[k]?=some i.tr∧([intRow b0,intRow b1]:List (List Tr))[k]?=some (intRow b)∧(0≤b∧b≤1000000)∧i.fCode.length≤1048576∧
    (b≤e∧e < b+i.fCode.length→R=((k:Int),e - b))∧(¬(b≤e∧e < b+i.fCode.length)→(1≤k+1→¬(b0≤e∧e < b0+i0.fCode.length))∧(2≤k+1→¬(b1≤e∧e < b1+i1.fCode.length))):=by
   have:k=0∨k=1:=by omega
   rcases this with rfl|rfl
   ·exact⟨i0,b0,rfl,rfl,hb0,hl0,fun h=>by rw[←hR,loc2,if_pos h];rfl,fun h=>⟨fun _=>h,fun h2=>by omega⟩⟩
   ·exact⟨i1,b1,rfl,rfl,hb1,hl1,fun h=>by rw[←hR,loc2,if_neg (hk1 (by omega)),if_pos h];rfl,fun h=>⟨fun _=>hk1 (by omega),fun _=>h⟩⟩
  by_cases hin:b≤e∧e < b+i.fCode.length
  ·have hRR:=hyes hin
   have hws:IntKind.i64.wrap (e - b)=e - b:=IntWalk.i64_in _ (by omega)
   have hB:=s_impl_between e b (b+i.fCode.length - 1)
   rw[within_iff.2 ⟨hin.1,by omega⟩]at hB
   subst hRR
   repeat' ((conv=>whnf);first|refine Or.inl ?_|apply oi|(apply fi<;>intro h)|refine⟨k,i.tr,rfl,hi,?_⟩|refine⟨k,intRow b,rfl,hb,?_⟩|refine ci hB (ai rfl (ai rfl (ai KW trivial))) ?_|refine⟨_,rfl,?_⟩|((with_reducible show _=_);rfl))
   all_goals try((with_reducible refine Obl.mk ?_);exact KO)
   all_goals first
    |(exfalso;have h':=of_decide_eq_false h;omega)
    |(refine⟨congrArg (Tr.int _) ?_⟩;rw[hws])
  ·have hB:=s_impl_between e b (b+i.fCode.length - 1)
   have hwf:within e b (b+i.fCode.length - 1)=false:=by
    cases hw:within e b (b+i.fCode.length - 1)with
    | false=>rfl
    | true=>have:=within_iff.1 hw;exact absurd ⟨this.1,by omega⟩ hin
   rw[hwf]at hB
   repeat' ((conv=>whnf);first|refine Or.inl ?_|apply oi|(apply fi<;>intro h)|refine⟨k,i.tr,rfl,hi,?_⟩|refine⟨k,intRow b,rfl,hb,?_⟩|refine ci hB (ai rfl (ai rfl (ai KW trivial))) ?_|refine⟨_,rfl,?_⟩|((with_reducible show _=_);rfl))
   all_goals try((with_reducible refine Obl.mk ?_);exact KO)
   all_goals try(exfalso;have h':=of_decide_eq_false h;omega)
   all_goals conv=>whnf
   all_goals refine⟨⟨k+1,by omega,hno hin⟩,?_,by dsimp only;omega⟩
   repeat' ((conv=>whnf);first|refine Or.inl ?_|apply oi|(apply fi<;>intro h)|refine⟨_,rfl,?_⟩|((with_reducible show _=_);rfl))
   all_goals try((with_reducible refine Obl.mk ?_);exact KO)
   all_goals exact⟨by dsimp only;rw[IntWalk.i64_in _ (by omega)];rfl⟩
 ·have hk2':k=2:=by omega
  subst hk2'
  have hRR:R=(-1,-1):=by rw[←hR,loc2,if_neg (hk1 (by omega)),if_neg (hk2 (by omega))]
  subst hRR
  repeat' ((conv=>whnf);first|refine Or.inl ?_|apply oi|(apply fi<;>intro h)|refine⟨_,rfl,?_⟩|((with_reducible show _=_);rfl))
  all_goals try((with_reducible refine Obl.mk ?_);exact KO)
theorem s_spec_l10Locate (i0 i1:TImage)(b0 b1 e:Int)(es:List Int)(hb0:0≤b0∧b0≤1000000)(hb1:0≤b1∧b1≤1000000)(hl0:i0.fCode.length≤1048576)(hl1:i1.fCode.length≤1048576):Sim.Spec Tryz.prog 165 [.agg (TSpace.mk [i0,i1] [b0,b1] es).tr,tvI e] (rLoc (loc2 i0 i1 b0 b1 e)):=by
 refine spec_of_W hΓ hmix Tryz.func165 rfl (by decide) rfl ?_
 have h2:([i0.tr,i1.tr]:List (List Tr)).length=2:=rfl
 generalize hR:loc2 i0 i1 b0 b1 e=R
 repeat' ((conv=>whnf);first|refine Or.inl ?_|apply oi|(apply fi<;>intro h)|refine⟨_,rfl,?_⟩|((with_reducible show _=_);rfl))
 all_goals try((with_reducible refine Obl.mk ?_);exact KO)
 conv=>whnf
 refine⟨{k:Nat // k≤2∧(1≤k→¬(b0≤e∧e < b0+i0.fCode.length))∧(2≤k→¬(b1≤e∧e < b1+i1.fCode.length))},fun k=>⟨[(1,tI .i64 e),(2,.r (.c (.ptr (2,0,0) 0))),(6,tI .i64 (k.1:Int))],[((2,0,0),some (.box (spBox i0 i1 b0 b1 es)))],[2]⟩,fun k=>2 - k.1,⟨0,by omega,by omega,by omega⟩,?_,?_⟩
 ·skip
  repeat' ((conv=>whnf);first|refine Or.inl ?_|apply oi|(apply fi<;>intro h)|refine⟨_,rfl,?_⟩|((with_reducible show _=_);rfl))
  all_goals try((with_reducible refine Obl.mk ?_);exact KO)
 intro⟨k,hk,hk1,hk2⟩
 dsimp only
 by_cases hlt:k < 2
 ·obtain⟨i,b,hi,hb,hbb,hll,hyes,hno⟩:∃(i:TImage) (b:Int),([i0.tr,i1.tr]:List (List Tr))[k]?=some i.tr∧([intRow b0,intRow b1]:List (List Tr))[k]?=some (intRow b)∧(0≤b∧b≤1000000)∧i.fCode.length≤1048576∧
    (b≤e∧e < b+i.fCode.length→R=((k:Int),e - b))∧(¬(b≤e∧e < b+i.fCode.length)→(1≤k+1→¬(b0≤e∧e < b0+i0.fCode.length))∧(2≤k+1→¬(b1≤e∧e < b1+i1.fCode.length))):=by
   have:k=0∨k=1:=by omega
   rcases this with rfl|rfl
   ·exact⟨i0,b0,rfl,rfl,hb0,hl0,fun h=>by rw[←hR,loc2,if_pos h];rfl,fun h=>⟨fun _=>h,fun h2=>by omega⟩⟩
   ·exact⟨i1,b1,rfl,rfl,hb1,hl1,fun h=>by rw[←hR,loc2,if_neg (hk1 (by omega)),if_pos h];rfl,fun h=>⟨fun _=>hk1 (by omega),fun _=>h⟩⟩
  by_cases hin:b≤e∧e < b+i.fCode.length
  ·have hRR:=hyes hin
   have hws:IntKind.i64.wrap (e - b)=e - b:=IntWalk.i64_in _ (by omega)
   have hw3:IntKind.i64.wrap (b+(i.fCode.length:Int))=b+i.fCode.length:=IntWalk.i64_in _ (by omega)
   subst hRR
   repeat' ((conv=>whnf);first|refine Or.inl ?_|apply oi|(apply fi<;>intro h)|refine⟨k,i.tr,rfl,hi,?_⟩|refine⟨k,intRow b,rfl,hb,?_⟩|refine⟨_,rfl,?_⟩|((with_reducible show _=_);rfl))
   all_goals try((with_reducible refine Obl.mk ?_);exact KO)
   all_goals first
    |(exfalso;have h':=of_decide_eq_false h;(try rw[hw3]at h');(try rw[h2]at h');omega)
    |(refine⟨congrArg (Tr.int _) ?_⟩;rw[hws])
  ·have hw3:IntKind.i64.wrap (b+(i.fCode.length:Int))=b+i.fCode.length:=IntWalk.i64_in _ (by omega)
   repeat' ((conv=>whnf);first|refine Or.inl ?_|apply oi|(apply fi<;>intro h)|refine⟨k,i.tr,rfl,hi,?_⟩|refine⟨k,intRow b,rfl,hb,?_⟩|refine⟨_,rfl,?_⟩|((with_reducible show _=_);rfl))
   all_goals try((with_reducible refine Obl.mk ?_);exact KO)
   all_goals try(exfalso;first|(have h':=of_decide_eq_false h;rw[h2]at h';omega)|(rename_i a1;have c1:=of_decide_eq_true a1;have c2:=of_decide_eq_true h;rw[hw3]at c2;exact hin ⟨c1,c2⟩))
   all_goals conv=>whnf
   all_goals refine⟨⟨k+1,by omega,hno hin⟩,?_,by dsimp only;omega⟩
   repeat' ((conv=>whnf);first|refine Or.inl ?_|apply oi|(apply fi<;>intro h)|refine⟨_,rfl,?_⟩|((with_reducible show _=_);rfl))
   all_goals try((with_reducible refine Obl.mk ?_);exact KO)
   all_goals exact⟨by dsimp only;rw[IntWalk.i64_in _ (by omega)];rfl⟩
 ·have hk2':k=2:=by omega
  subst hk2'
  have hRR:R=(-1,-1):=by rw[←hR,loc2,if_neg (hk1 (by omega)),if_neg (hk2 (by omega))]
  subst hRR
  repeat' ((conv=>whnf);first|refine Or.inl ?_|apply oi|(apply fi<;>intro h)|refine⟨_,rfl,?_⟩|((with_reducible show _=_);rfl))
  all_goals try((with_reducible refine Obl.mk ?_);exact KO)
theorem space_shape {s:TSpace}:(∃i0 i1 b0 b1,s=⟨[i0,i1],[b0,b1],s.fEntries⟩)∨(spaceOk s=false∧¬(s.fImages.length=2∧s.fBases.length=2)):=by
 obtain⟨im,bs,es⟩:=s
 match im,bs with
 | [i0,i1],[b0,b1]=>exact .inl ⟨i0,i1,b0,b1,rfl⟩
 | [],_=>exact .inr ⟨rfl,by simp⟩
 | [_],_=>exact .inr ⟨rfl,by simp⟩
 | _::_::_::_,_=>exact .inr ⟨rfl,by simp⟩
 | [_,_],[]=>exact .inr ⟨rfl,by simp⟩
 | [_,_],[_]=>exact .inr ⟨rfl,by simp⟩
 | [_,_],_::_::_::_=>exact .inr ⟨rfl,by simp⟩
theorem s_impl_SpaceOk (s:TSpace)(hs:smallR 1048576 s.tr):Sim.Spec Tryz.prog 29 [.agg s.tr] (rB (spaceOk s)):=by
 rcases space_shape (s:=s)with⟨i0,i1,b0,b1,h⟩|⟨h,hn⟩
 ·rw[h]at hs ⊢
  exact s_impl_SpaceOk2 i0 i1 b0 b1 s.fEntries hs
 ·rw[h]
  have l1:(s.fImages.map TImage.tr).length=s.fImages.length:=by simp
  have l2:(s.fBases.map intRow).length=s.fBases.length:=by simp
  refine spec_of_W hΓ hmix Tryz.func29 rfl (by decide) rfl ?_
  repeat' ((conv=>whnf);first|refine Or.inl ?_|apply oi|(apply fi<;>intro h)|refine ci (s_impl_between _ _ _) (ai rfl (ai rfl (ai rfl trivial))) ?_|refine⟨_,rfl,?_⟩|((with_reducible show _=_);rfl))
  all_goals try((with_reducible refine Obl.mk ?_);exact KO)
  all_goals(exfalso;apply hn;(simp_all) <;> (constructor <;> omega))
theorem s_spec_SpaceOk2 (i0 i1:TImage)(b0 b1:Int)(es:List Int)(hs:smallR 1048576 (TSpace.mk [i0,i1] [b0,b1] es).tr):Sim.Spec Tryz.prog 95 [.agg (TSpace.mk [i0,i1] [b0,b1] es).tr] (rB (spaceOk2 i0 i1 b0 b1 es)):=by
 refine spec_of_W hΓ hmix Tryz.func95 rfl (by decide) rfl ?_
 have hlen:(es.map intRow).length=es.length:=by simp
 have hE:=s_spec_l01In es.length 1 6
 unfold spaceOk2
 cases hw:within es.length 1 6 with
 | false=>
  rw[hw]at hE
  repeat' ((conv=>whnf);first|refine Or.inl ?_|apply oi|(apply fi<;>intro h)|refine ci hE (ai KW (ai rfl (ai rfl trivial))) ?_|refine⟨_,rfl,?_⟩|((with_reducible show _=_);rfl))
  all_goals try((with_reducible refine Obl.mk ?_);exact KO)
  all_goals(exfalso;simp at h;done)
 | true=>
  rw[hw]at hE
  repeat' ((conv=>whnf);first|refine Or.inl ?_|apply oi|(apply fi<;>intro h)|refine ci hE (ai KW (ai rfl (ai rfl trivial))) ?_|refine⟨_,rfl,?_⟩|((with_reducible show _=_);rfl))
  all_goals try((with_reducible refine Obl.mk ?_);exact KO)
  all_goals try(exfalso;simp at h;done)
  have hsp:=hs
  simp only[TSpace.tr,smallR]at hsp
  have hsI:=hsp.1
  have hi0:smallR 1048576 i0.tr:=smallRs_map hsI (by simp)
  have hi1:smallR 1048576 i1.tr:=smallRs_map hsI (by simp)
  have hc0:i0.fCode.length≤1048576:=by have:=hi0;simp only[TImage.tr,smallR,smallT]at this;omega
  have hc1:i1.fCode.length≤1048576:=by have:=hi1;simp only[TImage.tr,smallR,smallT]at this;omega
  have hsy0:i0.fSymbols.length≤1048576:=by have:=hi0;simp only[TImage.tr,smallR]at this;exact small_nat this.2.1
  have hsy1:i1.fSymbols.length≤1048576:=by have:=hi1;simp only[TImage.tr,smallR]at this;exact small_nat this.2.1
  have hel:es.length≤1048576:=small_nat hsp.2.2.1
  rw[Bool.true_and]
  generalize hR:(imageOk i0 && (within b0 1 1000000 && (imageOk i1 && (within b1 1 1000000 && (!(overlap i0 i1 b0 b1) && es.all fun e=>entryIn i0 b0 e || entryIn i1 b1 e)))))=R
  conv=>whnf
  refine⟨{k:Nat // k≤2∧(1≤k→imageOk i0=true∧within b0 1 1000000=true)∧(2≤k→imageOk i1=true∧within b1 1 1000000=true)},fun k=>⟨[(1,.r (.c (.ptr (1,0,0) 0))),(3,tI .i64 (k.1:Int))],[((1,0,0),some (.box (spBox i0 i1 b0 b1 es)))],[1]⟩,fun k=>2 - k.1,⟨0,by omega,by omega,by omega⟩,?_,?_⟩
  ·skip
   repeat' ((conv=>whnf);first|refine Or.inl ?_|apply oi|(apply fi<;>intro h)|refine⟨_,rfl,?_⟩|((with_reducible show _=_);rfl))
   all_goals try((with_reducible refine Obl.mk ?_);exact KO)
  intro⟨k,hk,hk1,hk2⟩
  dsimp only
  by_cases hlt:k < 2
  ·obtain⟨i,b,hi,hb,hsi,hn1,hn2,hyes⟩:∃(i:TImage) (b:Int),([i0.tr,i1.tr]:List (List Tr))[k]?=some i.tr∧([intRow b0,intRow b1]:List (List Tr))[k]?=some (intRow b)∧smallR 1048576 i.tr∧
     (imageOk i=false→R=false)∧(within b 1 1000000=false→R=false)∧(imageOk i=true→within b 1 1000000=true→(1≤k+1→imageOk i0=true∧within b0 1 1000000=true)∧(2≤k+1→imageOk i1=true∧within b1 1 1000000=true)):=by
    have:k=0∨k=1:=by omega
    rcases this with rfl|rfl
    ·exact⟨i0,b0,rfl,rfl,hi0,fun h=>by rw[←hR,h];rfl,fun h=>by rw[←hR,h];simp,fun h h'=>⟨fun _=>⟨h,h'⟩,fun h2=>by omega⟩⟩
    ·exact⟨i1,b1,rfl,rfl,hi1,fun h=>by rw[←hR,h];simp,fun h=>by rw[←hR,h];simp,fun h h'=>⟨fun _=>hk1 (by omega),fun _=>⟨h,h'⟩⟩⟩
   have hI:=s_spec_ImageOk i hsi
   have hB:=s_spec_l01In b 1 1000000
   cases hio:imageOk i with
   | false=>
    rw[hio]at hI
    rw[hn1 hio]
    repeat' ((conv=>whnf);first|refine Or.inl ?_|apply oi|(apply fi<;>intro h)|refine⟨k,i.tr,rfl,hi,?_⟩|refine ci hI (ai (ai rfl (ai rfl trivial)) trivial) ?_|refine⟨_,rfl,?_⟩|((with_reducible show _=_);rfl))
    all_goals try((with_reducible refine Obl.mk ?_);exact KO)
    all_goals(exfalso;first|(have h':=of_decide_eq_false h;omega)|(simp at h;done))
   | true=>
    rw[hio]at hI
    cases hbo:within b 1 1000000 with
    | false=>
     rw[hbo]at hB
     rw[hn2 hbo]
     repeat' ((conv=>whnf);first|refine Or.inl ?_|apply oi|(apply fi<;>intro h)|refine⟨k,i.tr,rfl,hi,?_⟩|refine⟨k,intRow b,rfl,hb,?_⟩|refine ci hI (ai (ai rfl (ai rfl trivial)) trivial) ?_|refine ci hB (ai rfl (ai rfl (ai rfl trivial))) ?_|refine⟨_,rfl,?_⟩|((with_reducible show _=_);rfl))
     all_goals try((with_reducible refine Obl.mk ?_);exact KO)
     all_goals(exfalso;first|(have h':=of_decide_eq_false h;omega)|(simp at h;done))
    | true=>
     rw[hbo]at hB
     repeat' ((conv=>whnf);first|refine Or.inl ?_|apply oi|(apply fi<;>intro h)|refine⟨k,i.tr,rfl,hi,?_⟩|refine⟨k,intRow b,rfl,hb,?_⟩|refine ci hI (ai (ai rfl (ai rfl trivial)) trivial) ?_|refine ci hB (ai rfl (ai rfl (ai rfl trivial))) ?_|refine⟨_,rfl,?_⟩|((with_reducible show _=_);rfl))
     all_goals try((with_reducible refine Obl.mk ?_);exact KO)
     all_goals try(exfalso;first|(have h':=of_decide_eq_false h;omega)|(simp at h;done))
     conv=>whnf
     refine⟨⟨k+1,by omega,hyes hio hbo⟩,?_,by dsimp only;omega⟩
     repeat' ((conv=>whnf);first|refine Or.inl ?_|apply oi|(apply fi<;>intro h)|refine⟨_,rfl,?_⟩|((with_reducible show _=_);rfl))
     all_goals try((with_reducible refine Obl.mk ?_);exact KO)
     all_goals exact⟨by dsimp only;rw[IntWalk.i64_in _ (by omega)];rfl⟩
  ·have hk2':k=2:=by omega
   subst hk2'
   obtain⟨g0,w0⟩:=hk1 (by omega)
   obtain⟨g1,w1⟩:=hk2 (by omega)
   have v0:=within_iff.1 w0
   have v1:=within_iff.1 w1
   rw[g0,g1,w0,w1,Bool.true_and,Bool.true_and,Bool.true_and,Bool.true_and]at hR
   have x0:IntKind.i64.wrap (b1+(i1.fCode.length:Int))=b1+i1.fCode.length:=IntWalk.i64_in _ (by omega)
   have x1:IntKind.i64.wrap (b0+(i0.fCode.length:Int))=b0+i0.fCode.length:=IntWalk.i64_in _ (by omega)
   cases ho:overlap i0 i1 b0 b1 with
   | true=>
    rw[ho]at hR
    rw[overlap,Bool.and_eq_true,Bool.and_eq_true,Bool.and_eq_true,decide_eq_true_eq,decide_eq_true_eq,decide_eq_true_eq,decide_eq_true_eq]at ho
    obtain⟨o1,o2,o3,o4⟩:=ho
    subst hR
    repeat' ((conv=>whnf);first|refine Or.inl ?_|apply oi|(apply fi<;>intro h)|refine⟨0,_,rfl,rfl,?_⟩|refine⟨1,_,rfl,rfl,?_⟩|refine⟨_,rfl,?_⟩|((with_reducible show _=_);rfl))
    all_goals try((with_reducible refine Obl.mk ?_);exact KO)
    all_goals(exfalso;first|(have h':=of_decide_eq_false h;(try rw[x0]at h');(try rw[x1]at h');omega)|(have h':=of_decide_eq_true h;omega))
   | false=>
    rw[ho,Bool.not_false,Bool.true_and]at hR
    have hno:¬(0 < i0.fCode.length∧0 < i1.fCode.length∧b0 < b1+i1.fCode.length∧b1 < b0+i0.fCode.length):=by
     intro⟨a,b,c,d⟩
     rw[overlap,decide_eq_true a,decide_eq_true b,decide_eq_true c,decide_eq_true d]at ho
     cases ho
    have m0:=imgOkF_mem (imageOk_iff.1 g0).2 (by omega)
    have m1:=imgOkF_mem (imageOk_iff.1 g1).2 (by omega)
    have l0:=(imageOk_iff.1 g0).1
    have l1:=(imageOk_iff.1 g1).1
    repeat' ((conv=>whnf);first|refine Or.inl ?_|apply oi|(apply fi<;>intro h)|refine⟨0,_,rfl,rfl,?_⟩|refine⟨1,_,rfl,rfl,?_⟩|refine⟨_,rfl,?_⟩|((with_reducible show _=_);rfl))
    all_goals try((with_reducible refine Obl.mk ?_);exact KO)
    all_goals try(
     exfalso
     rename_i a1 a2 a3
     have c1:=of_decide_eq_true a1
     have c2:=of_decide_eq_true a2
     have c3:=of_decide_eq_true a3
     have c4:=of_decide_eq_true h
     rw[x0]at c3
     rw[x1]at c4
     exact hno ⟨by omega,by omega,c3,c4⟩)
    all_goals(
     conv=>whnf
     refine⟨{j:Nat // j≤es.length∧((es.drop j).all fun e=>entryIn i0 b0 e || entryIn i1 b1 e)=R},fun j=>⟨[(1,.r (.c (.ptr (1,0,0) 0))),(6,tI .i64 (j.1:Int))],[((1,0,0),some (.box (spBox i0 i1 b0 b1 es)))],[1]⟩,fun j=>es.length - j.1,⟨0,by omega,hR⟩,?_,?_⟩
     ·skip
      repeat' ((conv=>whnf);first|refine Or.inl ?_|apply oi|(apply fi<;>intro h)|refine⟨_,rfl,?_⟩|((with_reducible show _=_);rfl))
      all_goals try((with_reducible refine Obl.mk ?_);exact KO)
     intro⟨j,hj,hr⟩
     dsimp only
     by_cases hjl:j < es.length
     ·obtain⟨e,he⟩:=get_of_lt hjl
      have hLoc:=s_spec_l10Locate i0 i1 b0 b1 e es (by omega) (by omega) hc0 hc1
      rw[drop_at he,List.all_cons,←entry_same g0 g1 ho,entryS]at hr
      by_cases c0:b0≤e∧e < b0+i0.fCode.length
      ·have hl2:loc2 i0 i1 b0 b1 e=(0,e - b0):=by rw[loc2,if_pos c0]
       rw[hl2]at hLoc hr
       rw[if_pos rfl]at hr
       have hS:=s_spec_SymbolAt i0 (e - b0) hsy0
       have hrg:=symbolAt_range i0.fSymbols (e - b0)
       dsimp only at hr
       rw[startAt]at hr
       generalize symbolAt i0.fSymbols (e - b0)=K at *
       rcases hrg with rfl|⟨q0,q1⟩
       ·rw[show decide ((0:Int)≤-1)=false from rfl,Bool.false_and,Bool.false_and]at hr
        subst hr
        repeat' ((conv=>whnf);first|refine Or.inl ?_|apply oi|(apply fi<;>intro h)|refine⟨j,intRow e,rfl,map_get he,?_⟩|refine ci hLoc (ai (ai rfl (ai rfl (ai rfl trivial))) (ai rfl trivial)) ?_|refine⟨0,i0.tr,rfl,rfl,?_⟩|refine ci hS (ai (ai rfl (ai rfl trivial)) (ai rfl trivial)) ?_|refine⟨_,rfl,?_⟩|((with_reducible show _=_);rfl))
        all_goals try((with_reducible refine Obl.mk ?_);exact KO)
        all_goals(exfalso;first|(have h':=of_decide_eq_false h;rw[hlen]at h';omega)|(simp at h;done)|(have h':=of_decide_eq_true h;omega))
       ·obtain⟨n,rfl⟩:=Int.eq_ofNat_of_zero_le q0
        obtain⟨x,hx⟩:=get_of_lt (l:=i0.fSymbols) (k:=n) (by omega)
        rw[Int.toNat_natCast,hx,decide_eq_true q0,Bool.true_and]at hr
        dsimp only at hr
        cases hxe:(x.fStart==e - b0)with
        | false=>
         rw[hxe,Bool.false_and]at hr
         subst hr
         repeat' ((conv=>whnf);first|refine Or.inl ?_|apply oi|(apply fi<;>intro h)|refine⟨j,intRow e,rfl,map_get he,?_⟩|refine ci hLoc (ai (ai rfl (ai rfl (ai rfl trivial))) (ai rfl trivial)) ?_|refine⟨0,i0.tr,rfl,rfl,?_⟩|refine ci hS (ai (ai rfl (ai rfl trivial)) (ai rfl trivial)) ?_|refine⟨n,x.tr,rfl,map_get hx,?_⟩|refine⟨_,rfl,?_⟩|((with_reducible show _=_);rfl))
         all_goals try((with_reducible refine Obl.mk ?_);exact KO)
         all_goals(exfalso;first|(have h':=of_decide_eq_false h;rw[hlen]at h';omega)|(have h':=of_decide_eq_true h;omega)|(simp only[bne,hxe]at h;simp at h;done))
        | true=>
         rw[hxe,Bool.true_and]at hr
         repeat' ((conv=>whnf);first|refine Or.inl ?_|apply oi|(apply fi<;>intro h)|refine⟨j,intRow e,rfl,map_get he,?_⟩|refine ci hLoc (ai (ai rfl (ai rfl (ai rfl trivial))) (ai rfl trivial)) ?_|refine⟨0,i0.tr,rfl,rfl,?_⟩|refine ci hS (ai (ai rfl (ai rfl trivial)) (ai rfl trivial)) ?_|refine⟨n,x.tr,rfl,map_get hx,?_⟩|refine⟨_,rfl,?_⟩|((with_reducible show _=_);rfl))
         all_goals try((with_reducible refine Obl.mk ?_);exact KO)
         all_goals try(exfalso;first|(have h':=of_decide_eq_false h;rw[hlen]at h';omega)|(have h':=of_decide_eq_true h;omega)|(simp only[bne,hxe]at h;simp at h;done))
         conv=>whnf
         refine⟨⟨j+1,by omega,hr⟩,?_,by dsimp only;omega⟩
         repeat' ((conv=>whnf);first|refine Or.inl ?_|apply oi|(apply fi<;>intro h)|refine⟨_,rfl,?_⟩|((with_reducible show _=_);rfl))
         all_goals try((with_reducible refine Obl.mk ?_);exact KO)
         all_goals exact⟨by dsimp only;rw[IntWalk.i64_in _ (by omega)];rfl⟩
      ·by_cases c1:b1≤e∧e < b1+i1.fCode.length
       ·have hl2:loc2 i0 i1 b0 b1 e=(1,e - b1):=by rw[loc2,if_neg c0,if_pos c1]
        rw[hl2]at hLoc hr
        rw[if_neg (by simp),if_pos rfl]at hr
        have hS:=s_spec_SymbolAt i1 (e - b1) hsy1
        have hrg:=symbolAt_range i1.fSymbols (e - b1)
        dsimp only at hr
        rw[startAt]at hr
        generalize symbolAt i1.fSymbols (e - b1)=K at *
        rcases hrg with rfl|⟨q0,q1⟩
        ·rw[show decide ((0:Int)≤-1)=false from rfl,Bool.false_and,Bool.false_and]at hr
         subst hr
         repeat' ((conv=>whnf);first|refine Or.inl ?_|apply oi|(apply fi<;>intro h)|refine⟨j,intRow e,rfl,map_get he,?_⟩|refine ci hLoc (ai (ai rfl (ai rfl (ai rfl trivial))) (ai rfl trivial)) ?_|refine⟨1,i1.tr,rfl,rfl,?_⟩|refine ci hS (ai (ai rfl (ai rfl trivial)) (ai rfl trivial)) ?_|refine⟨_,rfl,?_⟩|((with_reducible show _=_);rfl))
         all_goals try((with_reducible refine Obl.mk ?_);exact KO)
         all_goals(exfalso;first|(have h':=of_decide_eq_false h;rw[hlen]at h';omega)|(simp at h;done)|(have h':=of_decide_eq_true h;omega))
        ·obtain⟨n,rfl⟩:=Int.eq_ofNat_of_zero_le q0
         obtain⟨x,hx⟩:=get_of_lt (l:=i1.fSymbols) (k:=n) (by omega)
         rw[Int.toNat_natCast,hx,decide_eq_true q0,Bool.true_and]at hr
         dsimp only at hr
         cases hxe:(x.fStart==e - b1)with
         | false=>
          rw[hxe,Bool.false_and]at hr
          subst hr
          repeat' ((conv=>whnf);first|refine Or.inl ?_|apply oi|(apply fi<;>intro h)|refine⟨j,intRow e,rfl,map_get he,?_⟩|refine ci hLoc (ai (ai rfl (ai rfl (ai rfl trivial))) (ai rfl trivial)) ?_|refine⟨1,i1.tr,rfl,rfl,?_⟩|refine ci hS (ai (ai rfl (ai rfl trivial)) (ai rfl trivial)) ?_|refine⟨n,x.tr,rfl,map_get hx,?_⟩|refine⟨_,rfl,?_⟩|((with_reducible show _=_);rfl))
          all_goals try((with_reducible refine Obl.mk ?_);exact KO)
          all_goals(exfalso;first|(have h':=of_decide_eq_false h;rw[hlen]at h';omega)|(have h':=of_decide_eq_true h;omega)|(simp only[bne,hxe]at h;simp at h;done))
         | true=>
          rw[hxe,Bool.true_and]at hr
          repeat' ((conv=>whnf);first|refine Or.inl ?_|apply oi|(apply fi<;>intro h)|refine⟨j,intRow e,rfl,map_get he,?_⟩|refine ci hLoc (ai (ai rfl (ai rfl (ai rfl trivial))) (ai rfl trivial)) ?_|refine⟨1,i1.tr,rfl,rfl,?_⟩|refine ci hS (ai (ai rfl (ai rfl trivial)) (ai rfl trivial)) ?_|refine⟨n,x.tr,rfl,map_get hx,?_⟩|refine⟨_,rfl,?_⟩|((with_reducible show _=_);rfl))
          all_goals try((with_reducible refine Obl.mk ?_);exact KO)
          all_goals try(exfalso;first|(have h':=of_decide_eq_false h;rw[hlen]at h';omega)|(have h':=of_decide_eq_true h;omega)|(simp only[bne,hxe]at h;simp at h;done))
          conv=>whnf
          refine⟨⟨j+1,by omega,hr⟩,?_,by dsimp only;omega⟩
          repeat' ((conv=>whnf);first|refine Or.inl ?_|apply oi|(apply fi<;>intro h)|refine⟨_,rfl,?_⟩|((with_reducible show _=_);rfl))
          all_goals try((with_reducible refine Obl.mk ?_);exact KO)
          all_goals exact⟨by dsimp only;rw[IntWalk.i64_in _ (by omega)];rfl⟩
       ·have hl2:loc2 i0 i1 b0 b1 e=(-1,-1):=by rw[loc2,if_neg c0,if_neg c1]
        rw[hl2]at hLoc hr
        rw[if_neg (by simp),if_neg (by simp),Bool.false_and]at hr
        subst hr
        repeat' ((conv=>whnf);first|refine Or.inl ?_|apply oi|(apply fi<;>intro h)|refine⟨j,intRow e,rfl,map_get he,?_⟩|refine ci hLoc (ai (ai rfl (ai rfl (ai rfl trivial))) (ai rfl trivial)) ?_|refine⟨_,rfl,?_⟩|((with_reducible show _=_);rfl))
        all_goals try((with_reducible refine Obl.mk ?_);exact KO)
        all_goals(exfalso;first|(have h':=of_decide_eq_false h;rw[hlen]at h';omega)|(simp at h;done))
     ·have hge:es.length≤j:=by omega
      rw[List.drop_eq_nil_of_le hge,List.all_nil]at hr
      subst hr
      repeat' ((conv=>whnf);first|refine Or.inl ?_|apply oi|(apply fi<;>intro h)|refine⟨_,rfl,?_⟩|((with_reducible show _=_);rfl))
      all_goals try((with_reducible refine Obl.mk ?_);exact KO)
      all_goals(exfalso;have h':=of_decide_eq_true h;rw[hlen]at h';omega))
theorem s_spec_SpaceOk (s:TSpace)(hs:smallR 1048576 s.tr):Sim.Spec Tryz.prog 95 [.agg s.tr] (rB (spaceOk s)):=by
 rcases space_shape (s:=s)with⟨i0,i1,b0,b1,h⟩|⟨h,hn⟩
 ·rw[h]at hs ⊢
  exact s_spec_SpaceOk2 i0 i1 b0 b1 s.fEntries hs
 ·rw[h]
  have l1:(s.fImages.map TImage.tr).length=s.fImages.length:=by simp
  have l2:(s.fBases.map intRow).length=s.fBases.length:=by simp
  refine spec_of_W hΓ hmix Tryz.func95 rfl (by decide) rfl ?_
  repeat' ((conv=>whnf);first|refine Or.inl ?_|apply oi|(apply fi<;>intro h)|refine ci (s_spec_l01In _ _ _) (ai rfl (ai rfl (ai rfl trivial))) ?_|refine⟨_,rfl,?_⟩|((with_reducible show _=_);rfl))
  all_goals try((with_reducible refine Obl.mk ?_);exact KO)
  all_goals(exfalso;apply hn;(simp_all) <;> (constructor <;> omega))
end Go.Proofs.YtjmplnfiabmalaaGreat
namespace Go.Proofs.YtjmplnfiabmalaaGreat
open Go.Sim
set_option maxRecDepth 100000
set_option maxHeartbeats 4000000
theorem spaceOk_inv {s:TSpace}(h:spaceOk s=true):∃i0 i1 b0 b1,s=⟨[i0,i1],[b0,b1],s.fEntries⟩∧(1≤s.fEntries.length∧s.fEntries.length≤6)∧(imageOk i0=true∧1≤b0∧b0≤1000000)∧(imageOk i1=true∧1≤b1∧b1≤1000000)∧overlap i0 i1 b0 b1=false∧∀e∈s.fEntries,(entryIn i0 b0 e || entryIn i1 b1 e)=true:=by
 rcases space_shape (s:=s)with⟨i0,i1,b0,b1,hs⟩|⟨h',_⟩
 ·refine⟨i0,i1,b0,b1,hs,?_⟩
  rw[hs,spaceOk]at h
  dsimp only at h
  rw[spaceOk2,Bool.and_eq_true,Bool.and_eq_true,Bool.and_eq_true,Bool.and_eq_true,Bool.and_eq_true,Bool.and_eq_true,within_iff,within_iff,within_iff,List.all_eq_true,Bool.not_eq_true']at h
  obtain⟨h1,h2,h3,h4,h5,h6,h7⟩:=h
  exact⟨by omega,⟨h2,h3⟩,⟨h4,h5⟩,h6,h7⟩
 ·rw[h']at h;cases h
def zeroM:TMachine:=⟨0,0,0,[],[],0,0⟩
def newM (s:TSpace):TMachine:=if spaceOk s then⟨s.fEntries.headD 0,1199,1200,List.replicate 1200 0,[],0,0⟩else zeroM
theorem s_impl_NewMachine (s:TSpace)(hs:smallR 1048576 s.tr):Sim.Spec Tryz.prog 22 [.agg s.tr] (.tup [.agg ((newM s).tr.map resC),.c (.t (.bool (spaceOk s)))]):=by
 refine spec_of_W hΓ hmix Tryz.func22 rfl (by decide) rfl ?_
 have hS:=s_impl_SpaceOk s hs
 unfold newM
 cases hok:spaceOk s with
 | false=>
  rw[hok]at hS
  repeat' ((conv=>whnf);first|refine Or.inl ?_|apply oi|(apply fi<;>intro h)|refine ci hS (ai (ai rfl (ai rfl (ai rfl trivial))) trivial) ?_|refine⟨_,rfl,?_⟩|((with_reducible show _=_);rfl))
  all_goals try((with_reducible refine Obl.mk ?_);exact KO)
 | true=>
  rw[hok]at hS
  obtain⟨i0,i1,b0,b1,_,⟨hl,_⟩,_⟩:=spaceOk_inv hok
  match he:s.fEntries,hl with
  | e::es,_=>
   rw[if_pos rfl]
   repeat' ((conv=>whnf);first|refine Or.inl ?_|apply oi|(apply fi<;>intro h)|refine ci hS (ai (ai rfl (ai rfl (ai rfl trivial))) trivial) ?_|refine⟨0,intRow e,rfl,(by rw[he];rfl),?_⟩|refine⟨_,rfl,?_⟩|((with_reducible show _=_);rfl))
   all_goals try((with_reducible refine Obl.mk ?_);exact KO)
   all_goals try(exfalso;simp at h;done)
end Go.Proofs.YtjmplnfiabmalaaGreat
namespace Go.Proofs.YtjmplnfiabmalaaGreat
open Go.Sim
set_option maxRecDepth 100000
set_option maxHeartbeats 4000000
def locS (s:TSpace)(a:Int):Int×Int:=match s.fImages,s.fBases with
 | [i0,i1],[b0,b1]=>loc2 i0 i1 b0 b1 a
 | _,_=>(-1,-1)
theorem loc2_cases (i0 i1:TImage)(b0 b1 a:Int):loc2 i0 i1 b0 b1 a=(-1,-1)∨∃(i:Nat) (off:Int),i < 2∧loc2 i0 i1 b0 b1 a=((i:Int),off):=by
 unfold loc2
 split
 ·exact .inr ⟨0,_,by omega,rfl⟩
 ·split
  ·exact .inr ⟨1,_,by omega,rfl⟩
  ·exact .inl rfl
end Go.Proofs.YtjmplnfiabmalaaGreat
namespace Go.Proofs.YtjmplnfiabmalaaGreat
open Go.Sim
set_option maxRecDepth 100000
set_option maxHeartbeats 4000000
def itH:Nat→Int→Int
 | 0,h=>h
 | n+1,h=>itH n (nextH h)
theorem itH_add:∀(n m:Nat) (h:Int),itH (n+m) h=itH m (itH n h)
 | 0,m,h=>by rw[Nat.zero_add,itH]
 | n+1,m,h=>by rw[show n+1+m=(n+m)+1 by omega,itH,itH,itH_add n m]
abbrev mM:Int:=9007199254740992
def Aff (n:Nat)(a c:Nat):Prop:=∀h:Int,itH n h % mM=((a:Int) * h+c) % mM
theorem wrap_mod (x:Int):IntKind.i64.wrap x % mM=x % mM:=by
 have h:IntKind.i64.wrap x % 18446744073709551616=x % 18446744073709551616:=by
  unfold IntKind.wrap
  simp[IntKind.bits,IntKind.signed]
  split <;> omega
 have h1:IntKind.i64.wrap x % 18446744073709551616 % mM=IntKind.i64.wrap x % mM:=Int.emod_emod_of_dvd _ ⟨2048,rfl⟩
 have h2:x % 18446744073709551616 % mM=x % mM:=Int.emod_emod_of_dvd _ ⟨2048,rfl⟩
 rw[←h1,←h2,h]
theorem aff_one:Aff 1 6364136223846793005 1442695040888963407:=by
 intro h
 show nextH h % mM=_
 unfold nextH
 rw[wrap_mod,Int.add_emod,wrap_mod,←Int.add_emod,Int.mul_comm]
 rfl
theorem aff_two {n a c m b d:Nat}(h1:Aff n a c)(h2:Aff m b d):Aff (n+m) (a * b % 9007199254740992) ((b * c+d) % 9007199254740992):=by
 intro h
 rw[itH_add,h2,Int.add_emod,Int.mul_emod,h1,←Int.mul_emod,←Int.add_emod]
 have e1:(((a * b % 9007199254740992:Nat):Int))=((a:Int) * b) % mM:=by rw[Int.natCast_emod,Int.natCast_mul];rfl
 have e2:((((b * c+d) % 9007199254740992:Nat):Int))=((b:Int) * c+d) % mM:=by rw[Int.natCast_emod,Int.natCast_add,Int.natCast_mul];rfl
 rw[e1,e2,Int.add_emod (((a:Int) * b) % mM * h),Int.mul_emod (((a:Int) * b) % mM),Int.emod_emod_of_dvd _ (Int.dvd_refl _),Int.emod_emod_of_dvd _ (Int.dvd_refl _),←Int.mul_emod,←Int.add_emod]
 congr 1
 rw[Int.mul_add,←Int.mul_assoc,Int.mul_comm (b:Int) a,Int.add_assoc]
def dblF:Nat→Nat→Nat→Nat×Nat
 | 0,a,c=>(a,c)
 | k+1,a,c=>dblF k (a * a % 9007199254740992) ((a * c+c) % 9007199254740992)
theorem aff_dbl:∀(k n a c:Nat),Aff n a c→Aff (n * 2 ^ k) (dblF k a c).1 (dblF k a c).2
 | 0,n,a,c,h=>by rw[Nat.pow_zero,Nat.mul_one];exact h
 | k+1,n,a,c,h=>by
  rw[dblF,show n * 2 ^ (k+1)=(n+n) * 2 ^ k by rw[Nat.pow_succ,Nat.add_mul,←Nat.mul_two,Nat.mul_assoc]]
  exact aff_dbl k (n+n) _ _ (aff_two h h)
theorem dbl51:(dblF 51 6364136223846793005 1442695040888963407).1=1∧(dblF 51 6364136223846793005 1442695040888963407).2 % 2251799813685248=0∧(dblF 51 6364136223846793005 1442695040888963407).2 / 2251799813685248 % 2=1:=by decide+kernel
def byW (h:Int):Int:=IntKind.i64.wrap ((BitVec.ofInt IntKind.i64.bits (IntKind.i64.wrap ((BitVec.ofInt IntKind.i64.bits (h.fdiv (2 ^ min (Int.toNat 33) IntKind.i64.bits)) ^^^ BitVec.ofInt IntKind.i64.bits (h.fdiv (2 ^ min (Int.toNat 45) IntKind.i64.bits))).toNat:Int)) &&& BitVec.ofInt IntKind.i64.bits 255).toNat:Int)
def byN (h:Int):Nat:=(h % mM / 8589934592 % 256).toNat ^^^ (h % mM / 35184372088832 % 256).toNat
theorem and255 (x:Int):(BitVec.ofInt 64 x &&& BitVec.ofInt 64 255).toNat=(x % 256).toNat:=by
 have e:(BitVec.ofInt 64 255).toNat=2 ^ 8 - 1:=by decide
 rw[BitVec.toNat_and,e,Nat.and_two_pow_sub_one_eq_mod,BitVec.toNat_ofInt]
 omega
theorem byW_eq (h:Int):byW h=(byN h:Int):=by
 have e33:h.fdiv (2 ^ min (Int.toNat 33) IntKind.i64.bits)=h / 8589934592:=by
  rw[show(2:Int) ^ min (Int.toNat 33) IntKind.i64.bits=8589934592 from rfl,Int.fdiv_eq_ediv_of_nonneg _ (by decide)]
 have e45:h.fdiv (2 ^ min (Int.toNat 45) IntKind.i64.bits)=h / 35184372088832:=by
  rw[show(2:Int) ^ min (Int.toNat 45) IntKind.i64.bits=35184372088832 from rfl,Int.fdiv_eq_ediv_of_nonneg _ (by decide)]
 unfold byW
 rw[e33,e45]
 show IntKind.i64.wrap (((BitVec.ofInt 64 (IntKind.i64.wrap ((BitVec.ofInt 64 (h / 8589934592) ^^^ BitVec.ofInt 64 (h / 35184372088832)).toNat:Int)) &&& BitVec.ofInt 64 255).toNat:Nat):Int)=_
 rw[and255]
 have hw:∀x:Int,IntKind.i64.wrap x % 256=x % 256:=fun x=>by
  unfold IntKind.wrap
  simp[IntKind.bits,IntKind.signed]
  split <;> omega
 rw[hw,BitVec.toNat_xor,BitVec.toNat_ofInt,BitVec.toNat_ofInt]
 have hx:∀a b:Nat,((a ^^^ b:Nat):Int) % 256=(((a % 256) ^^^ (b % 256):Nat):Int):=fun a b=>by
  have:=Nat.xor_mod_two_pow (a:=a) (b:=b) (n:=8)
  rw[show(2:Nat) ^ 8=256 from rfl]at this
  rw[←this]
  omega
 rw[hx]
 have h1:((h / 8589934592) % ((2 ^ 64:Nat):Int)).toNat % 256=(h % mM / 8589934592 % 256).toNat:=by
  rw[show((2 ^ 64:Nat):Int)=18446744073709551616 from rfl]
  show _=(h % 9007199254740992 / 8589934592 % 256).toNat
  omega
 have h2:((h / 35184372088832) % ((2 ^ 64:Nat):Int)).toNat % 256=(h % mM / 35184372088832 % 256).toNat:=by
  rw[show((2 ^ 64:Nat):Int)=18446744073709551616 from rfl]
  show _=(h % 9007199254740992 / 35184372088832 % 256).toNat
  omega
 rw[h1,h2,Int.toNat_natCast]
 have hb:byN h < 256:=by
  unfold byN
  exact Nat.xor_lt_two_pow (n:=8) (by omega) (by omega)
 unfold byN at hb ⊢
 rw[IntWalk.i64_in _ (by omega)]
theorem byN_lt (h:Int):byN h < 256:=by
 unfold byN
 exact Nat.xor_lt_two_pow (n:=8) (by omega) (by omega)
theorem xor_two:∀u:Fin 256,∀lo:Fin 64,∃hi:Fin 4,(u.val ^^^ (lo.val+64 * hi.val)) % 3=2:=by decide+kernel
theorem cut51 {B r:Int}(h0:0≤r)(h1:r < 2251799813685248):(2251799813685248 * B+r) % mM=2251799813685248 * (B % 4)+r:=by
 show(2251799813685248 * B+r) % 9007199254740992=_
 omega
theorem byN_parts {h B r:Int}(h0:0≤r)(h1:r < 2251799813685248)(he:h % mM=(2251799813685248 * B+r) % mM):byN h=(r / 8589934592 % 256).toNat ^^^ ((r / 35184372088832 % 64).toNat+64 * (B % 4).toNat):=by
 unfold byN
 rw[he,cut51 h0 h1]
 have e1:(2251799813685248 * (B % 4)+r) / 8589934592 % 256=r / 8589934592 % 256:=by omega
 have e2:((2251799813685248 * (B % 4)+r) / 35184372088832 % 256).toNat=(r / 35184372088832 % 64).toNat+64 * (B % 4).toNat:=by omega
 rw[e1,e2]
theorem pick_q (A:Int)(w:Nat)(hw:w % 2=1)(hi:Nat)(hh:hi < 4):∃q:Nat,q < 4∧(A+3 * (q * w:Nat)) % 4=(hi:Int):=by
 have h4:w % 4=1∨w % 4=3:=by omega
 have hA:((hi:Int) - A) % 4=0∨((hi:Int) - A) % 4=1∨((hi:Int) - A) % 4=2∨((hi:Int) - A) % 4=3:=by omega
 rcases hA with h|h|h|h
 ·exact⟨0,by omega,by omega⟩
 ·rcases h4 with h4|h4
  ·exact⟨3,by omega,by omega⟩
  ·exact⟨1,by omega,by omega⟩
 ·exact⟨2,by omega,by omega⟩
 ·rcases h4 with h4|h4
  ·exact⟨1,by omega,by omega⟩
  ·exact⟨3,by omega,by omega⟩
theorem aff_three {T v:Nat}(h:Aff T 1 v)(g:Int):itH (3 * T) g % mM=(g+3 * v) % mM:=by
 have s1:=h g
 have s2:=h (itH T g)
 have s3:=h (itH T (itH T g))
 rw[Int.natCast_one,Int.one_mul]at s1 s2 s3
 rw[show 3 * T=T+(T+T) by omega,itH_add,itH_add,s3,Int.add_emod,s2,←Int.add_emod,Int.add_assoc,Int.add_emod,s1,←Int.add_emod]
 congr 1
 omega
theorem aff_times {T v:Nat}(h:Aff T 1 v):∀(q:Nat) (g:Int),itH (q * (3 * T)) g % mM=(g+3 * (q * v:Nat)) % mM
 | 0,g=>by simp[itH]
 | q+1,g=>by
  have h3:=aff_three h g
  rw[show(q+1) * (3 * T)=3 * T+q * (3 * T) by rw[Nat.add_mul,Nat.one_mul,Nat.add_comm],itH_add,aff_times h q,Int.add_emod,h3,←Int.add_emod]
  congr 1
  rw[Nat.add_mul,Nat.one_mul]
  omega
theorem comes_two (h:Int)(K:Nat):∃k,K≤k∧byN (itH (6 * k) h) % 3=2:=by
 obtain⟨d1,d2,d3⟩:=dbl51
 have h51:=aff_dbl 51 1 _ _ aff_one
 rw[d1,Nat.one_mul]at h51
 generalize(dblF 51 6364136223846793005 1442695040888963407).2=v at *
 have e51:(2:Nat) ^ 51=2 * 2 ^ 50:=by rw[Nat.pow_succ,Nat.mul_comm]
 rw[e51]at h51
 generalize(2:Nat) ^ 50=T at *
 obtain⟨w,rfl⟩:∃w:Nat,v=2251799813685248 * w:=⟨v / 2251799813685248,by omega⟩
 have hw1:w % 2=1:=by omega
 generalize hz:itH (6 * K) h=z at *
 obtain⟨A,r,hA,r0,r1⟩:∃A r:Int,z=2251799813685248 * A+r∧0≤r∧r < 2251799813685248:=⟨z / 2251799813685248,z % 2251799813685248,by omega,by omega,by omega⟩
 obtain⟨hi,hhi⟩:=xor_two ⟨(r / 8589934592 % 256).toNat,by omega⟩ ⟨(r / 35184372088832 % 64).toNat,by omega⟩
 dsimp only at hhi
 obtain⟨q,hq,hqe⟩:=pick_q A w hw1 hi.val hi.isLt
 refine⟨K+q * T,Nat.le_add_right _ _,?_⟩
 have e6:6 * (K+q * T)=6 * K+q * (3 * (2 * T)):=by
  rw[Nat.mul_add]
  congr 1
  rw[←Nat.mul_assoc 3 2 T,Nat.mul_left_comm]
 rw[e6,itH_add,hz]
 have hs:=aff_times h51 q z
 rw[hA,show(2251799813685248 * A+r+3 * ((q * (2251799813685248 * w):Nat):Int))=2251799813685248 * (A+3 * (q * w:Nat))+r by
  rw[Nat.mul_left_comm]
  generalize q * w=y
  omega]at hs
 rw[byN_parts r0 r1 (by rw[hA];exact hs),hqe,Int.toNat_natCast]
 exact hhi
end Go.Proofs.YtjmplnfiabmalaaGreat
namespace Go.Proofs.YtjmplnfiabmalaaGreat
open Go.Sim
set_option maxRecDepth 100000
set_option maxHeartbeats 4000000
theorem and_one:∀f:Fin 101,IntKind.i64.wrap (BitVec.ofInt IntKind.i64.bits (f.val:Int) &&& BitVec.ofInt IntKind.i64.bits 1).toNat=(f.val:Int) % 2:=by decide
theorem s_spec_l09InImage (f:Nat)(b:TBuild)(image:Int)(hf:f≤100):Sim.Spec Tryz.prog 75 [.agg b.tr,tvI (f:Int),tvI image] (rB (inImg b image f)):=by
 refine spec_of_Wo hΓ hmix Tryz.func75 rfl (by decide) rfl ?_
 unfold inImg
 have hm:=and_one ⟨f,by omega⟩
 dsimp only at hm
 repeat' ((conv=>whnf);first|(with_reducible first|apply Wx|apply W6)|apply oi|(apply fi<;>intro h)|refine⟨_,rfl,?_⟩|((with_reducible show _=_);rfl))
 all_goals try((with_reducible refine Obl.mk ?_);exact KP)
 all_goals first|exact⟨by rw[h,hm];rfl⟩|exact⟨by rw[h];rfl⟩
theorem allPl_le:∀{L:List (Nat×List TPlace)},(∀x∈L,x.2.length≤2500)→(allPl L).length≤2500 * L.length
 | L,h=>by
  have:=allPl_cap h (Nat.le_refl L.length)
  rwa [List.take_of_length_le (Nat.le_refl _)]at this
theorem s_spec_PlacesOf (p:List TLine)(b:TBuild)(image:Int)(hs:smallT 1048576 (.lst 4 (p.map TLine.tr))):Sim.Spec Tryz.prog 13 [tvP p,.agg b.tr,tvI image] (rL 8 ((placesOf p b image).map TPlace.tr)):=by
 refine spec_of_Wo hΓ hmix Tryz.func13 rfl (by decide) rfl ?_
 have hP:=s_spec_ProgramOk p hs
 have hB:=s_spec_BuildOk b
 have gb:=s_spec_l01In image 0 1
 by_cases hc:programOk p=true∧buildOk b=true∧within image 0 1=true
 ·have hcf:placesOf p b image=allPl (imgL p b image (funs p).length 0 0):=by rw[placesOf,if_pos hc];rfl
  rw[hcf]
  obtain⟨h1,h2,h3⟩:=hc
  rw[h1]at hP
  rw[h2]at hB
  rw[h3]at gb
  obtain⟨h6,h60⟩:=funs_six h1
  have gF:=s_spec_FunctionLines p (by omega)
  have hfl:((funs p).map fun n:Nat=>intRow n).length=(funs p).length:=by simp
  have hlc:=fun x (hx:x∈imgL p b image (funs p).length 0 0)=>(imgL_cap hs hx).1
  repeat' ((conv=>whnf);first|(with_reducible first|apply Wx|apply W6)|apply oi|(apply fi<;>intro h)|refine cl hP ?_|refine cl hB ?_|refine cl gb ?_|refine⟨_,rfl,?_⟩|((with_reducible show _=_);rfl))
  all_goals try((with_reducible refine Obl.mk ?_);exact KP)
  conv=>whnf
  refine⟨ImgIx p b image,fun q=>⟨[(0,vP p),(2,tI .i64 image),(4,.r (.c (.ptr (4,0,0) 0))),(7,.r (.c (.own (15,0,0)))),(8,tI .i64 q.1.2.1),(9,tI .i64 (q.1.1:Int))],[((15,0,0),some (.arr true 8 ((allPl q.1.2.2).map TPlace.tr))),((4,0,0),some (.box [.t (.int .i64 b.fFrames),.t (.int .i64 b.fInline),.t (.bool b.fFold),.t (.bool b.fSplit)]))],[15,4]⟩,fun q=>(funs p).length - q.1.1,⟨(0,0,[]),by simp,by simp,by simp,by simp⟩,?_,?_⟩
  ·skip
   repeat' ((conv=>whnf);first|(with_reducible first|apply Wx|apply W6)|apply oi|(apply fi<;>intro h)|refine⟨_,rfl,?_⟩|((with_reducible show _=_);rfl))
   all_goals try((with_reducible refine Obl.mk ?_);exact KP)
  intro⟨⟨f,at0,acc⟩,hk,ha,hal,hr⟩
  dsimp only at hk ha hal hr ⊢
  have hac:(allPl acc).length≤2500 * acc.length:=allPl_le fun x hx=>hlc x (by rw[←hr];exact List.mem_append.2 (.inl hx))
  by_cases hlt:f < (funs p).length
  ·obtain⟨n,hn⟩:∃n,(funs p).length - f=n+1:=⟨(funs p).length - f - 1,by omega⟩
   have hi:=s_spec_l09InImage f b image (by omega)
   rw[hn,imgL_step]at hr
   cases hin:inImg b image f with
   | false=>
    rw[hin]at hi hr
    rw[if_neg (by simp)]at hr
    repeat' ((conv=>whnf);first|(with_reducible first|apply Wx|apply W6)|apply oi|(apply fi<;>intro h)|refine cl gF ?_|refine cl hi ?_|refine⟨_,rfl,?_⟩|((with_reducible show _=_);rfl))
    all_goals try((with_reducible refine Obl.mk ?_);exact KP)
    all_goals try exact KX
    conv=>whnf
    refine⟨⟨(f+1,at0,acc),by dsimp only;omega,by dsimp only;omega,by dsimp only;omega,by dsimp only;rw[show(funs p).length - (f+1)=n by omega];exact hr⟩,?_,by dsimp only;omega⟩
    repeat' ((conv=>whnf);first|(with_reducible first|apply Wx|apply W6)|apply oi|(apply fi<;>intro h)|refine⟨_,rfl,?_⟩|((with_reducible show _=_);rfl))
    all_goals try((with_reducible refine Obl.mk ?_);exact KP)
    all_goals try exact⟨KW⟩
   | true=>
    rw[hin]at hi hr
    rw[if_pos rfl]at hr
    have hcs:=s_spec_CompileFunction p (f:Int) b hs
    obtain⟨f1,f2,f3⟩:=fn_ok (f:=f) hs h1 h2 hlt
    have hch:=(compileF_cap (p:=p) (f:=(f:Int)) (b:=b) hs).2
    generalize compileF p (f:Int) b=I at *
    repeat' ((conv=>whnf);first|(with_reducible first|apply Wx|apply W6)|apply oi|(apply fi<;>intro h)|refine cl gF ?_|refine cl hi ?_|refine cl hcs ?_|refine⟨_,rfl,?_⟩|((with_reducible show _=_);rfl))
    all_goals try((with_reducible refine Obl.mk ?_);exact KP)
    all_goals try exact KX
    have hlen:(I.map TItem.tr).length=I.length:=by simp
    have hsl:=startsF_len at0 I
    have hle:=fun k (h:k≤I.length)=>startsF_le (at0:=at0) h
    have hS0:=startsF_zero at0 I
    have hsu:=fun k x (h:I[k]?=some x)=>startsF_succ (at0:=at0) h
    have hpf:∀(k:Nat) (x:TItem),I[k]?=some x→(placesF I at0)[k]?=some (TPlace.mk (atL (startsF at0 I) k) (jumpI (startsF at0 I) k x)):=fun k x h=>placesF_get h
    have hfl2:=placesF_len I at0
    have hend:endF at0 I=atL (startsF at0 I) I.length:=rfl
    have ye:=endF_le (l:=I) (at0:=at0)
    generalize startsF at0 I=S at *
    generalize placesF I at0=F at *
    generalize endF at0 I=E at *
    conv=>whnf
    refine⟨{k:Nat // k≤I.length},fun k=>⟨[(0,vP p),(2,tI .i64 image),(4,.r (.c (.ptr (4,0,0) 0))),(7,.r (.c (.own (15,0,0)))),(8,tI .i64 (atL S k.1)),(9,tI .i64 (f:Int)),(10,.r (.c (.own (45,0,0)))),(11,.r (.c (.own (46,0,0)))),(12,tI .i64 (k.1:Int))],[((46,0,0),some (.arr true 1 ((S.take k.1).map intRow))),((45,0,0),some (.arr true 7 (I.map TItem.tr))),((15,0,0),some (.arr true 8 ((allPl acc).map TPlace.tr))),((4,0,0),some (.box [.t (.int .i64 b.fFrames),.t (.int .i64 b.fInline),.t (.bool b.fFold),.t (.bool b.fSplit)]))],[46,45,15,4]⟩,fun k=>I.length - k.1,⟨0,by omega⟩,?_,?_⟩
    ·skip
     repeat' ((conv=>whnf);first|(with_reducible first|apply Wx|apply W6)|apply oi|(apply fi<;>intro h)|refine⟨_,rfl,?_⟩|((with_reducible show _=_);rfl))
     all_goals try((with_reducible refine Obl.mk ?_);exact KP)
     all_goals try exact⟨by rw[hS0]⟩
    intro⟨k,hk⟩
    dsimp only
    have hlk:=hle k hk
    by_cases hlt2:k < I.length
    ·obtain⟨x,hx⟩:=get_of_lt hlt2
     have hz:=opSize_le x.fOp.fCode
     have ho:=s_spec_OpSize x.fOp.fCode
     have hs1:=hsu k x hx
     have hg:S[k]?=some (atL S k):=atL_get (by omega)
     have hkr:k < (I.map TItem.tr).length:=by omega
     have hxr:(I.map TItem.tr)[k]?=some x.tr:=map_get hx
     repeat' ((conv=>whnf);first|(with_reducible first|apply Wx|apply W6)|apply oi|(apply fi<;>intro h)|refine⟨k,rfl,hkr,?_⟩|refine⟨_,hxr,?_⟩|refine cl ho ?_|refine⟨_,rfl,?_⟩|((with_reducible show _=_);rfl))
     all_goals try((with_reducible refine Obl.mk ?_);exact KP)
     all_goals try exact KX
     all_goals try exact⟨⟨by simp <;> omega,by simp <;> omega⟩⟩
     conv=>whnf
     refine⟨⟨k+1,by omega⟩,?_,by dsimp only;omega⟩
     repeat' ((conv=>whnf);first|(with_reducible first|apply Wx|apply W6)|apply oi|(apply fi<;>intro h)|refine⟨_,rfl,?_⟩|((with_reducible show _=_);rfl))
     all_goals try((with_reducible refine Obl.mk ?_);exact KP)
     all_goals try exact⟨KW⟩
     all_goals try exact⟨by rw[take_one hg,List.map_append];rfl⟩
     all_goals try exact⟨congrArg (Tr.int .i64) (by rw[hs1,IntWalk.i64_in _ (by omega)])⟩
    ·have hkl:k=I.length:=by omega
     subst hkl
     have hg:S[I.length]?=some (atL S I.length):=atL_get (by omega)
     repeat' ((conv=>whnf);first|(with_reducible first|apply Wx|apply W6)|apply oi|(apply fi<;>intro h)|refine⟨_,rfl,?_⟩|((with_reducible show _=_);rfl))
     all_goals try((with_reducible refine Obl.mk ?_);exact KP)
     all_goals try exact KX
     all_goals try exact⟨⟨by simp <;> omega,by simp <;> omega⟩⟩
     conv=>whnf
     refine⟨{k:Nat // k≤I.length},fun k=>⟨[(0,vP p),(2,tI .i64 image),(4,.r (.c (.ptr (4,0,0) 0))),(7,.r (.c (.own (15,0,0)))),(8,tI .i64 (atL S I.length)),(9,tI .i64 (f:Int)),(10,.r (.c (.own (45,0,0)))),(11,.r (.c (.own (69,0,0)))),(13,tI .i64 (k.1:Int))],[((69,0,0),some (.arr true 1 (S.map intRow))),((45,0,0),some (.arr true 7 (I.map TItem.tr))),((15,0,0),some (.arr true 8 ((allPl acc++F.take k.1).map TPlace.tr))),((4,0,0),some (.box [.t (.int .i64 b.fFrames),.t (.int .i64 b.fInline),.t (.bool b.fFold),.t (.bool b.fSplit)]))],[69,45,15,4]⟩,fun k=>I.length - k.1,⟨0,by omega⟩,?_,?_⟩
     ·skip
      repeat' ((conv=>whnf);first|(with_reducible first|apply Wx|apply W6)|apply oi|(apply fi<;>intro h)|refine⟨_,rfl,?_⟩|((with_reducible show _=_);rfl))
      all_goals try((with_reducible refine Obl.mk ?_);exact KP)
      all_goals try exact⟨by rw[show [[Tr.int .i64 (atL S I.length)]]=[atL S I.length].map intRow from rfl,←List.map_append,←take_one hg,List.take_of_length_le (by omega)]⟩
      all_goals try exact⟨by simp⟩
     intro⟨k,hk⟩
     dsimp only
     have hol:((allPl acc++F.take k).map TPlace.tr).length=(allPl acc).length+k:=by rw[List.length_map,List.length_append,List.length_take];omega
     have hml:(S.map intRow).length=I.length+1:=by rw[List.length_map];exact hsl
     have mg:∀j,j≤I.length→(S.map intRow)[j]?=some (intRow (atL S j)):=fun j hj=>by rw[List.getElem?_map,atL_get (by omega)];rfl
     by_cases hlt2:k < I.length
     ·obtain⟨x,hx⟩:=get_of_lt hlt2
      have hpg:=hpf k x hx
      have hsn:(allPl acc++F.take (k+1)).map TPlace.tr=(allPl acc++F.take k).map TPlace.tr++[(TPlace.mk (atL S k) (jumpI S k x)).tr]:=by rw[take_one hpg,←List.append_assoc,List.map_append];rfl
      have hkr:k < (I.map TItem.tr).length:=by omega
      have hxr:(I.map TItem.tr)[k]?=some x.tr:=map_get hx
      have hw1:IntKind.i64.wrap ((k:Int)+1)=((k+1:Nat):Int):=by rw[IntWalk.i64_in _ (by omega)];rfl
      have hk0:k < (S.map intRow).length:=by omega
      have hk1:k+1 < (S.map intRow).length:=by omega
      have m0:=mg k (by omega)
      have m1:=mg (k+1) (by omega)
      have b1:=hle (k+1) (by omega)
      cases hjx:isJump x with
      | true=>
       obtain⟨ja,jb⟩:=f3 x (List.mem_of_getElem? hx) hjx
       have hwa:x.fOp.fArg=((x.fOp.fArg.toNat:Nat):Int):=(Int.toNat_of_nonneg ja).symm
       have hal2:x.fOp.fArg.toNat < (S.map intRow).length:=by omega
       have m2:=mg x.fOp.fArg.toNat (by omega)
       have b2:=hle x.fOp.fArg.toNat (by omega)
       have hji:jumpI S k x=withArg x (IntKind.i64.wrap (atL S x.fOp.fArg.toNat - atL S (k+1))):=by rw[jumpI,if_pos hjx,IntWalk.i64_in _ (by omega)]
       rw[isJump_iff]at hjx
       repeat' ((conv=>whnf);first|(with_reducible first|apply Wx|apply W6)|apply oi|(apply fi<;>intro h)|refine⟨k,rfl,hkr,?_⟩|refine⟨_,hxr,?_⟩|refine⟨k,rfl,hk0,?_⟩|refine⟨k+1,hw1,hk1,?_⟩|refine⟨_,hwa,hal2,?_⟩|refine⟨_,m0,?_⟩|refine⟨_,m1,?_⟩|refine⟨_,m2,?_⟩|refine⟨_,rfl,?_⟩|((with_reducible show _=_);rfl))
       all_goals try((with_reducible refine Obl.mk ?_);exact KP)
       all_goals try exact KX
       all_goals try exact KK
       all_goals try exact⟨⟨by simp only[List.length_nil,List.length_cons,hol] <;> omega,by simp only[List.length_nil,List.length_cons,hol] <;> omega⟩⟩
       all_goals(
        conv=>whnf
        refine⟨⟨k+1,by omega⟩,?_,by dsimp only;omega⟩
        repeat' ((conv=>whnf);first|(with_reducible first|apply Wx|apply W6)|apply oi|(apply fi<;>intro h)|refine⟨_,rfl,?_⟩|((with_reducible show _=_);rfl))
        all_goals try((with_reducible refine Obl.mk ?_);exact KP)
        all_goals try exact⟨KW⟩
        all_goals try exact⟨by dsimp only;rw[hsn,hji];rfl⟩)
      | false=>
       have hji:jumpI S k x=x:=by rw[jumpI,if_neg (by rw[hjx];simp)]
       have hjn:¬(x.fOp.fCode=10∨x.fOp.fCode=11):=by rw[←isJump_iff,hjx];simp
       repeat' ((conv=>whnf);first|(with_reducible first|apply Wx|apply W6)|apply oi|(apply fi<;>intro h)|refine⟨k,rfl,hkr,?_⟩|refine⟨_,hxr,?_⟩|refine⟨k,rfl,hk0,?_⟩|refine⟨_,m0,?_⟩|refine⟨_,rfl,?_⟩|((with_reducible show _=_);rfl))
       all_goals try((with_reducible refine Obl.mk ?_);exact KP)
       all_goals try exact KX
       all_goals try exact KK
       all_goals try exact⟨⟨by simp only[List.length_nil,List.length_cons,hol] <;> omega,by simp only[List.length_nil,List.length_cons,hol] <;> omega⟩⟩
       all_goals(
        conv=>whnf
        refine⟨⟨k+1,by omega⟩,?_,by dsimp only;omega⟩
        repeat' ((conv=>whnf);first|(with_reducible first|apply Wx|apply W6)|apply oi|(apply fi<;>intro h)|refine⟨_,rfl,?_⟩|((with_reducible show _=_);rfl))
        all_goals try((with_reducible refine Obl.mk ?_);exact KP)
        all_goals try exact⟨KW⟩
        all_goals try exact⟨by dsimp only;rw[hsn,hji];rfl⟩)
     ·have hkl:k=I.length:=by omega
      subst hkl
      repeat' ((conv=>whnf);first|(with_reducible first|apply Wx|apply W6)|apply oi|(apply fi<;>intro h)|refine⟨_,rfl,?_⟩|((with_reducible show _=_);rfl))
      all_goals try((with_reducible refine Obl.mk ?_);exact KP)
      all_goals try exact KX
      conv=>whnf
      refine⟨⟨(f+1,E,acc++[(f,F)]),by dsimp only;omega,by dsimp only;omega,by simp;omega,by dsimp only;rw[List.append_assoc,show(funs p).length - (f+1)=n by omega];exact hr⟩,?_,by dsimp only;omega⟩
      repeat' ((conv=>whnf);first|(with_reducible first|apply Wx|apply W6)|apply oi|(apply fi<;>intro h)|refine⟨_,rfl,?_⟩|((with_reducible show _=_);rfl))
      all_goals try((with_reducible refine Obl.mk ?_);exact KP)
      all_goals try exact⟨KW⟩
      all_goals try exact⟨by rw[hend]⟩
      all_goals try exact⟨by rw[allPl_snoc,List.take_of_length_le (by omega)]⟩
  ·rw[show(funs p).length - f=0 by omega]at hr
   have hr2:acc=imgL p b image (funs p).length 0 0:=by rw[←hr];simp[imgL]
   repeat' ((conv=>whnf);first|(with_reducible first|apply Wx|apply W6)|apply oi|(apply fi<;>intro h)|refine cl gF ?_|refine⟨_,rfl,?_⟩|((with_reducible show _=_);rfl))
   all_goals try((with_reducible refine Obl.mk ?_);exact KP)
   all_goals try exact KX
   all_goals exact⟨by rw[hr2]⟩
 ·have hcf:placesOf p b image=[]:=by rw[placesOf,if_neg hc]
  rw[hcf]
  cases h1:programOk p with
  | false=>
   rw[h1]at hP
   repeat' ((conv=>whnf);first|(with_reducible first|apply Wx|apply W6)|apply oi|(apply fi<;>intro h)|refine cl hP ?_|refine cl hB ?_|refine cl gb ?_|refine⟨_,rfl,?_⟩|((with_reducible show _=_);rfl))
   all_goals try((with_reducible refine Obl.mk ?_);exact KP)
   all_goals try exact KX
  | true=>
   rw[h1]at hP
   cases h2:buildOk b with
   | false=>
    rw[h2]at hB
    repeat' ((conv=>whnf);first|(with_reducible first|apply Wx|apply W6)|apply oi|(apply fi<;>intro h)|refine cl hP ?_|refine cl hB ?_|refine cl gb ?_|refine⟨_,rfl,?_⟩|((with_reducible show _=_);rfl))
    all_goals try((with_reducible refine Obl.mk ?_);exact KP)
    all_goals try exact KX
   | true=>
    rw[h2]at hB
    cases h3:within image 0 1 with
    | true=>exact absurd ⟨h1,h2,h3⟩ hc
    | false=>
     rw[h3]at gb
     repeat' ((conv=>whnf);first|(with_reducible first|apply Wx|apply W6)|apply oi|(apply fi<;>intro h)|refine cl hP ?_|refine cl hB ?_|refine cl gb ?_|refine⟨_,rfl,?_⟩|((with_reducible show _=_);rfl))
     all_goals try((with_reducible refine Obl.mk ?_);exact KP)
     all_goals try exact KX
end Go.Proofs.YtjmplnfiabmalaaGreat
namespace Go.Proofs.YtjmplnfiabmalaaGreat
open Go.Sim
set_option maxRecDepth 100000
set_option maxHeartbeats 4000000
theorem s_spec_AssembleImage (p:List TLine)(b:TBuild)(image:Int)(hs:smallT 1048576 (.lst 4 (p.map TLine.tr))):Sim.Spec Tryz.prog 38 [tvP p,.agg b.tr,tvI image] (.r (.agg ((assemble p b image).tr.map resC))):=by
 refine spec_of_Wo hΓ hmix Tryz.func38 rfl (by decide) rfl ?_
 have hP:=s_spec_PlacesOf p b image hs
 by_cases hc:programOk p=true∧buildOk b=true∧within image 0 1=true
 ·have hcf:assemble p b image=⟨codeOf (allPl (imgL p b image (funs p).length 0 0)),symsOf p 0 (imgL p b image (funs p).length 0 0)⟩:=by rw[assemble,if_pos hc]
  have hpf:placesOf p b image=allPl (imgL p b image (funs p).length 0 0):=by rw[placesOf,if_pos hc];rfl
  rw[hcf]
  rw[hpf]at hP
  obtain⟨h1,h2,h3⟩:=hc
  obtain⟨h6,h60⟩:=funs_six h1
  have hll:=imgL_len p b image (funs p).length 0 0
  have hlc:=fun x (hx:x∈imgL p b image (funs p).length 0 0)=>(imgL_cap hs hx).1
  have hfa:=fun{i:Nat} {x:Nat×List TPlace} {j:Nat} {y:TPlace} (h:(imgL p b image (funs p).length 0 0)[i]?=some x) (hy:x.2[j]?=some y)=>imgL_place hs h1 h2 h hy
  have hla:=fun{i:Nat} {x:Nat×List TPlace} (h:(imgL p b image (funs p).length 0 0)[i]?=some x)=>(imgL_at hs h1 h2 (by omega) h).2
  generalize imgL p b image (funs p).length 0 0=L at *
  repeat' ((conv=>whnf);first|(with_reducible first|apply Wx|apply W6)|apply oi|(apply fi<;>intro h)|refine cl hP ?_|refine⟨_,rfl,?_⟩|((with_reducible show _=_);rfl))
  all_goals try((with_reducible refine Obl.mk ?_);exact KP)
  conv=>whnf
  refine⟨{q:Nat×Nat // q.1≤L.length∧(∀x,L[q.1]?=some x→q.2 < x.2.length)∧(q.1=L.length→q.2=0)},fun q=>⟨[(0,vP p),(6,.r (.c (.ptr (6,0,0) 0))),(7,.r (.c (.ptr (7,0,0) 0))),(8,.r (.c (.own (15,0,0)))),(9,tI .i64 (((allPl (L.take q.1.1)).length+q.1.2:Nat):Int))],[((6,0,0),some (.box [.t (.str []),.nils 0])),((7,0,0),some (.box [.t (.str (codeQ L q.1.1 q.1.2)),.own (7,0,1)])),((7,0,1),some (.arr true 3 ((symsQ p L q.1.1 q.1.2).map TSymbol.tr))),((15,0,0),some (.arr true 8 ((allPl L).map TPlace.tr)))],[15,7,6]⟩,fun q=>(allPl L).length+1 - ((allPl (L.take q.1.1)).length+q.1.2),⟨(0,0),by dsimp only;omega,by intro x hx;exact(hla hx).2,fun _=>rfl⟩,?_,?_⟩
  ·skip
   repeat' ((conv=>whnf);first|(with_reducible first|apply Wx|apply W6)|apply oi|(apply fi<;>intro h)|refine⟨_,rfl,?_⟩|((with_reducible show _=_);rfl))
   all_goals try((with_reducible refine Obl.mk ?_);exact KP)
   all_goals try exact⟨by rw[codeQ_zero];rfl⟩
   all_goals try exact⟨by rw[symsQ_zero];rfl⟩
  intro⟨⟨i,j⟩,hi,hj,he⟩
  dsimp only at hi hj he ⊢
  by_cases hlt:i < L.length
  ·obtain⟨x,hx⟩:=get_of_lt hlt
   have hjx:=hj x hx
   obtain⟨y,hy⟩:=get_of_lt hjx
   obtain⟨hPI,hoff⟩:=hfa hx hy
   have hat:=allPl_at hx hy
   have hkl:=lt_of_get hat
   have hal:=allPl_le hlc
   have hal2:=Nat.mul_le_mul_left 2500 (show L.length≤6 by omega)
   have hkm:(allPl (L.take i)).length+j < ((allPl L).map TPlace.tr).length:=by rw[List.length_map];exact hkl
   have hgm:((allPl L).map TPlace.tr)[(allPl (L.take i)).length+j]?=some y.tr:=map_get hat
   have hE:=s_spec_EncodeOp y.fItem.fOp
   have hE5:=encodeOp_le y.fItem.fOp
   obtain⟨⟨i',j'⟩,q1,q2,q3,q4,q5,q6⟩:=next_pos (p:=p) (fun{i x} h=>(hla (i:=i) h).2) hx hjx
   dsimp only at q1 q2 q3 q4 q5 q6
   rw[codeQ_pos hx hy]at q5
   rw[symsQ_pos hx]at q6
   have hcl:=codeQ_len (j:=j) hx
   have hcl2:=codeOf_len (allPl (L.take i))
   have hcl3:=codeOf_len (x.2.take j)
   have hcl4:(allPl (L.take i)).length≤(allPl L).length:=by omega
   have hcl5:(x.2.take j).length≤2500:=by have:=hlc x (List.mem_of_getElem? hx);rw[List.length_take];omega
   have hcl6:codeOf (x.2.take (j+1))=codeOf (x.2.take j)++encodeOp y.fItem.fOp:=by rw[take_one hy,codeOf_append,codeOf_one]
   rw[hcl6,List.length_append]at q6
   have hS0:(symsOf p 0 (L.take i)).length=i:=by rw[symsOf_len,List.length_take];omega
   rcases Nat.eq_zero_or_pos j with rfl|hj0
   ·obtain⟨hcode,g,ln,hf1,hf2,hf3,hf4⟩:=hPI.head rfl
    have hnm:nameOf p x.1=ln.fName:=by rw[nameOf,hf1];dsimp only;rw[hf3]
    rw[symsQ_zero]
    have hz0:codeOf (x.2.take 0)=[]:=by simp[codeOf]
    rw[hz0]at q6 hcl hoff
    rw[List.length_nil]at hcl hoff
    generalize codeQ L i 0=C at *
    generalize symsOf p 0 (L.take i)=S0 at *
    generalize encodeOp y.fItem.fOp=EB at *
    generalize codeOf (allPl (L.take i))=C0 at *
    have hix:IntKind.i64.wrap (((S0.map TSymbol.tr++[[Tr.str ln.fName,Tr.int .i64 y.fOffset,Tr.int .i64 0]]).length:Int) - 1)=(i:Int):=by
     rw[List.length_append,List.length_map,hS0];simp only[List.length_cons,List.length_nil];rw[IntWalk.i64_in _ (by omega)];omega
    have hil:i < (S0.map TSymbol.tr++[[Tr.str ln.fName,Tr.int .i64 y.fOffset,Tr.int .i64 0]]).length:=by
     rw[List.length_append,List.length_map,hS0];simp
    have hig:(S0.map TSymbol.tr++[[Tr.str ln.fName,Tr.int .i64 y.fOffset,Tr.int .i64 0]])[i]?=some [Tr.str ln.fName,Tr.int .i64 y.fOffset,Tr.int .i64 0]:=by
     rw[List.getElem?_append_right (by rw[List.length_map,hS0];exact Nat.le_refl _),List.length_map,hS0];simp
    have fin:∀(KK:List (List Tr)),KK=(S0.map TSymbol.tr++[[Tr.str ln.fName,Tr.int .i64 y.fOffset,Tr.int .i64 0]]).set i [Tr.str ln.fName,Tr.int .i64 y.fOffset,Tr.int .i64 (IntKind.i64.wrap (((C++EB).length:Int) - y.fOffset))]→KK=(symsQ p L i' j').map TSymbol.tr:=fun KK h=>by
     rw[h,q6,hnm,List.set_append_right _ _ (by rw[List.length_map,hS0];exact Nat.le_refl _),List.length_map,hS0,Nat.sub_self,List.map_append,List.length_append,IntWalk.i64_in _ (by omega)]
     simp only[List.set_cons_zero,List.map_cons,List.map_nil,TSymbol.tr]
     congr 6 <;> (simp only[List.length_nil];omega)
    rcases hcode with hcode|hcode
    all_goals(
     repeat' ((conv=>whnf);first|(with_reducible first|apply Wx|apply W6)|apply oi|(apply fi<;>intro h)|refine⟨_,rfl,hkm,?_⟩|refine⟨_,hgm,?_⟩|refine cl hE ?_|refine⟨g,ln.tr,hf2,map_get hf3,?_⟩|refine⟨_,hix,hil,?_⟩|refine⟨_,hig,?_⟩|refine⟨_,rfl,?_⟩|((with_reducible show _=_);rfl))
     all_goals try((with_reducible refine Obl.mk ?_);exact KP)
     all_goals try exact KK
     all_goals try exact⟨by omega⟩
     all_goals try exact⟨⟨by simp only[List.length_nil,List.length_cons,List.length_map,hS0] <;> omega,by simp only[List.length_nil,List.length_cons,List.length_map,hS0] <;> omega⟩⟩
     all_goals(
      conv=>whnf
      refine⟨⟨(i',j'),q1,q2,q3⟩,?_,by dsimp only;omega⟩
      repeat' ((conv=>whnf);first|(with_reducible first|apply Wx|apply W6)|apply oi|(apply fi<;>intro h)|refine⟨_,rfl,?_⟩|((with_reducible show _=_);rfl))
      all_goals try((with_reducible refine Obl.mk ?_);exact KP)
      all_goals try exact⟨KW⟩
      all_goals try exact⟨by rw[q5]⟩
      all_goals try exact⟨fin _ rfl⟩
      all_goals exact⟨congrArg (Tr.int _) (by dsimp only;rw[IntWalk.i64_in _ (by omega)];omega)⟩))
   ·obtain⟨j,rfl⟩:∃j0,j=j0+1:=⟨j - 1,by omega⟩
    obtain⟨hcode,m,ln,hf2,hf3,hf4⟩:=hPI.body hj0
    rw[symsQ_pos hx]
    generalize codeQ L i (j+1)=C at *
    generalize symsOf p 0 (L.take i)=S0 at *
    generalize encodeOp y.fItem.fOp=EB at *
    generalize codeOf (allPl (L.take i))=C0 at *
    generalize codeOf (x.2.take (j+1))=C1 at *
    have hix:IntKind.i64.wrap ((((S0++[(⟨nameOf p x.1,(C0.length:Int),(C1.length:Int)⟩:TSymbol)]).map TSymbol.tr).length:Int) - 1)=(i:Int):=by
     rw[List.length_map,List.length_append,hS0];simp only[List.length_cons,List.length_nil];rw[IntWalk.i64_in _ (by omega)];omega
    have hil:i < ((S0++[(⟨nameOf p x.1,(C0.length:Int),(C1.length:Int)⟩:TSymbol)]).map TSymbol.tr).length:=by
     rw[List.length_map,List.length_append,hS0];simp
    have hig:((S0++[(⟨nameOf p x.1,(C0.length:Int),(C1.length:Int)⟩:TSymbol)]).map TSymbol.tr)[i]?=some [Tr.str (nameOf p x.1),Tr.int .i64 (C0.length:Int),Tr.int .i64 (C1.length:Int)]:=by
     rw[List.getElem?_map,List.getElem?_append_right (by rw[hS0];exact Nat.le_refl _),hS0];simp[TSymbol.tr]
    have fin:∀(KK:List (List Tr)),KK=((S0++[(⟨nameOf p x.1,(C0.length:Int),(C1.length:Int)⟩:TSymbol)]).map TSymbol.tr).set i [Tr.str (nameOf p x.1),Tr.int .i64 (C0.length:Int),Tr.int .i64 (IntKind.i64.wrap (((C++EB).length:Int) - (C0.length:Int)))]→KK=(symsQ p L i' j').map TSymbol.tr:=fun KK h=>by
     rw[h,q6,List.map_append,List.set_append_right _ _ (by rw[List.length_map,hS0];exact Nat.le_refl _),List.length_map,hS0,Nat.sub_self,List.map_append,List.length_append,IntWalk.i64_in _ (by omega)]
     simp only[List.set_cons_zero,List.map_cons,List.map_nil,TSymbol.tr]
     congr 6;omega
    repeat' ((conv=>whnf);first|(with_reducible first|apply Wx|apply W6)|apply oi|(apply fi<;>intro h)|refine⟨_,rfl,hkm,?_⟩|refine⟨_,hgm,?_⟩|refine cl hE ?_|refine⟨m,ln.tr,hf2,map_get hf3,?_⟩|refine⟨_,hix,hil,?_⟩|refine⟨_,hig,?_⟩|refine⟨_,rfl,?_⟩|((with_reducible show _=_);rfl))
    all_goals try((with_reducible refine Obl.mk ?_);exact KP)
    all_goals try exact KK
    all_goals try exact⟨by omega⟩
    all_goals(
     conv=>whnf
     refine⟨⟨(i',j'),q1,q2,q3⟩,?_,by dsimp only;omega⟩
     repeat' ((conv=>whnf);first|(with_reducible first|apply Wx|apply W6)|apply oi|(apply fi<;>intro h)|refine⟨_,rfl,?_⟩|((with_reducible show _=_);rfl))
     all_goals try((with_reducible refine Obl.mk ?_);exact KP)
     all_goals try exact⟨KW⟩
     all_goals try exact⟨by rw[q5]⟩
     all_goals try exact⟨fin _ rfl⟩
     all_goals exact⟨congrArg (Tr.int _) (by dsimp only;rw[IntWalk.i64_in _ (by omega)];omega)⟩)
  ·have hil:i=L.length:=by omega
   subst hil
   have hj0:=he rfl
   subst hj0
   rw[codeQ_end,symsQ_end,List.take_of_length_le (Nat.le_refl _)]
   repeat' ((conv=>whnf);first|(with_reducible first|apply Wx|apply W6)|apply oi|(apply fi<;>intro h)|refine⟨_,rfl,?_⟩|((with_reducible show _=_);rfl))
   all_goals try((with_reducible refine Obl.mk ?_);exact KP)
   all_goals try(exfalso;simp only[List.length_map,decide_eq_true_eq]at h;omega)
 ·have hcf:assemble p b image=⟨[],[]⟩:=by rw[assemble,if_neg hc]
  have hpf:placesOf p b image=[]:=by rw[placesOf,if_neg hc]
  rw[hcf]
  rw[hpf]at hP
  repeat' ((conv=>whnf);first|(with_reducible first|apply Wx|apply W6)|apply oi|(apply fi<;>intro h)|refine cl hP ?_|refine⟨_,rfl,?_⟩|((with_reducible show _=_);rfl))
  all_goals try((with_reducible refine Obl.mk ?_);exact KP)
  conv=>whnf
  refine⟨Unit,fun _=>⟨[(0,vP p),(6,.r (.c (.ptr (6,0,0) 0))),(7,.r (.c (.ptr (7,0,0) 0))),(8,.r (.c (.own (15,0,0)))),(9,tI .i64 0)],[((6,0,0),some (.box [.t (.str []),.nils 0])),((7,0,0),some (.box [.t (.str []),.own (7,0,1)])),((7,0,1),some (.arr true 3 [])),((15,0,0),some (.arr true 8 []))],[15,7,6]⟩,fun _=>0,(),?_,?_⟩
  ·skip
   repeat' ((conv=>whnf);first|(with_reducible first|apply Wx|apply W6)|apply oi|(apply fi<;>intro h)|refine⟨_,rfl,?_⟩|((with_reducible show _=_);rfl))
   all_goals try((with_reducible refine Obl.mk ?_);exact KP)
  intro _
  repeat' ((conv=>whnf);first|(with_reducible first|apply Wx|apply W6)|apply oi|(apply fi<;>intro h)|refine⟨_,rfl,?_⟩|((with_reducible show _=_);rfl))
  all_goals try((with_reducible refine Obl.mk ?_);exact KP)
  all_goals try(exfalso;simp at h;done)
theorem nameOf_small {p:List TLine}(hs:smallT 1048576 (.lst 4 (p.map TLine.tr)))(f:Nat):(nameOf p f).length≤1048576:=by
 unfold nameOf
 split
 ·split
  ·rename_i g _ y hy
   have:=smallRs_map hs (List.mem_of_getElem? hy)
   simp only[TLine.tr,smallR,smallT]at this
   omega
  ·simp
 ·simp
theorem symsOf_names {p:List TLine}(hs:smallT 1048576 (.lst 4 (p.map TLine.tr))):∀(L:List (Nat×List TPlace)) (at0:Int) (x:TSymbol),x∈symsOf p at0 L→x.fName.length≤1048576
 | [],_,_,h=>by cases h
 |(f,l)::L,at0,x,h=>by
  rw[symsOf]at h
  rcases List.mem_cons.1 h with rfl|h
  ·exact nameOf_small hs f
  ·exact symsOf_names hs L _ x h
theorem assemble_small {p:List TLine}{b:TBuild}{image:Int}(hs:smallT 1048576 (.lst 4 (p.map TLine.tr))):smallR 1048576 (assemble p b image).tr:=by
 rw[assemble]
 split
 ·rename_i hc
  obtain⟨h1,h2,h3⟩:=hc
  obtain⟨h6,_⟩:=funs_six h1
  have hll:=imgL_len p b image (funs p).length 0 0
  have hal:=allPl_le fun x (hx:x∈imgL p b image (funs p).length 0 0)=>(imgL_cap hs hx).1
  have hcl:=codeOf_len (allPl (imgL p b image (funs p).length 0 0))
  have hal2:=Nat.mul_le_mul_left 2500 (show(imgL p b image (funs p).length 0 0).length≤6 by omega)
  refine⟨by simp only[smallT];omega,?_,trivial⟩
  exact small_map (by rw[symsOf_len];omega) fun x hx=>by
   have:=symsOf_names hs _ _ x hx
   simp only[TSymbol.tr,smallR,smallT]
   exact⟨by omega,trivial,trivial,trivial⟩
 ·simp[TImage.tr,smallR,smallT,smallRs]
end Go.Proofs.YtjmplnfiabmalaaGreat
