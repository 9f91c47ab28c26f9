import Derived.Test.YtoglejgmjeojoaaGreatGe
namespace Go.Proofs.YtoglejgmjeojoaaGreat
open Go.Sim
set_option maxRecDepth 100000
set_option maxHeartbeats 4000000
def jA {α:Type}[BEq α]:List α→Nat→α→Option Nat
 | [],_,_=>none
 | x::l,i,s=>if(x==s)=true then some i else jA l (i+1) s
theorem xb {α:Type}[BEq α]{l:List α}{i:Nat}{x s:α}(hx:l[i]?=some x):jA (l.drop i) i s=if(x==s)=true then some i else jA (l.drop (i+1)) (i+1) s:=by
 rw[cV hx,jA]
theorem vw {α:Type}[BEq α]:∀{l:List α} {i k:Nat} {s:α},jA l i s=some k→i≤k∧k < i+l.length
 | [],_,_,_,h=>by rw[jA]at h;cases h
 | x::l,i,k,s,h=>by
  rw[jA]at h
  simp only[List.length_cons]
  split at h
  ·injection h with h;omega
  ·have:=vw h;omega
theorem zn {α:Type}[BEq α][LawfulBEq α]:∀{l:List α} {i:Nat} {s:α},(jA l i s).isSome=l.contains s
 | [],_,_=>rfl
 | x::l,i,s=>by
  rw[jA,List.contains_cons]
  cases h:(x==s)with
  | true=>rw[if_pos rfl];simp[eq_of_beq h]
  | false=>
   have h2:(s==x)=false:=by rw[beq_eq_false_iff_ne]at h ⊢;exact fun e=>h e.symm
   rw[if_neg (by simp),h2,Bool.false_or]
   exact zn
def cQ {α:Type}[BEq α](l:List α)(s:α):Int:=cp (jA l 0 s)
theorem mz {α:Type}[BEq α][LawfulBEq α]{l:List α}{s:α}:decide (0≤cQ l s)=l.contains s:=by
 rw[←zn (i:=0),cQ]
 cases jA l 0 s with
 | none=>rfl
 | some k=>simp[cp]
theorem gR (l:List (List UInt8))(s:List UInt8)(hl:l.length≤4194304):Sim.Spec Tryz.prog 263 [tvL 1 (l.map ag),tvS s] (rI (cQ l s)):=by
 refine aj hΓ ao Tryz.func263 rfl (by decide) rfl ?_
 have hlen:(l.map ag).length=l.length:=by simp
 obtain⟨R,hR⟩:∃R,cQ l s=R:=⟨_,rfl⟩
 rw[hR]
 repeat' ((conv=>whnf);first|refine Or.inl ?_|apply oi|(apply fi<;>intro h)|refine⟨_,rfl,?_⟩|exact rfl)
 all_goals try exact⟨KO⟩
 conv=>whnf
 refine⟨{k:Nat // k≤l.length∧cp (jA (l.drop k) k s)=R},fun k=>⟨[(0,.r (.c (.t (.lst 1 (l.map ag))))),(1,tS s),(6,.r (.c (.t (.lst 1 (l.map ag))))),(7,tI .i64 ((l.map ag).length:Int)),(8,tI .i64 (k.1:Int))],[],[]⟩,fun k=>l.length - k.1,⟨0,by omega,hR⟩,?_,?_⟩
 ·skip
  repeat' ((conv=>whnf);first|refine Or.inl ?_|apply oi|(apply fi<;>intro h)|refine⟨_,rfl,?_⟩|exact rfl)
  all_goals try exact⟨KO⟩
 intro⟨k,hk,hr⟩
 dsimp only at hk hr ⊢
 by_cases hlt:k < l.length
 ·obtain⟨x,hx⟩:=ae hlt
  rw[xb hx]at hr
  cases he:(x==s)with
  | true=>
   rw[he,if_pos rfl]at hr
   have he2:=eq_of_beq he
   subst he2
   subst hr
   repeat' ((conv=>whnf);first|refine Or.inl ?_|apply oi|(apply fi<;>intro h)|refine⟨k,(ag x),rfl,ab hx,?_⟩|refine⟨_,rfl,?_⟩|exact rfl)
   all_goals try exact⟨KO⟩
   all_goals try exact KX
   all_goals try(exfalso;(try simp_all[af]);(try omega);done)
  | false=>
   rw[he,if_neg (by simp)]at hr
   repeat' ((conv=>whnf);first|refine Or.inl ?_|apply oi|(apply fi<;>intro h)|refine⟨k,(ag x),rfl,ab hx,?_⟩|refine⟨_,rfl,?_⟩|exact rfl)
   all_goals try exact⟨KO⟩
   all_goals try exact KX
   all_goals try(exfalso;(try simp_all[af]);(try omega);done)
   conv=>whnf
   refine⟨⟨k+1,by omega,hr⟩,?_,KD⟩
   repeat' ((conv=>whnf);first|refine Or.inl ?_|apply oi|(apply fi<;>intro h)|refine⟨_,rfl,?_⟩|exact rfl)
   all_goals try exact⟨KO⟩
   all_goals try exact⟨K4⟩
 ·rw[List.drop_eq_nil_of_le (by omega),jA]at hr
  subst hr
  repeat' ((conv=>whnf);first|refine Or.inl ?_|apply oi|(apply fi<;>intro h)|refine⟨_,rfl,?_⟩|exact rfl)
  all_goals try exact⟨KO⟩
  all_goals try exact KX
theorem eX (l:List (List UInt8))(s:List UInt8)(hl:l.length≤4194304):Sim.Spec Tryz.prog 247 [tvL 1 (l.map ag),tvS s] (rB (l.contains s)):=by
 refine aj hΓ ao Tryz.func247 rfl (by decide) rfl ?_
 have hI:=gR l s hl
 rw[←mz]
 generalize cQ l s=e at *
 repeat' ((conv=>whnf);first|refine Or.inl ?_|apply oi|(apply fi<;>intro h)|refine ci hI (ai rfl (ai rfl trivial)) ?_|refine⟨_,rfl,?_⟩|exact rfl)
 all_goals try exact⟨KO⟩
theorem kZ (l:List Int)(s:Int)(hl:l.length≤4194304):Sim.Spec Tryz.prog 217 [tvL 1 (l.map aa),tvI s] (rI (cQ l s)):=by
 refine aj hΓ ao Tryz.func217 rfl (by decide) rfl ?_
 have hlen:(l.map aa).length=l.length:=by simp
 obtain⟨R,hR⟩:∃R,cQ l s=R:=⟨_,rfl⟩
 rw[hR]
 repeat' ((conv=>whnf);first|refine Or.inl ?_|apply oi|(apply fi<;>intro h)|refine⟨_,rfl,?_⟩|exact rfl)
 all_goals try exact⟨KO⟩
 conv=>whnf
 refine⟨{k:Nat // k≤l.length∧cp (jA (l.drop k) k s)=R},fun k=>⟨[(0,.r (.c (.t (.lst 1 (l.map aa))))),(1,tI .i64 s),(6,.r (.c (.t (.lst 1 (l.map aa))))),(7,tI .i64 ((l.map aa).length:Int)),(8,tI .i64 (k.1:Int))],[],[]⟩,fun k=>l.length - k.1,⟨0,by omega,hR⟩,?_,?_⟩
 ·skip
  repeat' ((conv=>whnf);first|refine Or.inl ?_|apply oi|(apply fi<;>intro h)|refine⟨_,rfl,?_⟩|exact rfl)
  all_goals try exact⟨KO⟩
 intro⟨k,hk,hr⟩
 dsimp only at hk hr ⊢
 by_cases hlt:k < l.length
 ·obtain⟨x,hx⟩:=ae hlt
  rw[xb hx]at hr
  cases he:(x==s)with
  | true=>
   rw[he,if_pos rfl]at hr
   have he2:=eq_of_beq he
   subst he2
   subst hr
   repeat' ((conv=>whnf);first|refine Or.inl ?_|apply oi|(apply fi<;>intro h)|refine⟨k,(aa x),rfl,ab hx,?_⟩|refine⟨_,rfl,?_⟩|exact rfl)
   all_goals try exact⟨KO⟩
   all_goals try exact KX
   all_goals try(exfalso;(try simp_all[af]);(try omega);done)
  | false=>
   rw[he,if_neg (by simp)]at hr
   repeat' ((conv=>whnf);first|refine Or.inl ?_|apply oi|(apply fi<;>intro h)|refine⟨k,(aa x),rfl,ab hx,?_⟩|refine⟨_,rfl,?_⟩|exact rfl)
   all_goals try exact⟨KO⟩
   all_goals try exact KX
   all_goals try(exfalso;(try simp_all[af]);(try omega);done)
   conv=>whnf
   refine⟨⟨k+1,by omega,hr⟩,?_,KD⟩
   repeat' ((conv=>whnf);first|refine Or.inl ?_|apply oi|(apply fi<;>intro h)|refine⟨_,rfl,?_⟩|exact rfl)
   all_goals try exact⟨KO⟩
   all_goals try exact⟨K4⟩
 ·rw[List.drop_eq_nil_of_le (by omega),jA]at hr
  subst hr
  repeat' ((conv=>whnf);first|refine Or.inl ?_|apply oi|(apply fi<;>intro h)|refine⟨_,rfl,?_⟩|exact rfl)
  all_goals try exact⟨KO⟩
  all_goals try exact KX
theorem iA (l:List Int)(s:Int)(hl:l.length≤4194304):Sim.Spec Tryz.prog 156 [tvL 1 (l.map aa),tvI s] (rB (l.contains s)):=by
 refine aj hΓ ao Tryz.func156 rfl (by decide) rfl ?_
 have hI:=kZ l s hl
 rw[←mz]
 generalize cQ l s=e at *
 repeat' ((conv=>whnf);first|refine Or.inl ?_|apply oi|(apply fi<;>intro h)|refine ci hI (ai rfl (ai rfl trivial)) ?_|refine⟨_,rfl,?_⟩|exact rfl)
 all_goals try exact⟨KO⟩
def uP (l:List (List UInt8)):Nat→Nat→Bool
 | 0,_=>true
 | n+1,k=>match l[k]? with
  | some s=>if cA s=true∧(l.take k).contains s=false then uP l n (k+1)else false
  | none=>true
theorem vV {l:List (List UInt8)}{k:Nat}{s:List UInt8}(hx:l[k]?=some s):uP l (l.length - k) k=if cA s=true∧(l.take k).contains s=false then uP l (l.length - (k+1)) (k+1)else false:=by
 have hk:k < l.length:=by
  rcases Nat.lt_or_ge k l.length with h|h
  ·exact h
  ·rw[List.getElem?_eq_none h]at hx;cases hx
 rw[show l.length - k=(l.length - (k+1))+1 by omega,uP,hx]
def kM (l:List (List UInt8)):Bool:=uP l l.length 0 && decide (l.length≤4)
theorem sR (l:List (List UInt8))(hl:l.length≤1048576)(hn:∀x∈l,x.length≤1099511627775):Sim.Spec Tryz.prog 211 [tvL 1 (l.map ag)] (rB (kM l)):=by
 refine aj hΓ ao Tryz.func211 rfl (by decide) rfl ?_
 have hlen:(l.map ag).length=l.length:=by simp
 obtain⟨R,hR⟩:∃R,kM l=R:=⟨_,rfl⟩
 rw[hR]
 repeat' ((conv=>whnf);first|refine Or.inl ?_|apply oi|(apply fi<;>intro h)|refine⟨_,rfl,?_⟩|exact rfl)
 all_goals try exact⟨KO⟩
 conv=>whnf
 refine⟨{k:Nat // k≤l.length∧(uP l (l.length - k) k && decide (l.length≤4))=R},fun k=>⟨[(0,.r (.c (.t (.lst 1 (l.map ag))))),(5,.r (.c (.t (.lst 1 (l.map ag))))),(6,tI .i64 ((l.map ag).length:Int)),(7,tI .i64 (k.1:Int))],[],[]⟩,fun k=>l.length - k.1,⟨0,by omega,by rw[Nat.sub_zero];exact hR⟩,?_,?_⟩
 ·skip
  repeat' ((conv=>whnf);first|refine Or.inl ?_|apply oi|(apply fi<;>intro h)|refine⟨_,rfl,?_⟩|exact rfl)
  all_goals try exact⟨KO⟩
 intro⟨k,hk,hr⟩
 dsimp only at hk hr ⊢
 by_cases hlt:k < l.length
 ·obtain⟨s,hs⟩:=ae hlt
  rw[vV hs]at hr
  have hN:=gk s (hn s (List.mem_of_getElem? hs))
  have hC:=eX (l.take k) s (by simp;omega)
  cases hno:cA s with
  | false=>
   rw[hno]at hN hr
   rw[if_neg (by simp),Bool.false_and]at hr
   subst hr
   repeat' ((conv=>whnf);first|refine Or.inl ?_|apply oi|(apply fi<;>intro h)|refine⟨k,(ag s),rfl,ab hs,?_⟩|refine ci hN (ai rfl trivial) ?_|refine⟨_,rfl,?_⟩|exact rfl)
   all_goals try exact⟨KO⟩
   all_goals try exact KX
   all_goals try(exfalso;(try simp_all[af]);(try omega);done)
  | true=>
   rw[hno]at hN hr
   cases hco:(l.take k).contains s with
   | true=>
    rw[hco]at hC hr
    rw[if_neg (by simp),Bool.false_and]at hr
    subst hr
    rw[List.map_take]at hC
    repeat' ((conv=>whnf);first|refine Or.inl ?_|apply oi|(apply fi<;>intro h)|refine⟨k,(ag s),rfl,ab hs,?_⟩|refine ci hN (ai rfl trivial) ?_|refine⟨_,rfl,?_⟩|exact rfl)
    all_goals try exact⟨KO⟩
    all_goals try exact KX
    all_goals try(exfalso;(try simp_all[af]);(try omega);done)
    conv=>whnf
    refine⟨0,k,rfl,rfl,by omega,by omega,?_⟩
    repeat' ((conv=>whnf);first|refine Or.inl ?_|apply oi|(apply fi<;>intro h)|refine ci hC (ai rfl (ai rfl trivial)) ?_|refine⟨_,rfl,?_⟩|exact rfl)
    all_goals try exact⟨KO⟩
   | false=>
    rw[hco]at hC hr
    rw[if_pos ⟨rfl,rfl⟩]at hr
    rw[List.map_take]at hC
    repeat' ((conv=>whnf);first|refine Or.inl ?_|apply oi|(apply fi<;>intro h)|refine⟨k,(ag s),rfl,ab hs,?_⟩|refine ci hN (ai rfl trivial) ?_|refine⟨_,rfl,?_⟩|exact rfl)
    all_goals try exact⟨KO⟩
    all_goals try exact KX
    all_goals try(exfalso;(try simp_all[af]);(try omega);done)
    conv=>whnf
    refine⟨0,k,rfl,rfl,by omega,by omega,?_⟩
    repeat' ((conv=>whnf);first|refine Or.inl ?_|apply oi|(apply fi<;>intro h)|refine ci hC (ai rfl (ai rfl trivial)) ?_|refine⟨_,rfl,?_⟩|exact rfl)
    all_goals try exact⟨KO⟩
    all_goals try exact KX
    all_goals try(exfalso;(try simp_all[af]);(try omega);done)
    conv=>whnf
    refine⟨⟨k+1,by omega,hr⟩,?_,KD⟩
    repeat' ((conv=>whnf);first|refine Or.inl ?_|apply oi|(apply fi<;>intro h)|refine⟨_,rfl,?_⟩|exact rfl)
    all_goals try exact⟨KO⟩
    all_goals try exact⟨K4⟩
 ·rw[show l.length - k=0 by omega,uP,Bool.true_and]at hr
  subst hr
  repeat' ((conv=>whnf);first|refine Or.inl ?_|apply oi|(apply fi<;>intro h)|refine⟨_,rfl,?_⟩|exact rfl)
  all_goals try exact⟨KO⟩
  all_goals try exact KX
  all_goals exact⟨congrArg Tr.bool (decide_eq_decide.2 (by rw[hlen];omega))⟩
def cR (k:Int):Bool:=k==1 || (k==2 || (k==3 || (k==5 || k==6)))
theorem lQ (k:Int):Sim.Spec Tryz.prog 212 [tvI k] (rB (cR k)):=by
 refine aj hΓ ao Tryz.func212 rfl (by decide) rfl ?_
 unfold cR
 repeat' ((conv=>whnf);first|refine Or.inl ?_|apply oi|(apply fi<;>intro h)|refine⟨_,rfl,?_⟩|exact rfl)
 all_goals try exact⟨KO⟩
 all_goals(refine⟨congrArg Tr.bool ?_⟩;simp_all;(try(rw[Bool.eq_iff_iff];simp;omega)))
theorem pQ (k:Int)(hk:af k 0 7=true):Sim.Spec Tryz.prog 190 [tvI k] (rB (cR k)):=by
 refine aj hΓ ao Tryz.func190 rfl (by decide) rfl ?_
 have:=within_iff.1 hk
 unfold cR
 repeat' ((conv=>whnf);first|refine Or.inl ?_|apply oi|(apply fi<;>intro h)|refine⟨_,rfl,?_⟩|exact rfl)
 all_goals try exact⟨KO⟩
 all_goals(refine⟨congrArg Tr.bool ?_⟩;simp_all;(try(rw[Bool.eq_iff_iff];simp;done));(try(rw[Bool.eq_iff_iff];simp;omega)))
def co (x:FX):Bool:=af x.faa 0 7 && ((if x.faa=0∨x.faa=1 then cA x.fab else x.fab==[]) && ((if x.faa=0 then kM x.faf else x.faf.length==0) && (if cR x.faa=true then bi x.fad else x.fad.length==0)))
theorem cD {x:FX}(hs:aw 1048576 x.tr):x.fab.length≤1048576∧x.faf.length≤1048576∧(∀y∈x.faf,y.length≤1048576)∧x.fad.length≤1048576∧(∀y∈x.fad,y.fab.length≤1048576):=by
 simp only[FX.tr,aw]at hs
 obtain⟨_,h1,h2,h3,_⟩:=hs
 have e1:=cU h2
 have e2:=cU h3
 refine⟨by rw[ay]at h1;omega,by omega,fun y hy=>?_,by omega,fun y hy=>?_⟩
 ·have:=aA h2 hy
  simp only[ag,aw,ay]at this
  omega
 ·have:=aA h3 hy
  simp only[Gf.tr,aw,ay]at this
  omega
theorem xN {x:FX}(h:af x.faa 0 7=false):co x=false:=by
 unfold co;rw[h];rfl
theorem rg {x:FX}(h:4 < x.faf.length):co x=false:=by
 have h1:kM x.faf=false:=by unfold kM;rw[decide_eq_false (by omega),Bool.and_false]
 have h2:(x.faf.length==0)=false:=by rw[beq_eq_false_iff_ne];omega
 unfold co
 rw[h1,h2]
 split <;> simp
theorem mX (x:FX)(hs:aw 1048576 x.tr):Sim.Spec Tryz.prog 151 [.agg x.tr] (rB (co x)):=by
 refine aj hΓ ao Tryz.func151 rfl (by decide) rfl ?_
 obtain⟨h1,h2,h3,h4,h5⟩:=cD hs
 have hB:=aE x.faa 0 7
 have hN:=gk x.fab (by omega)
 have hA:=sR x.faf h2 (fun y hy=>by have:=h3 y hy;omega)
 have hH:=lQ x.faa
 have hE:=nd x.fad h4 (fun y hy=>by have:=h5 y hy;omega)
 unfold co
 generalize af x.faa 0 7=b1 at *
 generalize cA x.fab=b2 at *
 generalize kM x.faf=b3 at *
 generalize cR x.faa=b4 at *
 generalize bi x.fad=b5 at *
 have hl1:(x.faf.map ag).length=x.faf.length:=by simp
 have hl2:(x.fad.map Gf.tr).length=x.fad.length:=by simp
 repeat' ((conv=>whnf);first|refine Or.inl ?_|apply oi|(apply fi<;>intro h)|refine ci hB (ai rfl (ai rfl (ai rfl trivial))) ?_|refine ci hN (ai rfl trivial) ?_|refine ci hA (ai rfl trivial) ?_|refine ci hH (ai rfl trivial) ?_|refine ci hE (ai rfl trivial) ?_|refine⟨_,rfl,?_⟩|exact rfl)
 all_goals try exact⟨KO⟩
 all_goals(refine⟨congrArg Tr.bool ?_⟩;simp_all;(try(rw[Bool.eq_iff_iff];simp;done));(try(rw[Bool.eq_iff_iff];simp;omega));(try(intro hh;exfalso;simp_all;done)))
theorem CC {l:List (List UInt8)}{k i:Nat}{y s:List UInt8}(hi:i < k)(hy:l[i]?=some y):((l.take k).drop i).contains s=(s==y || ((l.take k).drop (i+1)).contains s):=by
 rw[cV (x:=y) (by rw[List.getElem?_take,if_pos hi];exact hy),List.contains_cons]
theorem CH {x:FX}(hk:af x.faa 0 7=true)(h0:x.faa=0)(ha:x.faf.length≤4):co x=(uP x.faf x.faf.length 0 && (cA x.fab && x.fad.length==0)):=by
 unfold co kM
 rw[hk,if_pos (.inl h0),if_pos h0,if_neg (by rw[h0];decide),decide_eq_true ha]
 cases cA x.fab <;> cases uP x.faf x.faf.length 0 <;> simp
theorem CU {x:FX}(hk:af x.faa 0 7=true)(h0:x.faa≠0):co x=(x.faf.length==0 && ((if x.faa=1 then cA x.fab else x.fab==[]) && (if cR x.faa=true then bi x.fad else x.fad.length==0))):=by
 have e:(if x.faa=0∨x.faa=1 then cA x.fab else x.fab==[])=(if x.faa=1 then cA x.fab else x.fab==[]):=by
  by_cases h1:x.faa=1
  ·rw[if_pos (.inr h1),if_pos h1]
  ·rw[if_neg (by omega),if_neg h1]
 unfold co
 rw[hk,if_neg h0,e,Bool.true_and]
 generalize(if x.faa=1 then cA x.fab else x.fab==[])=a
 generalize(if cR x.faa=true then bi x.fad else x.fad.length==0)=b
 cases a <;> cases(x.faf.length==0) <;> simp
theorem Bg (n:Nat):((n:Int)==0)=(n==0):=by rw[Bool.eq_iff_iff];simp
abbrev Fr (x:FX):AO:= .box (x.tr.map .t)
theorem nq (x:FX)(hs:aw 1048576 x.tr):Sim.Spec Tryz.prog 119 [.agg x.tr] (rB (co x)):=by
 refine aj hΓ ao Tryz.func119 rfl (by decide) rfl ?_
 obtain⟨h1,h2,h3,h4,h5⟩:=cD hs
 have hB:=bd x.faa 0 7
 have hN:=eN x.fab (by omega)
 have hE:=np x.fad h4 (fun y hy=>by have:=h5 y hy;omega)
 have hl1:(x.faf.map ag).length=x.faf.length:=by simp
 have hl2:(x.fad.map Gf.tr).length=x.fad.length:=by simp
 cases hk:af x.faa 0 7 with
 | false=>
  rw[hk]at hB
  rw[xN hk]
  repeat' ((conv=>whnf);first|refine Or.inl ?_|apply oi|(apply fi<;>intro h)|refine ci hB (ai rfl (ai rfl (ai rfl trivial))) ?_|refine⟨_,rfl,?_⟩|exact rfl)
  all_goals try exact⟨KO⟩
  all_goals try exact KX
 | true=>
  rw[hk]at hB
  have hH:=pQ x.faa hk
  by_cases ha:x.faf.length≤4
  ·by_cases h0:x.faa=0
   ·rw[CH hk h0 ha]
    generalize cA x.fab=b2 at *
    generalize bi x.fad=b5 at *
    obtain⟨A,hA⟩:∃A,uP x.faf x.faf.length 0=A:=⟨_,rfl⟩
    rw[hA]
    have hh0:cR x.faa=false:=by rw[h0];rfl
    rw[hh0]at hH
    repeat' ((conv=>whnf);first|refine Or.inl ?_|apply oi|(apply fi<;>intro h)|refine ci hB (ai rfl (ai rfl (ai rfl trivial))) ?_|refine⟨_,rfl,?_⟩|exact rfl)
    all_goals try exact⟨KO⟩
    all_goals try exact KX
    conv=>whnf
    refine⟨{k:Nat // k≤x.faf.length∧uP x.faf (x.faf.length - k) k=A},fun q=>⟨[(1,.r (.c (.ptr (1,0,0) 0))),(3,tI .i64 (q.1:Int))],[((1,0,0),some (Fr x))],[1]⟩,fun q=>x.faf.length - q.1,⟨0,by omega,by rw[Nat.sub_zero];exact hA⟩,?_,?_⟩
    ·skip
     repeat' ((conv=>whnf);first|refine Or.inl ?_|apply oi|(apply fi<;>intro h)|refine⟨_,rfl,?_⟩|exact rfl)
     all_goals try exact⟨KO⟩
    intro⟨k,hkl,hr⟩
    dsimp only at hkl hr ⊢
    by_cases hlt:k < x.faf.length
    ·obtain⟨s,hsk⟩:=ae hlt
     rw[vV hsk]at hr
     have hN2:=eN s (by have:=h3 s (List.mem_of_getElem? hsk);omega)
     cases hno:cA s with
     | false=>
      rw[hno]at hN2 hr
      rw[if_neg (by simp)]at hr
      subst hr
      repeat' ((conv=>whnf);first|refine Or.inl ?_|apply oi|(apply fi<;>intro h)|refine ci hN2 (ai rfl trivial) ?_|refine⟨k,(ag s),rfl,ab hsk,?_⟩|refine⟨_,rfl,?_⟩|exact rfl)
      all_goals try exact⟨KO⟩
      all_goals try exact KX
     | true=>
      rw[hno]at hN2 hr
      obtain⟨C,hC⟩:∃C,(x.faf.take k).contains s=C:=⟨_,rfl⟩
      rw[hC]at hr
      repeat' ((conv=>whnf);first|refine Or.inl ?_|apply oi|(apply fi<;>intro h)|refine ci hN2 (ai rfl trivial) ?_|refine⟨k,(ag s),rfl,ab hsk,?_⟩|refine⟨_,rfl,?_⟩|exact rfl)
      all_goals try exact⟨KO⟩
      all_goals try exact KX
      all_goals try(exfalso;(try simp_all[af]);(try omega);done)
      conv=>whnf
      refine⟨{i:Nat // i≤k∧((x.faf.take k).drop i).contains s=C},fun q=>⟨[(1,.r (.c (.ptr (1,0,0) 0))),(3,tI .i64 (k:Int)),(4,tI .i64 (q.1:Int))],[((1,0,0),some (Fr x))],[1]⟩,fun q=>k - q.1,⟨0,by omega,hC⟩,?_,?_⟩
      ·skip
       repeat' ((conv=>whnf);first|refine Or.inl ?_|apply oi|(apply fi<;>intro h)|refine⟨_,rfl,?_⟩|exact rfl)
       all_goals try exact⟨KO⟩
      intro⟨i,hik,hc⟩
      dsimp only at hik hc ⊢
      by_cases hil:i < k
      ·obtain⟨y,hy⟩:=ae (l:=x.faf) (k:=i) (by omega)
       rw[CC hil hy]at hc
       by_cases hys:s=y
       ·subst hys
        rw[beq_self_eq_true,Bool.true_or]at hc
        subst hc
        rw[if_neg (by simp)]at hr
        subst hr
        repeat' ((conv=>whnf);first|refine Or.inl ?_|apply oi|(apply fi<;>intro h)|refine⟨i,(ag s),rfl,ab hy,?_⟩|refine⟨k,(ag s),rfl,ab hsk,?_⟩|refine⟨_,rfl,?_⟩|exact rfl)
        all_goals try exact⟨KO⟩
        all_goals try exact KX
        all_goals try(exfalso;(try simp_all[af]);(try omega);done)
       ·rw[beq_eq_false_iff_ne.2 hys,Bool.false_or]at hc
        repeat' ((conv=>whnf);first|refine Or.inl ?_|apply oi|(apply fi<;>intro h)|refine⟨i,(ag y),rfl,ab hy,?_⟩|refine⟨k,(ag s),rfl,ab hsk,?_⟩|refine⟨_,rfl,?_⟩|exact rfl)
        all_goals try exact⟨KO⟩
        all_goals try exact KX
        all_goals try(exfalso;apply hys;simp_all;done)
        conv=>whnf
        refine⟨⟨i+1,by omega,hc⟩,?_,KD⟩
        repeat' ((conv=>whnf);first|refine Or.inl ?_|apply oi|(apply fi<;>intro h)|refine⟨_,rfl,?_⟩|exact rfl)
        all_goals try exact⟨KO⟩
        all_goals try exact⟨K4⟩
      ·rw[List.drop_eq_nil_of_le (by simp;omega)]at hc
       have hc:false=C:=hc
       subst hc
       rw[if_pos ⟨rfl,rfl⟩]at hr
       repeat' ((conv=>whnf);first|refine Or.inl ?_|apply oi|(apply fi<;>intro h)|refine⟨_,rfl,?_⟩|exact rfl)
       all_goals try exact⟨KO⟩
       all_goals try exact KX
       conv=>whnf
       refine⟨⟨k+1,by omega,hr⟩,?_,KD⟩
       repeat' ((conv=>whnf);first|refine Or.inl ?_|apply oi|(apply fi<;>intro h)|refine⟨_,rfl,?_⟩|exact rfl)
       all_goals try exact⟨KO⟩
       all_goals try exact⟨K4⟩
    ·rw[show x.faf.length - k=0 by omega]at hr
     have hr:true=A:=hr
     subst hr
     repeat' ((conv=>whnf);first|refine Or.inl ?_|apply oi|(apply fi<;>intro h)|refine ci hN (ai rfl trivial) ?_|refine ci hH (ai rfl trivial) ?_|refine ci hE (ai rfl trivial) ?_|refine⟨_,rfl,?_⟩|exact rfl)
     all_goals try exact⟨KO⟩
     all_goals try exact KX
     all_goals try(exfalso;(try simp_all[af]);(try omega);done)
     all_goals(refine⟨congrArg Tr.bool ?_⟩;simp_all;(try exact Bg _))
   ·rw[CU hk h0]
    generalize cA x.fab=b2 at *
    generalize bi x.fad=b5 at *
    generalize cR x.faa=b4 at *
    repeat' ((conv=>whnf);first|refine Or.inl ?_|apply oi|(apply fi<;>intro h)|refine ci hB (ai rfl (ai rfl (ai rfl trivial))) ?_|refine⟨_,rfl,?_⟩|exact rfl)
    all_goals try exact⟨KO⟩
    all_goals try exact KX
    conv=>whnf
    refine⟨Unit,fun q=>⟨[(1,.r (.c (.ptr (1,0,0) 0))),(3,tI .i64 0)],[((1,0,0),some (Fr x))],[1]⟩,fun q=>0,(),?_,?_⟩
    ·skip
     repeat' ((conv=>whnf);first|refine Or.inl ?_|apply oi|(apply fi<;>intro h)|refine⟨_,rfl,?_⟩|exact rfl)
     all_goals try exact⟨KO⟩
    intro q
    dsimp only
    by_cases hlt:0 < x.faf.length
    ·obtain⟨s,hsk⟩:=ae hlt
     have hN2:=eN s (by have:=h3 s (List.mem_of_getElem? hsk);omega)
     rw[show(x.faf.length==0)=false by rw[beq_eq_false_iff_ne];omega]
     repeat' ((conv=>whnf);first|refine Or.inl ?_|apply oi|(apply fi<;>intro h)|refine ci hN2 (ai rfl trivial) ?_|refine⟨0,(ag s),rfl,ab hsk,?_⟩|refine⟨_,rfl,?_⟩|exact rfl)
     all_goals try exact⟨KO⟩
     all_goals try exact KX
     all_goals try(exfalso;(try simp_all[af]);(try omega);done)
     all_goals try(exfalso;simp_all;done)
    ·have hz:x.faf.length=0:=by omega
     rw[show(x.faf.length==0)=true by rw[hz];rfl]
     rw[hz]at hl1
     repeat' ((conv=>whnf);first|refine Or.inl ?_|apply oi|(apply fi<;>intro h)|refine ci hN (ai rfl trivial) ?_|refine ci hH (ai rfl trivial) ?_|refine ci hE (ai rfl trivial) ?_|refine⟨_,rfl,?_⟩|exact rfl)
     all_goals try exact⟨KO⟩
     all_goals try(exfalso;simp_all;done)
     all_goals(refine⟨congrArg Tr.bool ?_⟩;simp_all;(try exact Bg _);(try(rw[Bool.eq_iff_iff];simp;omega)))
  ·rw[rg (by omega)]
   repeat' ((conv=>whnf);first|refine Or.inl ?_|apply oi|(apply fi<;>intro h)|refine ci hB (ai rfl (ai rfl (ai rfl trivial))) ?_|refine⟨_,rfl,?_⟩|exact rfl)
   all_goals try exact⟨KO⟩
   all_goals try exact KX
def cf (k:Int):Bool:=k==0 || (k==3 || k==5)
theorem opensK_iff {k:Int}:cf k=true↔k=0∨k=3∨k=5:=by simp[cf]
def endN:List FX→Nat→Nat→Option Nat
 | [],_,_=>none
 | x::l,i,o=>if cf x.faa=true then endN l (i+1) (o+1)else if x.faa=7 then(if o=1 then some i else endN l (i+1) (o - 1))else endN l (i+1) o
def endAt (l:List FX)(k:Nat):Option Nat:=match l[k]? with
 | some x=>if cf x.faa=true then endN (l.drop (k+1)) (k+1) 1 else none
 | none=>none
def be (l:List FX)(k:Int):Int:=if 0≤k then cp (endAt l k.toNat)else -1
theorem cW {l:List FX}{i o:Nat}{x:FX}(h:l[i]?=some x):endN (l.drop i) i o=if cf x.faa=true then endN (l.drop (i+1)) (i+1) (o+1)else if x.faa=7 then(if o=1 then some i else endN (l.drop (i+1)) (i+1) (o - 1))else endN (l.drop (i+1)) (i+1) o:=by
 rw[cV h,endN]
theorem ju {l:List FX}{i o:Nat}(h:l.length≤i):endN (l.drop i) i o=none:=by
 rw[List.drop_eq_nil_of_le h,endN]
theorem sq:∀{l:List FX} {i o e:Nat},endN l i o=some e→i≤e∧e < i+l.length
 | [],_,_,_,h=>by rw[endN]at h;cases h
 | x::l,i,o,e,h=>by
  rw[endN]at h
  simp only[List.length_cons]
  split at h
  ·have:=sq h;omega
  ·split at h
   ·split at h
    ·injection h with h;omega
    ·have:=sq h;omega
   ·have:=sq h;omega
theorem gY {l:List FX}{i o e:Nat}(h:endN (l.drop i) i o=some e):i≤e∧e < l.length:=by
 have:=sq h
 rw[List.length_drop]at this
 omega
theorem lV:∀{l:List FX} {i:Nat} (n:Nat) {a b:Nat},l.length - i≤n→1≤a→1≤b→endN (l.drop i) i (a+b)=(endN (l.drop i) i b).bind fun m=>endN (l.drop (m+1)) (m+1) a
 | l,i,0,a,b,hn,_,_=>by rw[ju (by omega),ju (by omega)];rfl
 | l,i,n+1,a,b,hn,ha,hb=>by
  by_cases hi:i < l.length
  ·obtain⟨x,hx⟩:=ae hi
   rw[cW hx,cW hx]
   split
   ·rw[show a+b+1=a+(b+1) by omega]
    exact lV n (by omega) ha (by omega)
   ·split
    ·rw[if_neg (by omega)]
     by_cases h1:b=1
     ·subst h1
      rw[if_pos rfl]
      rfl
     ·rw[if_neg h1,show a+b - 1=a+(b - 1) by omega]
      exact lV n (by omega) ha (by omega)
    ·exact lV n (by omega) ha hb
  ·rw[ju (by omega),ju (by omega)];rfl
theorem mC:∀{l:List FX} {i:Nat} (n:Nat) {o e:Nat},l.length - i≤n→endN (l.drop i) i o=some e→∃x,l[e]?=some x∧x.faa=7
 | l,i,0,o,e,hn,h=>by rw[ju (by omega)]at h;cases h
 | l,i,n+1,o,e,hn,h=>by
  by_cases hi:i < l.length
  ·obtain⟨x,hx⟩:=ae hi
   rw[cW hx]at h
   split at h
   ·exact mC n (by omega) h
   ·split at h
    ·split at h
     ·injection h with h
      subst h
      exact⟨x,hx,by assumption⟩
     ·exact mC n (by omega) h
    ·exact mC n (by omega) h
  ·rw[ju (by omega)]at h;cases h
theorem aC {l:List FX}{k e:Nat}(h:endAt l k=some e):∃x,l[k]?=some x∧cf x.faa=true∧endN (l.drop (k+1)) (k+1) 1=some e∧k < e∧e < l.length:=by
 unfold endAt at h
 split at h
 ·rename_i x hx
  split at h
  ·rename_i ho
   have:=gY h
   exact⟨x,hx,ho,h,by omega,by omega⟩
  ·cases h
 ·cases h
theorem pL {l:List FX}{k:Nat}{x:FX}(hx:l[k]?=some x)(ho:cf x.faa=true):endAt l k=endN (l.drop (k+1)) (k+1) 1:=by
 unfold endAt
 rw[hx]
 dsimp only
 rw[if_pos ho]
theorem bu {l:List FX}{k e:Nat}(h:endAt l k=some e):∃x,l[e]?=some x∧x.faa=7:=by
 obtain⟨_,_,_,h,_⟩:=aC h
 exact mC _ (Nat.le_refl _) h
theorem ox:∀{l:List FX} (n:Nat) {s o e i:Nat},i - s≤n→1≤o→endN (l.drop s) s o=some e→s≤i→i≤e→∃o',1≤o'∧endN (l.drop i) i o'=some e
 | l,0,s,o,e,i,hn,ho,h,h1,h2=>by
  have:s=i:=by omega
  subst this
  exact⟨o,ho,h⟩
 | l,n+1,s,o,e,i,hn,ho,h,h1,h2=>by
  by_cases hs:s=i
  ·subst hs;exact⟨o,ho,h⟩
  have hl:=gY h
  obtain⟨x,hx⟩:=ae (l:=l) (k:=s) (by omega)
  rw[cW hx]at h
  split at h
  ·exact ox n (by omega) (by omega) h (by omega) h2
  ·split at h
   ·split at h
    ·injection h with h;omega
    ·exact ox n (by omega) (by omega) h (by omega) h2
   ·exact ox n (by omega) ho h (by omega) h2
theorem mb {l:List FX}{k e i:Nat}{x:FX}(h:endAt l k=some e)(h1:k < i)(h2:i < e)(hx:l[i]?=some x)(ho:cf x.faa=true):∃m,endAt l i=some m∧i < m∧m < e:=by
 obtain⟨_,_,_,he,_,hlt⟩:=aC h
 obtain⟨o,ho1,hlev⟩:=ox _ (Nat.le_refl _) (Nat.le_refl 1) he (by omega:k+1≤i) (by omega)
 rw[cW hx,if_pos ho,lV _ (Nat.le_refl _) ho1 (Nat.le_refl 1)]at hlev
 cases hm:endN (l.drop (i+1)) (i+1) 1 with
 | none=>rw[hm]at hlev;cases hlev
 | some m=>
  rw[hm]at hlev
  have h3:=gY hm
  have h4:=gY (show endN (l.drop (m+1)) (m+1) o=some e from hlev)
  exact⟨m,by rw[pL hx ho];exact hm,by omega,by omega⟩
theorem bb {l:List FX}{k:Nat}:be l (k:Int)=cp (endAt l k):=by
 rw[be,if_pos (by omega),Int.toNat_natCast]
theorem ba {o:Option Nat}{n:Nat}(h:o=some n):cp o=(n:Int):=by rw[h];rfl
theorem ir {o:Option Nat}(h:o=none):cp o= -1:=by rw[h];rfl
def elseN (l:List FX)(e:Nat):Nat→Nat→Option Nat
 | 0,_=>none
 | n+1,i=>if i < e then(match l[i]? with
  | some x=>if x.faa=4 then some i else if x.faa=3∨x.faa=5 then(match endAt l i with
   | some m=>elseN l e n (m+1)
   | none=>elseN l e n (i+1))else elseN l e n (i+1)
  | none=>none)else none
def elseAt (l:List FX)(k:Nat):Option Nat:=match l[k]?,endAt l k with
 | some x,some e=>if x.faa=3 then elseN l e (e - (k+1)) (k+1)else none
 | _,_=>none
def bc (l:List FX)(k:Int):Int:=if 0≤k then cp (elseAt l k.toNat)else -1
theorem fU {l:List FX}{e:Nat}:∀{n m i:Nat},e - i≤n→e - i≤m→elseN l e n i=elseN l e m i
 | 0,0,_,_,_=>rfl
 | 0,m+1,i,h1,h2=>by rw[elseN,elseN,if_neg (by omega)]
 | n+1,0,i,h1,h2=>by rw[elseN,elseN,if_neg (by omega)]
 | n+1,m+1,i,h1,h2=>by
  rw[elseN,elseN]
  by_cases hi:i < e
  ·rw[if_pos hi,if_pos hi]
   cases hx:l[i]? with
   | none=>rfl
   | some x=>
    dsimp only
    split
    ·rfl
    ·split
     ·cases hm:endAt l i with
      | none=>exact fU (by omega) (by omega)
      | some m'=>
       have:=aC hm
       obtain⟨_,_,_,_,h3,_⟩:=this
       exact fU (by omega) (by omega)
     ·exact fU (by omega) (by omega)
  ·rw[if_neg hi,if_neg hi]
theorem ur {l:List FX}{e i:Nat}{x:FX}(hi:i < e)(hx:l[i]?=some x):elseN l e (e - i) i=if x.faa=4 then some i else if x.faa=3∨x.faa=5 then(match endAt l i with
   | some m=>elseN l e (e - (m+1)) (m+1)
   | none=>elseN l e (e - (i+1)) (i+1))else elseN l e (e - (i+1)) (i+1):=by
 obtain⟨n,hn⟩:∃n,e - i=n+1:=⟨e - i - 1,by omega⟩
 rw[hn,elseN,if_pos hi,hx]
 dsimp only
 split
 ·rfl
 ·split
  ·cases hm:endAt l i with
   | none=>exact fU (by omega) (by omega)
   | some m=>
    obtain⟨_,_,_,_,h3,_⟩:=aC hm
    exact fU (by omega) (by omega)
  ·exact fU (by omega) (by omega)
theorem vk {l:List FX}{e i n:Nat}(hi:e≤i):elseN l e n i=none:=by
 cases n with
 | zero=>rfl
 | succ n=>rw[elseN,if_neg (by omega)]
theorem lS {l:List FX}{e:Nat}:∀{n i j:Nat},elseN l e n i=some j→i≤j∧j < e∧∃x,l[j]?=some x∧x.faa=4
 | 0,_,_,h=>by rw[elseN]at h;cases h
 | n+1,i,j,h=>by
  rw[elseN]at h
  split at h
  ·rename_i hi
   split at h
   ·rename_i x hx
    split at h
    ·injection h with h;subst h;exact⟨by omega,hi,x,hx,by assumption⟩
    ·split at h
     ·split at h
      ·rename_i m hm
       obtain⟨_,_,_,_,h3,_⟩:=aC hm
       have:=lS h
       exact⟨by omega,this.2⟩
      ·have:=lS h
       exact⟨by omega,this.2⟩
     ·have:=lS h
      exact⟨by omega,this.2⟩
   ·cases h
  ·cases h
theorem aW {l:List FX}{k j:Nat}(h:elseAt l k=some j):∃x e,l[k]?=some x∧x.faa=3∧endAt l k=some e∧k < j∧j < e∧∃y,l[j]?=some y∧y.faa=4:=by
 unfold elseAt at h
 split at h
 ·rename_i x e hx he
  split at h
  ·rename_i h3
   have:=lS h
   exact⟨x,e,hx,h3,he,by omega,this.2⟩
  ·cases h
 ·cases h
def funsF:List FX→Nat→List Nat
 | [],_=>[]
 | x::l,i=>(if x.faa=0 then [i]else [])++funsF l (i+1)
def an (l:List FX):List Nat:=funsF l 0
theorem jN {l:List FX}{i:Nat}{x:FX}(hx:l[i]?=some x):funsF (l.drop i) i=(if x.faa=0 then [i]else [])++funsF (l.drop (i+1)) (i+1):=by
 rw[cV hx,funsF]
theorem my:∀(l:List FX) (i:Nat),(funsF l i).length≤l.length
 | [],_=>by simp[funsF]
 | x::l,i=>by
  have:=my l (i+1)
  rw[funsF,List.length_append,List.length_cons]
  split <;> simp <;> omega
theorem pk:∀{l:List FX} {i k:Nat},k∈funsF l i→i≤k∧k < i+l.length∧∃x,l[k - i]?=some x∧x.faa=0
 | [],_,_,h=>by simp[funsF]at h
 | x::l,i,k,h=>by
  rw[funsF,List.mem_append]at h
  rcases h with h|h
  ·split at h
   ·simp only[List.mem_cons,List.not_mem_nil,or_false]at h
    subst h
    exact⟨by omega,by simp,x,by simp,by assumption⟩
   ·cases h
  ·obtain⟨h1,h2,y,hy,hk⟩:=pk h
   refine⟨by omega,by simp only[List.length_cons];omega,y,?_,hk⟩
   rw[show k - i=(k - (i+1))+1 by omega,List.getElem?_cons_succ]
   exact hy
theorem gZ {l:List FX}{k:Nat}(h:k∈an l):k < l.length∧∃x,l[k]?=some x∧x.faa=0:=by
 have:=pk h
 simpa using this.2
def findN:List FX→Nat→List UInt8→Option Nat
 | [],_,_=>none
 | x::l,i,s=>if x.faa=0∧x.fab=s then some i else findN l (i+1) s
def eH (l:List FX)(s:List UInt8):Int:=cp (findN l 0 s)
theorem ya {l:List FX}{i:Nat}{x:FX}{s:List UInt8}(hx:l[i]?=some x):findN (l.drop i) i s=if x.faa=0∧x.fab=s then some i else findN (l.drop (i+1)) (i+1) s:=by
 rw[cV hx,findN]
theorem tq:∀{l:List FX} {i k:Nat} {s:List UInt8},findN l i s=some k→i≤k∧k < i+l.length∧∃x,l[k - i]?=some x∧x.faa=0∧x.fab=s
 | [],_,_,_,h=>by rw[findN]at h;cases h
 | x::l,i,k,s,h=>by
  rw[findN]at h
  split at h
  ·injection h with h;subst h
   exact⟨by omega,by simp,x,by simp,by assumption⟩
  ·obtain⟨h1,h2,y,hy,hk⟩:=tq h
   refine⟨by omega,by simp only[List.length_cons];omega,y,?_,hk⟩
   rw[show k - i=(k - (i+1))+1 by omega,List.getElem?_cons_succ]
   exact hy
theorem fe {l:List FX}{k:Nat}{s:List UInt8}(h:findN l 0 s=some k):k < l.length∧∃x,l[k]?=some x∧x.faa=0∧x.fab=s:=by
 have:=tq h
 simpa using this.2
def jl (acc:List (List UInt8))(s:List UInt8):List (List UInt8):=if acc.contains s=true then acc else acc++[s]
def locN (l:List FX)(e:Nat):Nat→Nat→List (List UInt8)→List (List UInt8)
 | 0,_,acc=>acc
 | n+1,i,acc=>if i < e then(match l[i]? with
  | some x=>locN l e n (i+1) (if x.faa=1 then jl acc x.fab else acc)
  | none=>acc)else acc
def localsOf (l:List FX)(k:Int):List (List UInt8):=if 0≤k then(match l[k.toNat]?,endAt l k.toNat with
 | some x,some e=>if x.faa=0 then locN l e (e - k.toNat) k.toNat x.faf else []
 | _,_=>[])else []
theorem vI {l:List FX}{e i:Nat}{x:FX}{acc:List (List UInt8)}(hi:i < e)(hx:l[i]?=some x):locN l e (e - i) i acc=locN l e (e - (i+1)) (i+1) (if x.faa=1 then jl acc x.fab else acc):=by
 rw[show e - i=(e - (i+1))+1 by omega,locN,if_pos hi,hx]
theorem yL {l:List FX}{e i n:Nat}{acc:List (List UInt8)}(hi:e≤i):locN l e n i acc=acc:=by
 cases n with
 | zero=>rfl
 | succ n=>rw[locN,if_neg (by omega)]
theorem yq (acc:List (List UInt8))(s:List UInt8):(jl acc s).length≤acc.length+1:=by
 unfold jl
 split <;> simp
theorem yI {l:List FX}{e:Nat}:∀(n i:Nat) (acc:List (List UInt8)),(locN l e n i acc).length≤acc.length+n
 | 0,_,_=>by simp[locN]
 | n+1,i,acc=>by
  rw[locN]
  split
  ·split
   ·refine Nat.le_trans (yI n _ _) ?_
    split
    ·have:=yq acc (by assumption:FX).fab;omega
    ·omega
   ·omega
  ·omega
def bP (l:List FX)(locals:List (List UInt8))(t:Gf):Bool:=
 if t.faa=1 then locals.contains t.fab
 else if t.faa=7 then(match findN l 0 t.fab with
  | some f=>(match l[f]? with|some x=>(x.faf.length:Int)==t.fai|none=>false)
  | none=>false)
 else true
def bB (l:List FX)(locals:List (List UInt8))(ts:List Gf):Bool:=ts.all (bP l locals)
def dep (x:FX)(d:Nat):Nat:=if x.faa=3∨x.faa=5 then d+1 else if x.faa=7 then d - 1 else d
def iK (l:List FX)(locals:List (List UInt8))(e:Nat):Nat→Nat→Nat→Bool
 | 0,_,_=>true
 | n+1,i,d=>if i < e then(match l[i]? with
  | some x=>if x.faa=0 then false else
   if dep x d≤4∧bB l locals x.fad=true then iK l locals e n (i+1) (dep x d)else false
  | none=>false)else true
theorem tw {l:List FX}{locals:List (List UInt8)}{e i d:Nat}{x:FX}(hi:i < e)(hx:l[i]?=some x):iK l locals e (e - i) i d=if x.faa=0 then false else if dep x d≤4∧bB l locals x.fad=true then iK l locals e (e - (i+1)) (i+1) (dep x d)else false:=by
 rw[show e - i=(e - (i+1))+1 by omega,iK,if_pos hi,hx]
theorem vO {l:List FX}{locals:List (List UInt8)}{e i d n:Nat}(hi:e≤i):iK l locals e n i d=true:=by
 cases n with
 | zero=>rfl
 | succ n=>rw[iK,if_neg (by omega)]
def mW (l:List FX)(i:Nat):Nat→Nat→Bool
 | 0,_=>false
 | n+1,j=>(elseAt l j==some i) || mW l i n (j+1)
theorem me {l:List FX}{i:Nat}:∀{n j:Nat},mW l i n j=true↔∃k,j≤k∧k < j+n∧elseAt l k=some i
 | 0,j=>by
  rw[mW]
  exact⟨fun h=>(by cases h),fun⟨k,h1,h2,_⟩=>(by omega)⟩
 | n+1,j=>by
  rw[mW,Bool.or_eq_true,me,beq_iff_eq]
  constructor
  ·rintro(h|⟨k,h1,h2,h3⟩)
   ·exact⟨j,by omega,by omega,h⟩
   ·exact⟨k,by omega,by omega,h3⟩
  ·rintro⟨k,h1,h2,h3⟩
   by_cases hk:k=j
   ·subst hk;exact .inl h3
   ·exact .inr ⟨k,by omega,by omega,h3⟩
def dl (l:List FX)(k e:Nat):Nat→Nat→Bool
 | 0,_=>true
 | n+1,i=>if i < e then(match l[i]? with
  | some x=>(if x.faa=4 then mW l i (i - k) k else true) && dl l k e n (i+1)
  | none=>true)else true
theorem gG {l:List FX}{k e:Nat}:∀{n i:Nat},e - i≤n→(dl l k e n i=true↔∀j x,i≤j→j < e→l[j]?=some x→x.faa=4→mW l j (j - k) k=true)
 | 0,i,h=>⟨fun _ j x h1 h2=>by omega,fun _=>rfl⟩
 | n+1,i,h=>by
  rw[dl]
  by_cases hi:i < e
  ·rw[if_pos hi]
   cases hx:l[i]? with
   | none=>
    refine⟨fun _ j x h1 h2 hj=>?_,fun _=>rfl⟩
    have:l.length≤i:=List.getElem?_eq_none_iff.1 hx
    rw[List.getElem?_eq_none (by omega)]at hj
    cases hj
   | some x=>
    dsimp only
    rw[Bool.and_eq_true,gG (by omega)]
    constructor
    ·rintro⟨h1,h2⟩ j y hj1 hj2 hy hk
     by_cases he:j=i
     ·subst he
      rw[hx]at hy
      injection hy with hy
      subst hy
      rw[if_pos hk]at h1
      exact h1
     ·exact h2 j y (by omega) hj2 hy hk
    ·intro H
     refine⟨?_,fun j y hj1 hj2 hy hk=>H j y (by omega) hj2 hy hk⟩
     split
     ·exact H i x (Nat.le_refl _) hi hx (by assumption)
     ·rfl
  ·rw[if_neg hi]
   exact⟨fun _ j x h1 h2=>by omega,fun _=>rfl⟩
def lh (l:List FX)(locals:List (List UInt8))(k e:Nat):Nat→Nat→Nat→Bool
 | 0,_,_=>true
 | n+1,i,d=>if i < e then(match l[i]? with
  | some x=>if x.faa=0 then false else if x.faa=4∧mW l i (i - k) k=false then false else
   if dep x d≤4∧bB l locals x.fad=true then lh l locals k e n (i+1) (dep x d)else false
  | none=>false)else true
theorem Ag {l:List FX}{locals:List (List UInt8)}{k e i d:Nat}{x:FX}(hi:i < e)(hx:l[i]?=some x):lh l locals k e (e - i) i d=if x.faa=0 then false else if x.faa=4∧mW l i (i - k) k=false then false else if dep x d≤4∧bB l locals x.fad=true then lh l locals k e (e - (i+1)) (i+1) (dep x d)else false:=by
 rw[show e - i=(e - (i+1))+1 by omega,lh,if_pos hi,hx]
theorem Ce {l:List FX}{locals:List (List UInt8)}{k e i d n:Nat}(hi:e≤i):lh l locals k e n i d=true:=by
 cases n with
 | zero=>rfl
 | succ n=>rw[lh,if_neg (by omega)]
theorem yr {l:List FX}{locals:List (List UInt8)}{k e:Nat}:∀{n i d:Nat},lh l locals k e n i d=(iK l locals e n i d && dl l k e n i)
 | 0,i,d=>rfl
 | n+1,i,d=>by
  rw[lh,iK,dl]
  by_cases hi:i < e
  ·rw[if_pos hi,if_pos hi,if_pos hi]
   cases hx:l[i]? with
   | none=>rfl
   | some x=>
    dsimp only
    by_cases h0:x.faa=0
    ·rw[if_pos h0,if_pos h0];rfl
    ·rw[if_neg h0,if_neg h0]
     rw[yr]
     by_cases h4:x.faa=4
     ·rw[if_pos h4]
      cases ha:mW l i (i - k) k with
      | false=>rw[if_pos ⟨h4,rfl⟩];simp
      | true=>
       rw[if_neg (by simp)]
       split <;> simp_all
     ·rw[if_neg (by simp[h4]),if_neg h4]
      split <;> simp_all
  ·rw[if_neg hi,if_neg hi,if_neg hi];rfl
def iW (l:List FX)(k e:Nat):Bool:=decide ((localsOf l (k:Int)).length≤8) && iK l (localsOf l (k:Int)) e (e - (k+1)) (k+1) 0
def mi (l:List FX)(k e:Nat):Bool:=decide ((localsOf l (k:Int)).length≤8) && lh l (localsOf l (k:Int)) k e (e - (k+1)) (k+1) 0
theorem uh {l:List FX}{k e:Nat}:mi l k e=(iW l k e && dl l k e (e - (k+1)) (k+1)):=by
 rw[mi,iW,yr,Bool.and_assoc]
theorem uG {l:List FX}{k e:Nat}(h:iW l k e=true)(he:e≤l.length):∀i x,k < i→i < e→l[i]?=some x→x.faa≠0:=by
 rw[iW,Bool.and_eq_true]at h
 have key:∀(n i d:Nat),e - i≤n→iK l (localsOf l (k:Int)) e n i d=true→∀j x,i≤j→j < e→l[j]?=some x→x.faa≠0:=by
  intro n
  induction n with
  | zero=>intro i d hn _ j x h1 h2;omega
  | succ n ih=>
   intro i d hn hb j x h1 h2 hx
   rw[iK,if_pos (by omega)]at hb
   obtain⟨y,hy⟩:=ae (l:=l) (k:=i) (by omega)
   rw[hy]at hb
   dsimp only at hb
   split at hb
   ·cases hb
   ·rename_i h0
    split at hb
    ·by_cases hj:j=i
     ·subst hj
      rw[hy]at hx
      injection hx with hx
      subst hx
      exact h0
     ·exact ih (i+1) _ (by omega) hb j x (by omega) h2 hx
    ·cases hb
 exact fun i x h1 h2 hx=>key _ _ _ (Nat.le_refl _) h.2 i x (by omega) h2 hx
def bH (F:Nat→Nat→Bool)(l:List FX):Nat→Nat→Bool
 | 0,k=>decide (l.length≤k)
 | n+1,k=>if k < l.length then(match l[k]?,endAt l k with
  | some x,some e=>if x.faa=0∧F k e=true then bH F l n (e+1)else false
  | _,_=>false)else true
theorem jj {F:Nat→Nat→Bool}{l:List FX}{k n:Nat}{x:FX}(hx:l[k]?=some x)(hn:l.length - k≤n):bH F l n k=match endAt l k with|some e=>if x.faa=0∧F k e=true then bH F l (l.length - (e+1)) (e+1)else false|none=>false:=by
 have more:∀(n m k:Nat),l.length - k≤n→l.length - k≤m→bH F l n k=bH F l m k:=by
  intro n
  induction n with
  | zero=>
   intro m k h1 h2
   rw[bH,decide_eq_true (by omega)]
   cases m with
   | zero=>rw[bH,decide_eq_true (by omega)]
   | succ m=>rw[bH,if_neg (by omega)]
  | succ n ih=>
   intro m k h1 h2
   cases m with
   | zero=>rw[bH,bH,if_neg (by omega),decide_eq_true (by omega)]
   | succ m=>
    rw[bH,bH]
    split
    ·split
     ·rename_i x e hx he
      obtain⟨_,_,_,_,h3,_⟩:=aC he
      split
      ·exact ih m (e+1) (by omega) (by omega)
      ·rfl
     ·rfl
    ·rfl
 have hk:k < l.length:=by
  rcases Nat.lt_or_ge k l.length with h|h
  ·exact h
  ·rw[List.getElem?_eq_none h]at hx;cases hx
 obtain⟨m,rfl⟩:∃m,n=m+1:=⟨n - 1,by omega⟩
 rw[bH,if_pos hk,hx]
 cases he:endAt l k with
 | none=>rfl
 | some e=>
  obtain⟨_,_,_,_,h3,_⟩:=aC he
  dsimp only
  split
  ·exact more _ _ _ (by omega) (by omega)
  ·rfl
theorem nT {F:Nat→Nat→Bool}{l:List FX}{k n:Nat}(hk:l.length≤k):bH F l n k=true:=by
 cases n with
 | zero=>rw[bH,decide_eq_true hk]
 | succ n=>rw[bH,if_neg (by omega)]
def jq (l:List FX):Bool:=dl l 0 l.length l.length 0
def bg (l:List FX)(k:Nat):Bool:=match l[k]? with|some x=>findN l 0 x.fab==some k|none=>false
def fP (l:List FX):List Nat→Nat→Bool
 | [],next=>jq l && (next==l.length)
 | k::fs,next=>match endAt l k with
  | some e=>if k=next∧bg l k=true∧iW l k e=true then fP l fs (e+1)else false
  | none=>false
theorem sP {l:List FX}{i e:Nat}:∀(n:Nat),e - i≤n→i≤e→e≤l.length→(∀j x,i≤j→j < e→l[j]?=some x→x.faa≠0)→funsF (l.drop i) i=funsF (l.drop e) e
 | n,hn,hi,he,h=>by
  by_cases hx:i=e
  ·subst hx;rfl
  obtain⟨x,hxi⟩:=ae (l:=l) (k:=i) (by omega)
  cases n with
  | zero=>omega
  | succ n=>
   rw[jN hxi,if_neg (h i x (Nat.le_refl _) (by omega) hxi),List.nil_append]
   exact sP n (by omega) (by omega) he fun j y h1 h2=>h j y (by omega) h2
theorem wb {l:List FX}:∀(n i:Nat),l.length - i≤n→i≤l.length→fP l (funsF (l.drop i) i) i=((funsF (l.drop i) i).all (bg l) && bH (iW l) l (l.length - i) i && jq l)
 | n,i,hn,hi=>by
  by_cases hlt:i < l.length
  ·obtain⟨x,hx⟩:=ae hlt
   rw[jj hx (Nat.le_refl _)]
   by_cases h0:x.faa=0
   ·rw[jN hx,if_pos h0,List.cons_append,List.nil_append,fP,List.all_cons]
    cases he:endAt l i with
    | none=>simp
    | some e=>
     dsimp only
     obtain⟨_,_,_,_,h3,h4⟩:=aC he
     cases hf:iW l i e with
     | false=>simp
     | true=>
      have hnf:=uG hf (by omega)
      have hsk:funsF (l.drop (i+1)) (i+1)=funsF (l.drop (e+1)) (e+1):=by
       refine sP _ (Nat.le_refl _) (by omega) (by omega) fun j y h5 h6 hy=>?_
       by_cases hje:j=e
       ·subst hje
        obtain⟨z,hz,hz7⟩:=bu he
        rw[hy]at hz
        injection hz with hz
        subst hz
        omega
       ·exact hnf j y (by omega) (by omega) hy
      cases n with
      | zero=>omega
      | succ n=>
       have ih:=wb (l:=l) n (e+1) (by omega) (by omega)
       rw[hsk]
       cases hnm:bg l i with
       | false=>simp
       | true=>
        rw[if_pos ⟨rfl,rfl,rfl⟩,if_pos ⟨h0,rfl⟩,ih]
        simp
   ·have hc:(match endAt l i with|some e=>if x.faa=0∧iW l i e=true then bH (iW l) l (l.length - (e+1)) (e+1)else false|none=>false)=false:=by
     cases endAt l i with
     | none=>rfl
     | some e=>dsimp only;rw[if_neg (by simp[h0])]
    rw[hc,Bool.and_false,Bool.false_and]
    rw[jN hx,if_neg h0,List.nil_append]
    cases hfs:funsF (l.drop (i+1)) (i+1)with
    | nil=>
     rw[fP]
     have:(i==l.length)=false:=by rw[beq_eq_false_iff_ne];omega
     rw[this,Bool.and_false]
    | cons k fs=>
     have hk:k∈funsF (l.drop (i+1)) (i+1):=by rw[hfs];simp
     have:=(pk hk).1
     rw[fP]
     cases endAt l k with
     | none=>rfl
     | some e=>dsimp only;rw[if_neg (by omega)]
  ·have:i=l.length:=by omega
   subst this
   rw[List.drop_eq_nil_of_le (Nat.le_refl _),funsF,fP,nT (Nat.le_refl _)]
   simp
theorem vZ {l:List FX}:∀(n k:Nat),l.length - k≤n→k≤l.length→(∀j m,j < k→endAt l j=some m→m < k)→
  (bH (mi l) l (l.length - k) k=(bH (iW l) l (l.length - k) k && dl l 0 l.length (l.length - k) k))
 | n,k,hn,hk,hP=>by
  by_cases hlt:k < l.length
  ·obtain⟨x,hx⟩:=ae hlt
   rw[jj hx (Nat.le_refl _),jj hx (Nat.le_refl _)]
   cases he:endAt l k with
   | none=>simp
   | some e=>
    dsimp only
    obtain⟨_,hx',ho,_,h3,h4⟩:=aC he
    obtain⟨z,hz,hz7⟩:=bu he
    by_cases h0:x.faa=0
    ·have hP':∀j m,j < e+1→endAt l j=some m→m < e+1:=by
      intro j m hj hm
      rcases Nat.lt_trichotomy j k with hjk|hjk|hjk
      ·have:=hP j m hjk hm;omega
      ·subst hjk
       rw[he]at hm
       injection hm with hm
       omega
      ·obtain⟨y,hy,hyo,_⟩:=aC hm
       by_cases hje:j=e
       ·subst hje
        rw[hz]at hy
        injection hy with hy
        subst hy
        rw[opensK_iff]at hyo
        omega
       ·obtain⟨m',hm',_,h5⟩:=mb he hjk (by omega) hy hyo
        rw[hm]at hm'
        injection hm' with hm'
        omega
     cases n with
     | zero=>omega
     | succ n=>
      have ih:=vZ (l:=l) n (e+1) (by omega) (by omega) hP'
      have hels:dl l 0 l.length (l.length - k) k=(dl l k e (e - (k+1)) (k+1) && dl l 0 l.length (l.length - (e+1)) (e+1)):=by
       rw[Bool.eq_iff_iff,Bool.and_eq_true,gG (Nat.le_refl _),gG (Nat.le_refl _),gG (Nat.le_refl _)]
       constructor
       ·intro H
        refine⟨fun j y h5 h6 hy h7=>?_,fun j y h5 h6 hy h7=>H j y (by omega) h6 hy h7⟩
        have:=H j y (by omega) (by omega) hy h7
        rw[me]at this ⊢
        obtain⟨i,h8,h9,h10⟩:=this
        refine⟨i,?_,by omega,h10⟩
        rcases Nat.lt_or_ge i k with h11|h11
        ·obtain⟨_,m,_,_,h12,_,h13,_⟩:=aW h10
         have:=hP i m h11 h12
         omega
        ·exact h11
       ·rintro⟨H1,H2⟩ j y h5 h6 hy h7
        rcases Nat.lt_or_ge e j with h8|h8
        ·exact H2 j y h8 h6 hy h7
        ·have hje:j≠e:=fun h=>by
          subst h
          rw[hz]at hy
          injection hy with hy
          subst hy
          omega
         have hjk:j≠k:=fun h=>by
          subst h
          rw[hx]at hy
          injection hy with hy
          subst hy
          omega
         have:=H1 j y (by omega) (by omega) hy h7
         rw[me]at this ⊢
         obtain⟨i,h9,h10,h11⟩:=this
         exact⟨i,by omega,by omega,h11⟩
      rw[hels,ih,uh]
      cases iW l k e <;> cases dl l k e (e - (k+1)) (k+1) <;> simp[h0]
    ·rw[if_neg (by simp[h0]),if_neg (by simp[h0])];rfl
  ·have:k=l.length:=by omega
   subst this
   rw[nT (Nat.le_refl _),nT (Nat.le_refl _)]
   rw[Nat.sub_self]
   rfl
def gz:List UInt8:=[109,97,105,110]
def lz (l:List FX):Bool:=match l with
 | []=>false
 | x::_=>x.faa==0 && (x.fab==gz && x.faf.length==0)
def az (l:List FX):Bool:=decide (l.length≤60) && (decide (1≤(an l).length∧(an l).length≤6) && (l.all co && (lz l && ((an l).all (bg l) && (bH (iW l) l l.length 0 && jq l)))))
theorem Aa (l:List FX):fP l (an l) 0=((an l).all (bg l) && (bH (iW l) l l.length 0 && jq l)):=by
 have:=wb (l:=l) _ 0 (Nat.le_refl _) (by omega)
 rw[List.drop_zero]at this
 rw[an,this,Nat.sub_zero,Bool.and_assoc]
theorem uc (l:List FX):bH (mi l) l l.length 0=(bH (iW l) l l.length 0 && jq l):=by
 have:=vZ (l:=l) _ 0 (Nat.le_refl _) (by omega) (fun j m h=>by omega)
 rw[Nat.sub_zero]at this
 exact this
def StkOk (l:List FX)(e:Nat):Nat→List Nat→Prop
 | i,[]=>endN (l.drop i) i 1=some e
 | i,m::es=>i≤m∧endN (l.drop i) i 1=some m∧StkOk l e (m+1) es
theorem StkOk.push {l:List FX}{e i:Nat}{es:List Nat}{x:FX}(h:StkOk l e i es)(hx:l[i]?=some x)(ho:cf x.faa=true):∃m,endAt l i=some m∧i < m∧StkOk l e (i+1) (m::es):=by
 have key:∀m',endN (l.drop i) i 1=some m'→∃m,endAt l i=some m∧i < m∧endN (l.drop (i+1)) (i+1) 1=some m∧endN (l.drop (m+1)) (m+1) 1=some m':=by
  intro m' hm
  rw[cW hx,if_pos ho,lV _ (Nat.le_refl _) (Nat.le_refl 1) (Nat.le_refl 1)]at hm
  cases h1:endN (l.drop (i+1)) (i+1) 1 with
  | none=>rw[h1]at hm;cases hm
  | some m=>
   rw[h1]at hm
   have:=gY h1
   exact⟨m,by rw[pL hx ho];exact h1,by omega,rfl,hm⟩
 cases es with
 | nil=>
  obtain⟨m,h1,h2,h3,h4⟩:=key e h
  exact⟨m,h1,h2,by omega,h3,h4⟩
 | cons m' es=>
  obtain⟨g1,g2,g3⟩:=h
  obtain⟨m,h1,h2,h3,h4⟩:=key m' g2
  have:=gY h4
  exact⟨m,h1,h2,by omega,h3,by omega,h4,g3⟩
theorem StkOk.other {l:List FX}{e i:Nat}{es:List Nat}{x:FX}(h:StkOk l e i es)(hx:l[i]?=some x)(ho:cf x.faa=false)(h7:x.faa≠7):StkOk l e (i+1) es:=by
 have key:∀m',endN (l.drop i) i 1=some m'→endN (l.drop (i+1)) (i+1) 1=some m':=by
  intro m' hm
  rw[cW hx,if_neg (by simp[ho]),if_neg h7]at hm
  exact hm
 cases es with
 | nil=>exact key e h
 | cons m' es=>
  obtain⟨g1,g2,g3⟩:=h
  have:=gY (key m' g2)
  exact⟨by omega,key m' g2,g3⟩
theorem StkOk.pop {l:List FX}{e i:Nat}{es:List Nat}{x:FX}(h:StkOk l e i es)(hx:l[i]?=some x)(h7:x.faa=7):(es=[]∧i=e)∨∃es',es=i::es'∧StkOk l e (i+1) es':=by
 have ho:¬cf x.faa=true:=by rw[opensK_iff];omega
 cases es with
 | nil=>
  unfold StkOk at h
  rw[cW hx,if_neg ho,if_pos h7,if_pos rfl]at h
  injection h with h
  exact .inl ⟨rfl,h⟩
 | cons m' es=>
  obtain⟨g1,g2,g3⟩:=h
  rw[cW hx,if_neg ho,if_pos h7,if_pos rfl]at g2
  injection g2 with g2
  subst g2
  exact .inr ⟨es,rfl,g3⟩
theorem StkOk.le {l:List FX}{e:Nat}:∀{i:Nat} {es:List Nat},StkOk l e i es→i≤e
 | i,[],h=>(gY h).1
 | i,m::es,h=>by
  have:=StkOk.le h.2.2
  have:=h.1
  omega
inductive Ex where
 | node (t:Gf) (es:List Ex)
mutual
def Ex.toks:Ex→List Gf
 | .node t es=>t::ak es
def ak:List Ex→List Gf
 | []=>[]
 | a::es=>a.toks++ak es
end
mutual
def Ex.ok:Ex→Prop
 | .node t es=>eB t=true∧es.length=ar t∧iF es
def iF:List Ex→Prop
 | []=>True
 | a::es=>a.ok∧iF es
end
theorem Ex.toks_pos (e:Ex):0 < e.toks.length:=by cases e;simp[Ex.toks]
theorem eK:∀(a b:List Ex),ak (a++b)=ak a++ak b
 | [],b=>by rw[List.nil_append,ak,List.nil_append]
 | x::a,b=>by rw[List.cons_append,ak,ak,eK a b,List.append_assoc]
theorem tl:∀{l:List Ex} (n:Nat),iF l→iF (l.take n)
 | [],n,h=>by rw[List.take_nil];exact h
 | x::l,0,h=>by rw[List.take_zero];trivial
 | x::l,n+1,h=>by rw[List.take_succ_cons];exact⟨h.1,tl n h.2⟩
theorem uo:∀{l:List Ex} (n:Nat),iF l→iF (l.drop n)
 | [],n,h=>by rw[List.drop_nil];exact h
 | x::l,0,h=>h
 | x::l,n+1,h=>by rw[List.drop_succ_cons];exact uo n h.2
theorem uO:∀{l:List Gf} {p n e:Nat},endL l p n=some e→∃es:List Ex,es.length=n∧iF es∧∃rest,l=ak es++rest∧p+(ak es).length=e
 | l,p,0,e,h=>by
  have h:some p=some e:=by cases l <;> exact h
  injection h with h
  exact⟨[],rfl,trivial,l,rfl,by simp[ak];omega⟩
 | [],_,_+1,_,h=>by rw[endL]at h;cases h
 | t::l,p,n+1,e,h=>by
  rw[endL]at h
  split at h
  ·rename_i hok
   obtain⟨es,h1,h2,rest,h3,h4⟩:=uO h
   refine⟨.node t (es.take (ar t))::es.drop (ar t),by simp;omega,⟨⟨hok,by simp;omega,tl _ h2⟩,uo _ h2⟩,rest,?_,?_⟩
   ·rw[ak,Ex.toks,List.cons_append,←eK,List.take_append_drop,List.cons_append,←h3]
   ·rw[ak,Ex.toks,List.cons_append,←eK,List.take_append_drop,List.length_cons];omega
  ·cases h
mutual
theorem Ex.endL:∀(e:Ex),e.ok→∀(r:List Gf) (p n:Nat),Go.Proofs.YtoglejgmjeojoaaGreat.endL (e.toks++r) p (n+1)=Go.Proofs.YtoglejgmjeojoaaGreat.endL r (p+e.toks.length) n
 | .node t es,h,r,p,n=>by
  rw[Ex.toks,List.cons_append,Go.Proofs.YtoglejgmjeojoaaGreat.endL,if_pos h.1,show n+ar t=n+es.length by rw[h.2.1],yB es h.2.2,List.length_cons]
  congr 1;omega
theorem yB:∀(es:List Ex),iF es→∀(r:List Gf) (p n:Nat),Go.Proofs.YtoglejgmjeojoaaGreat.endL (ak es++r) p (n+es.length)=Go.Proofs.YtoglejgmjeojoaaGreat.endL r (p+(ak es).length) n
 | [],_,r,p,n=>by rw[ak];simp
 | a::es,h,r,p,n=>by
  rw[ak,List.append_assoc,List.length_cons,show n+(es.length+1)=(n+es.length)+1 by omega,Ex.endL a h.1,yB es h.2,List.length_append]
  congr 1;omega
end
theorem ia {l:List Gf}(h:bi l=true):∃e:Ex,e.ok∧l=e.toks:=by
 unfold bi at h
 simp only[Bool.and_eq_true,decide_eq_true_eq,beq_iff_eq]at h
 obtain⟨_,h1,h2⟩:=h
 rw[cY,if_pos (by omega)]at h2
 show ∃e:Ex,e.ok∧l=e.toks
 cases he:Go.Proofs.YtoglejgmjeojoaaGreat.endL (l.drop (0:Int).toNat) (0:Int).toNat 1 with
 | none=>rw[he]at h2;simp only[cp]at h2;omega
 | some e=>
  rw[he]at h2
  simp only[cp]at h2
  obtain⟨es,g1,g2,rest,g3,g4⟩:=uO he
  match es,g1 with
  | [a],_=>
   rw[ak,ak,List.append_nil]at g3 g4
   have e0:l.drop (0:Int).toNat=l:=rfl
   rw[e0]at g3
   have:rest=[]:=by
    have:=congrArg List.length g3
    rw[List.length_append]at this
    have e1:(0:Int).toNat=0:=rfl
    rw[e1]at g4
    exact List.length_eq_zero_iff.1 (by omega)
   subst this
   exact⟨a,g2.1,by rw[g3,List.append_nil]⟩
def fK (l:List Gf)(p:Nat)(e:Ex):Prop:=∃r,l.drop p=e.toks++r
def iN (l:List Gf)(p:Nat)(es:List Ex):Prop:=∃r,l.drop p=ak es++r
theorem iS {l:List Gf}{p:Nat}{e:Ex}(h:fK l p e)(ho:e.ok):cY l (p:Int)=((p+e.toks.length:Nat):Int):=by
 obtain⟨r,h⟩:=h
 rw[cY,if_pos (by omega),Int.toNat_natCast,h,show(1:Nat)=0+1 from rfl,Ex.endL e ho]
 cases r <;> rfl
theorem fR {l:List Gf}{p:Nat}{t:Gf}{es:List Ex}(h:fK l p (.node t es)):l[p]?=some t∧iN l (p+1) es:=by
 obtain⟨r,h⟩:=h
 rw[Ex.toks,List.cons_append]at h
 refine⟨?_,r,?_⟩
 ·have:=congrArg (·[0]?) h
  simpa [List.getElem?_drop]using this
 ·have:=congrArg (·.drop 1) h
  simpa [List.drop_drop]using this
theorem dG {l:List Gf}{p:Nat}{a:Ex}{es:List Ex}(h:iN l p (a::es)):fK l p a∧iN l (p+a.toks.length) es:=by
 obtain⟨r,h⟩:=h
 rw[ak,List.append_assoc]at h
 refine⟨⟨_,h⟩,r,?_⟩
 rw[←List.drop_drop,h,List.drop_left]
def fv:Nat→List Ex→List Nat
 | _,[]=>[]
 | p,a::es=>p::fv (p+a.toks.length) es
theorem oy:∀(p:Nat) (es:List Ex),(fv p es).length=es.length
 | _,[]=>rfl
 | p,a::es=>by rw[fv,List.length_cons,oy,List.length_cons]
theorem sF:∀{l:List Gf} {p:Nat} {es:List Ex} {k:Nat} {a:Ex},iN l p es→es[k]?=some a→∃q,(fv p es)[k]?=some q∧fK l q a
 | _,_,[],_,_,_,h=>by simp at h
 | l,p,b::es,0,a,hs,h=>by
  rw[List.getElem?_cons_zero]at h
  injection h with h
  subst h
  exact⟨p,by rw[fv,List.getElem?_cons_zero],(dG hs).1⟩
 | l,p,b::es,k+1,a,hs,h=>by
  rw[List.getElem?_cons_succ]at h
  obtain⟨q,h1,h2⟩:=sF (dG hs).2 h
  exact⟨q,by rw[fv,List.getElem?_cons_succ];exact h1,h2⟩
theorem vz {t:Gf}(h:eB t=true):t.faa=0∨t.faa=1∨t.faa=7∨(2≤t.faa∧t.faa≤6):=by
 unfold eB at h
 split at h
 ·omega
 ·split at h
  ·omega
  ·split at h
   ·omega
   ·simp only[Bool.and_eq_true,within_iff]at h
    omega
theorem AM {t:Gf}(h:eB t=true):((t.faa=0∨t.faa=1)→ar t=0)∧(t.faa=7→(ar t:Int)=t.fai)∧(2≤t.faa→t.faa≤6→ar t=2):=by
 obtain⟨e1,_⟩:=pi h
 unfold nw at e1
 rw[if_neg (by simp[h])]at e1
 refine⟨fun h0=>?_,fun h7=>?_,fun h2 h6=>?_⟩
 ·rw[if_neg (by omega),if_pos h0]at e1;omega
 ·rw[if_pos h7]at e1;omega
 ·rw[if_neg (by omega),if_neg (by omega)]at e1;omega
theorem rk:∀{l:List Gf} {p:Nat} {es:List Ex} {j:Nat} {a:Ex},iN l p es→es[j]?=some a→fK l (p+(ak (es.take j)).length) a
 | _,_,[],_,_,_,h=>by simp at h
 | l,p,b::es,0,a,hs,h=>by
  rw[List.getElem?_cons_zero]at h
  injection h with h
  subst h
  simpa [ak]using(dG hs).1
 | l,p,b::es,j+1,a,hs,h=>by
  rw[List.getElem?_cons_succ]at h
  have:=rk (dG hs).2 h
  rw[List.take_succ_cons,ak,List.length_append,←Nat.add_assoc]
  exact this
end Go.Proofs.YtoglejgmjeojoaaGreat
namespace Go.Proofs.YtoglejgmjeojoaaGreat
noncomputable section
open Go.Sim
set_option maxRecDepth 100000
set_option maxHeartbeats 4000000
structure Cx where
 p:List FX
 b:FO
 framed:Bool
 words:Int
 args:Int
structure Sc where
 f:Nat
 chain:List Int
 locals:List (List UInt8)
 first:Int
 outer:Bool
structure Gs where
 items:List FW
 most:Int
 start:Bool
def kQ (C:Cx)(s:Gs)(depth code arg line:Int)(chain:List Int):FW:=⟨⟨code,arg⟩,line,s.start,chain,if C.framed=true∧0 < s.items.length then 0 else depth,C.framed && decide (0 < s.items.length)⟩
def au (C:Cx)(s:Gs)(depth code arg line:Int)(chain:List Int):Gs:=⟨s.items++[kQ C s depth code arg line chain],s.most,false⟩
def jJ (C:Cx)(x:Sc)(i:Int):Bool:=x.outer && decide (i < C.args)
def eG (C:Cx)(x:Sc)(i:Int):Int:=if x.outer=true then i - C.args else x.first+i
def bZ (C:Cx)(store:Bool):Int:=(if C.framed=true then 1 else 3)+(if store=true then 1 else 0)
def cw (C:Cx)(x:Sc)(depth i:Int):Int:=
 if C.framed=true then(if jJ C x i=true then 1+(C.args - i)else -1 - eG C x i)
 else(if jJ C x i=true then depth+(C.args - i)else depth - 1 - eG C x i)
def Br (C:Cx)(x:Sc)(s:Gs)(depth i line:Int):Gs:=au C s depth (bZ C false) (cw C x depth i) line x.chain
def dp (C:Cx)(x:Sc)(s:Gs)(depth i line:Int)(chain:List Int):Gs:=au C s depth (bZ C true) (cw C x depth i) line chain
def cz (C:Cx)(y:Sc)(chain:List Int)(line:Int):Nat→Int→Gs→Gs
 | 0,_,s=>s
 | n+1,d,s=>cz C y chain line n (d - 1) (dp C y s d n line chain)
def cT (C:Cx)(y:Sc)(chain:List Int)(line d:Int):Nat→Nat→Gs→Gs
 | 0,_,s=>s
 | n+1,i,s=>cT C y chain line d n (i+1) (dp C y (au C s d 0 0 line chain) (d+1) i line chain)
def bK (l:List FW)(j:Int)(v:Int):List FW:=if 0≤j then(match l[j.toNat]? with
 | some x=>l.set j.toNat ⟨⟨x.fag.fac,v⟩,x.fan,x.fah,x.far,x.fas,x.faw⟩
 | none=>l)else l
def cn (l:List FW)(v:Int):List Int→List FW
 | []=>l
 | j::js=>cn (bK l j v) v js
def kX (p:List FX)(g:Nat):Nat:=((p.take g).filter fun x=>x.faa==0).length
def bU (C:Cx)(inside:List Nat)(g:Nat)(n:Nat):Bool:=decide ((inside.length:Int)≤C.b.faj) && (decide (be C.p (g:Int) - g≤9) && (decide (n < 200) && !inside.contains g))
def iZ (C:Cx)(rep:Sc→List Nat→Nat→Nat→Int→Gs→Gs)(x:Sc)(inside:List Nat)(line:Nat)(t:Gf)(d:Int)(s:Gs):Gs:=
 if t.faa=0 then au C s d 0 t.fai line x.chain
 else if t.faa=1 then Br C x s d (cQ x.locals t.fab) line
 else if t.faa=7 then(match findN C.p 0 t.fab with
  | some g=>if bU C inside g s.items.length=true then rep x inside line g d s else au C s d 12 (kX C.p g) line x.chain
  | none=>s)
 else au C s d (5+t.faa - 2) 0 line x.chain
mutual
def dJ (C:Cx)(rep:Sc→List Nat→Nat→Nat→Int→Gs→Gs)(x:Sc)(inside:List Nat)(line:Nat):Ex→Int→Gs→Gs
 | .node t es,d,s=>iZ C rep x inside line t (d+es.length) (da C rep x inside line es d s)
def da (C:Cx)(rep:Sc→List Nat→Nat→Nat→Int→Gs→Gs)(x:Sc)(inside:List Nat)(line:Nat):List Ex→Int→Gs→Gs
 | [],_,s=>s
 | a::es,d,s=>da C rep x inside line es (d+1) (dJ C rep x inside line a d s)
end
def bp (C:Cx)(x:Sc):Int:=if x.outer=true then(x.locals.length:Int) - C.args else x.first+x.locals.length
def argsN (p:List FX)(g:Nat):Nat:=match p[g]? with|some l=>l.faf.length|none=>0
def bC (C:Cx)(x:Sc)(line g:Nat):Sc:=⟨g,x.chain++[(line:Int)],localsOf C.p (g:Int),bp C x,false⟩
def dK (C:Cx)(x:Sc)(line g:Nat)(d:Int)(s:Gs):Gs:=
 cT C (bC C x line g) x.chain line (d - argsN C.p g) ((localsOf C.p (g:Int)).length - argsN C.p g) (argsN C.p g)
  (cz C (bC C x line g) x.chain line (argsN C.p g) d ⟨s.items,max s.most (bp C x+(localsOf C.p (g:Int)).length),s.start⟩)
def bO (C:Cx)(x:Sc)(line:Nat)(d:Int)(s:Gs):Gs:=if s.start=true then au C s d 15 0 line x.chain else s
def go (C:Cx)(lines:Sc→List Nat→Int→Gs→Gs×List Int)(x:Sc)(inside:List Nat)(line g:Nat)(d:Int)(s:Gs):Gs:=
 let r:=lines (bC C x line g) (inside++[g]) (d - argsN C.p g) (bO C x line (d - argsN C.p g) (dK C x line g d s))
 ⟨cn r.1.items r.1.items.length r.2,r.1.most,r.1.start⟩
def zQ (p:List FX)(k:Nat):Nat→Option Nat
 | 0=>none
 | n+1=>if endAt p n=some k∨elseAt p n=some k then some n else zQ p k n
def aF (p:List FX)(k:Nat):Nat:=(zQ p k p.length).getD 0
def cb (p:List FX)(k:Nat):Int:=match p[k]? with|some x=>x.faa|none=> -1
structure Ls where
 g:Gs
 heads:List Int
 pos:List Int
 lv:List Int
def exL (l:List Gf):Ex:=if h:bi l=true then Classical.choose (ia h)else .node ⟨0,0,[]⟩ []
theorem pS {l:List Gf}(h:bi l=true):(exL l).ok∧l=(exL l).toks:=by
 rw[exL,dif_pos h]
 exact Classical.choose_spec (ia h)
def atL (l:List Int)(k:Nat):Int:=l[k]?.getD 0
def aP (C:Cx)(x:Sc)(k:Nat)(last:Bool)(d:Int)(L:Ls):Ls:=
 if x.outer=true then(if C.framed=true then{L with g:=au C L.g d 14 C.args k x.chain} else{L with g:=au C L.g d 16 (C.args+16 * C.words) k x.chain})
 else if last=true then L
 else{L with g:=au C L.g d 10 0 k x.chain,lv:=L.lv++[(L.g.items.length:Int)]}
def dn (C:Cx)(rep:Sc→List Nat→Nat→Nat→Int→Gs→Gs)(x:Sc)(inside:List Nat)(base:Int)(k:Nat)(ln:FX)(L:Ls):Ls:=
 if ln.faa=4 then
  let g:=au C L.g base 10 0 k x.chain
  {L with g:=⟨bK g.items (atL L.pos (aF C.p k)) g.items.length,g.most,g.start⟩,pos:=L.pos.set k L.g.items.length}
 else if ln.faa=7 then
  if aF C.p k=x.f then aP C x k true (base+1) {L with g:=au C L.g base 0 0 k x.chain}
  else if cb C.p (aF C.p k)=5 then{L with g:=au C L.g base 10 (atL L.heads (aF C.p k)) k x.chain}
  else L
 else
  let L1:Ls:={L with g:=dJ C rep x inside k (exL ln.fad) base ⟨L.g.items,L.g.most,true⟩,heads:=L.heads.set k L.g.items.length}
  if ln.faa=1 then{L1 with g:=dp C x L1.g (base+1) (cQ x.locals ln.fab) k x.chain}
  else if ln.faa=2 then{L1 with g:=au C L1.g (base+1) 17 0 k x.chain}
  else if ln.faa=6 then aP C x k false (base+1) L1
  else{L1 with g:=au C L1.g (base+1) 11 0 k x.chain,pos:=L1.pos.set k L1.g.items.length}
def gV (p:List FX)(k:Nat):Nat:=match elseAt p (aF p k)with|some j=>j|none=>aF p k
def aS (C:Cx)(x:Sc)(k:Nat)(ln:FX)(L:Ls):Ls:=
 if ln.faa=7∧aF C.p k≠x.f then{L with g:=⟨bK L.g.items (atL L.pos (gV C.p k)) L.g.items.length,L.g.most,L.g.start⟩} else L
def jw (C:Cx)(rep:Sc→List Nat→Nat→Nat→Int→Gs→Gs)(x:Sc)(inside:List Nat)(base:Int):Nat→Nat→Ls→Ls
 | 0,_,L=>L
 | n+1,k,L=>match C.p[k]? with
  | some ln=>jw C rep x inside base n (k+1) (aS C x k ln (dn C rep x inside base k ln L))
  | none=>L
def ce (C:Cx)(s:Gs):Ls:=⟨s,List.replicate C.p.length 0,List.replicate C.p.length 0,[]⟩
def jV (p:List FX)(f:Nat):Nat:=(endAt p f).getD 0
def aQ (C:Cx)(rep:Sc→List Nat→Nat→Nat→Int→Gs→Gs)(x:Sc)(inside:List Nat)(base:Int)(s:Gs):Gs×List Int:=
 let L:=jw C rep x inside base (jV C.p x.f - x.f) (x.f+1) (ce C s)
 (L.g,L.lv)
def aT (C:Cx):Nat→Sc→List Nat→Nat→Nat→Int→Gs→Gs
 | 0=>fun _ _ _ _ _ s=>s
 | n+1=>go C (aQ C (aT C n))
def dR (C:Cx)(f:Nat):Gs:=au C ⟨[],(localsOf C.p (f:Int)).length - C.args,false⟩ 0 (if C.framed=true then 13 else 15) C.words f []
def bq (C:Cx)(f:Nat):Sc:=⟨f,[],localsOf C.p (f:Int),0,true⟩
def cF (C:Cx)(f:Nat):Gs:=(aQ C (aT C C.b.faj.toNat) (bq C f) [f] C.words (dR C f)).1
end
end Go.Proofs.YtoglejgmjeojoaaGreat
namespace Go.Proofs.YtoglejgmjeojoaaGreat
open Go.Sim
set_option maxRecDepth 100000
set_option maxHeartbeats 4000000
theorem aL {α:Type}{l:List α}{k:Nat}{x:α}(h:l[k]?=some x):k < l.length:=by
 rcases Nat.lt_or_ge k l.length with h'|h'
 ·exact h'
 ·rw[List.getElem?_eq_none h']at h;cases h
theorem wq {l:List FX}{i j e:Nat}(hi:endAt l i=some e)(hj:endAt l j=some e):i=j:=by
 have key:∀{i j:Nat},endAt l i=some e→endAt l j=some e→i < j→False:=by
  intro i j hi hj hlt
  obtain⟨x,hx,ho,_,h1,_⟩:=aC hj
  obtain⟨m,hm,_,h2⟩:=mb hi hlt h1 hx ho
  rw[hj]at hm
  injection hm with hm
  omega
 rcases Nat.lt_trichotomy i j with h|h|h
 ·exact(key hi hj h).elim
 ·exact h
 ·exact(key hj hi h).elim
theorem mI {l:List FX}{e:Nat}:∀{n i j:Nat},elseN l e n i=some j→∀k x m,i≤k→k < j→l[k]?=some x→(x.faa=3∨x.faa=5)→endAt l k=some m→m < j
 | 0,_,_,h=>by rw[elseN]at h;cases h
 | n+1,i,j,h=>by
  intro k x m h1 h2 hx h3 hm
  rw[elseN]at h
  split at h
  ·split at h
   ·rename_i y hy
    split at h
    ·injection h with h;omega
    ·split at h
     ·split at h
      ·rename_i m' hm'
       have hin:=lS h
       obtain⟨_,_,_,_,g1,_⟩:=aC hm'
       by_cases hk:k=i
       ·subst hk
        rw[hm']at hm
        injection hm with hm
        omega
       ·by_cases hk2:k≤m'
        ·by_cases hk3:k=m'
         ·subst hk3
          obtain⟨z,hz,h7⟩:=bu hm'
          rw[hx]at hz
          injection hz with hz
          subst hz
          omega
         ·obtain⟨m2,hm2,_,g2⟩:=mb hm' (by omega) (by omega) hx (by rw[opensK_iff];omega)
          rw[hm]at hm2
          injection hm2 with hm2
          omega
        ·exact mI h k x m (by omega) h2 hx h3 hm
      ·rename_i hno
       by_cases hk:k=i
       ·subst hk
        rw[hno]at hm
        cases hm
       ·exact mI h k x m (by omega) h2 hx h3 hm
     ·by_cases hk:k=i
      ·subst hk
       rw[hx]at hy
       injection hy with hy
       subst hy
       rename_i hne
       exact absurd h3 hne
      ·exact mI h k x m (by omega) h2 hx h3 hm
   ·cases h
  ·cases h
theorem km {l:List FX}{i j k:Nat}(hi:elseAt l i=some k)(hj:elseAt l j=some k):i=j:=by
 have key:∀{i j:Nat},elseAt l i=some k→elseAt l j=some k→i < j→False:=by
  intro i j hi hj hlt
  obtain⟨y,ej,hy,h3,hej,h4,h5,_⟩:=aW hj
  unfold elseAt at hi
  split at hi
  ·split at hi
   ·have:=mI hi j y ej (by omega) h4 hy (.inl h3) hej
    omega
   ·cases hi
  ·cases hi
 rcases Nat.lt_trichotomy i j with h|h|h
 ·exact(key hi hj h).elim
 ·exact h
 ·exact(key hj hi h).elim
theorem qM {p:List FX}{k i:Nat}:∀{n:Nat},zQ p k n=some i→i < n∧(endAt p i=some k∨elseAt p i=some k)
 | 0,h=>by rw[zQ]at h;cases h
 | n+1,h=>by
  rw[zQ]at h
  split at h
  ·injection h with h;subst h;exact⟨by omega,by assumption⟩
  ·have:=qM h;exact⟨by omega,this.2⟩
theorem uU {p:List FX}{k i:Nat}(hi:endAt p i=some k∨elseAt p i=some k):∀{n:Nat},i < n→∃j,zQ p k n=some j
 | 0,h=>by omega
 | n+1,h=>by
  rw[zQ]
  split
  ·exact⟨_,rfl⟩
  ·by_cases he:i=n
   ·subst he;exact absurd hi (by assumption)
   ·exact uU hi (by omega)
theorem ig {p:List FX}{k i:Nat}(h:endAt p i=some k):aF p k=i:=by
 obtain⟨x,hx,_,_,_,_⟩:=aC h
 obtain⟨j,hj⟩:=uU (.inl h) (aL hx)
 rw[aF,hj]
 obtain⟨_,h1|h1⟩:=qM hj
 ·exact wq h1 h
 ·obtain⟨_,_,_,_,_,_,_,y,hy,h4⟩:=aW h1
  obtain⟨z,hz,h7⟩:=bu h
  rw[hy]at hz
  injection hz with hz
  subst hz
  omega
theorem oQ {p:List FX}{k i:Nat}(h:elseAt p i=some k):aF p k=i:=by
 obtain⟨x,e,hx,_,_,_,_,y,hy,h4⟩:=aW h
 obtain⟨j,hj⟩:=uU (.inr h) (aL hx)
 rw[aF,hj]
 obtain⟨_,h1|h1⟩:=qM hj
 ·obtain⟨z,hz,h7⟩:=bu h1
  rw[hy]at hz
  injection hz with hz
  subst hz
  omega
 ·exact km h1 h
theorem kV {l:List FX}{i:Nat}{x:FX}(hx:l[i]?=some x)(h7:x.faa=7):∀(n s o e:Nat),i - s≤n→s≤i→1≤o→endN (l.drop s) s o=some e→i≤e→(∃k,s≤k∧k < i∧endAt l k=some i)∨∃j,1≤j∧j≤o∧endN (l.drop s) s j=some i
 | n,s,o,e,hn,hs,ho,h,hi=>by
  have hno:¬cf x.faa=true:=by rw[opensK_iff];omega
  by_cases he:s=i
  ·subst he
   exact .inr ⟨1,Nat.le_refl _,ho,by rw[cW hx,if_neg hno,if_pos h7,if_pos rfl]⟩
  obtain⟨m,rfl⟩:∃m,n=m+1:=⟨n - 1,by omega⟩
  have hl:=gY h
  obtain⟨y,hy⟩:=ae (l:=l) (k:=s) (by omega)
  rw[cW hy]at h
  by_cases hop:cf y.faa=true
  ·rw[if_pos hop]at h
   rcases kV hx h7 m (s+1) (o+1) e (by omega) (by omega) (by omega) h hi with⟨k,h1,h2,h3⟩|⟨j,h1,h2,h3⟩
   ·exact .inl ⟨k,by omega,h2,h3⟩
   ·by_cases hj:j=1
    ·subst hj
     exact .inl ⟨s,Nat.le_refl _,by omega,by rw[pL hy hop];exact h3⟩
    ·exact .inr ⟨j - 1,by omega,by omega,by rw[cW hy,if_pos hop,show j - 1+1=j by omega];exact h3⟩
  ·rw[if_neg hop]at h
   by_cases h7y:y.faa=7
   ·rw[if_pos h7y]at h
    by_cases h1o:o=1
    ·rw[if_pos h1o]at h
     injection h with h
     omega
    ·rw[if_neg h1o]at h
     rcases kV hx h7 m (s+1) (o - 1) e (by omega) (by omega) (by omega) h hi with⟨k,h1,h2,h3⟩|⟨j,h1,h2,h3⟩
     ·exact .inl ⟨k,by omega,h2,h3⟩
     ·exact .inr ⟨j+1,by omega,by omega,by rw[cW hy,if_neg hop,if_pos h7y,if_neg (by omega),show j+1 - 1=j by omega];exact h3⟩
   ·rw[if_neg h7y]at h
    rcases kV hx h7 m (s+1) o e (by omega) (by omega) ho h hi with⟨k,h1,h2,h3⟩|⟨j,h1,h2,h3⟩
    ·exact .inl ⟨k,by omega,h2,h3⟩
    ·exact .inr ⟨j,h1,h2,by rw[cW hy,if_neg hop,if_neg h7y];exact h3⟩
structure CxOk (C:Cx):Prop where
 len:C.p.length≤60
 small:ay 1048576 (.lst 4 (C.p.map FX.tr))
 line:∀(k:Nat) (ln:FX),C.p[k]?=some ln→0≤ln.faa∧ln.faa≤7∧ln.faf.length≤4∧ln.fad.length≤20∧((ln.faa=1∨ln.faa=2∨ln.faa=3∨ln.faa=5∨ln.faa=6)→bi ln.fad=true)
 fn:∀(g:Nat) (ln:FX),C.p[g]?=some ln→ln.faa=0→∃e,endAt C.p g=some e∧(localsOf C.p (g:Int)).length≤8∧ln.faf.length≤(localsOf C.p (g:Int)).length∧∀(k:Nat) (y:FX),g < k→k < e→C.p[k]?=some y→y.faa≠0∧(∀t∈y.fad,t.faa=7→∃f,findN C.p 0 t.fab=some f∧(argsN C.p f:Int)=t.fai)∧(y.faa=4→∃i,g≤i∧i < k∧elseAt C.p i=some k)
 args:0≤C.args∧C.args≤4
 words:0≤C.words∧C.words≤1000
 inl:0≤C.b.faj∧C.b.faj≤3
structure ScOk (C:Cx) (x:Sc) (ins:List Nat):Prop where
 fn:∃ln,C.p[x.f]?=some ln∧ln.faa=0
 loc:x.locals=localsOf C.p (x.f:Int)
 first:0≤x.first∧x.first≤8 * ins.length
 chain:x.chain.length+1=ins.length
 out:x.outer=true↔x.chain=[]
 args:x.outer=true→C.args=argsN C.p x.f
 mem:ins.getLast?=some x.f
section
variable {C:Cx} {x:Sc} {ins:List Nat}
theorem CxOk.argsN (h:CxOk C)(g:Nat):argsN C.p g≤4:=by
 unfold Go.Proofs.YtoglejgmjeojoaaGreat.argsN
 split
 ·rename_i l hl
  have:=h.line _ _ hl
  omega
 ·omega
theorem ScOk.endE (hC:CxOk C)(hx:ScOk C x ins):∃e,endAt C.p x.f=some e∧x.f < e∧e < C.p.length∧jV C.p x.f=e∧x.locals.length≤8:=by
 obtain⟨ln,h1,h2⟩:=hx.fn
 obtain⟨e,h3,h4,h5,_⟩:=hC.fn _ _ h1 h2
 obtain⟨_,_,_,_,h6,h7⟩:=aC h3
 exact⟨e,h3,h6,h7,by rw[jV,h3];rfl,by rw[hx.loc];exact h4⟩
theorem ScOk.argLe (hC:CxOk C)(hx:ScOk C x ins):argsN C.p x.f≤x.locals.length:=by
 obtain⟨ln,h1,h2⟩:=hx.fn
 obtain⟨e,h3,h4,h5,_⟩:=hC.fn _ _ h1 h2
 rw[hx.loc,Go.Proofs.YtoglejgmjeojoaaGreat.argsN,h1]
 exact h5
theorem ScOk.own7 (hC:CxOk C)(hx:ScOk C x ins){e k:Nat}{ln:FX}(he:endAt C.p x.f=some e)(h1:x.f < k)(h2:k≤e)(hk:C.p[k]?=some ln)(h7:ln.faa=7):
  endAt C.p (aF C.p k)=some k∧((k=e∧aF C.p k=x.f)∨(k < e∧x.f < aF C.p k∧aF C.p k < k∧∃y,C.p[aF C.p k]?=some y∧(y.faa=3∨y.faa=5))):=by
 obtain⟨l0,g1,g2⟩:=hx.fn
 obtain⟨e',g3,_,_,g4⟩:=hC.fn _ _ g1 g2
 rw[he]at g3
 injection g3 with g3
 subst g3
 by_cases hke:k=e
 ·subst hke
  rw[ig he]
  exact⟨he,.inl ⟨rfl,rfl⟩⟩
 ·obtain⟨z,hz,hzo,hzn,_,_⟩:=aC he
  rcases kV hk h7 _ (x.f+1) 1 e (Nat.le_refl _) (by omega) (Nat.le_refl _) hzn h2 with⟨i,k1,k2,k3⟩|⟨j,k1,k2,k3⟩
  ·rw[ig k3]
   obtain⟨y,hy,hyo,_⟩:=aC k3
   have:=(g4 i y (by omega) (by omega) hy).1
   rw[opensK_iff]at hyo
   exact⟨k3,.inr ⟨by omega,by omega,k2,y,hy,by omega⟩⟩
  ·have:j=1:=by omega
   subst this
   rw[hzn]at k3
   injection k3 with k3
   omega
theorem ScOk.own4 (hC:CxOk C)(hx:ScOk C x ins){e k:Nat}{ln:FX}(he:endAt C.p x.f=some e)(h1:x.f < k)(h2:k≤e)(hk:C.p[k]?=some ln)(h4:ln.faa=4):
  elseAt C.p (aF C.p k)=some k∧x.f < aF C.p k∧aF C.p k < k∧k < e:=by
 obtain⟨l0,g1,g2⟩:=hx.fn
 obtain⟨e',g3,_,_,g4⟩:=hC.fn _ _ g1 g2
 rw[he]at g3
 injection g3 with g3
 subst g3
 have hke:k≠e:=fun h=>by
  subst h
  obtain⟨y,hy,h7⟩:=bu he
  rw[hk]at hy
  injection hy with hy
  subst hy
  omega
 obtain⟨i,k1,k2,k3⟩:=(g4 k ln h1 (by omega) hk).2.2 h4
 rw[oQ k3]
 obtain⟨y,_,hy,h3,_⟩:=aW k3
 have:i≠x.f:=fun h=>by
  subst h
  rw[g1]at hy
  injection hy with hy
  subst hy
  omega
 exact⟨k3,by omega,k2,by omega⟩
end
abbrev tvP (l:List FX):TV:=tvL 4 (l.map FX.tr)
abbrev vP (l:List FX):AV:= .r (.c (.t (.lst 4 (l.map FX.tr))))
theorem pj (k:Int):Sim.Spec Tryz.prog 214 [tvI k] (rB (cf k)):=by
 refine aj hΓ ao Tryz.func214 rfl (by decide) rfl ?_
 unfold cf
 repeat' ((conv=>whnf);first|refine Or.inl ?_|apply oi|(apply fi<;>intro h)|refine⟨_,rfl,?_⟩|exact rfl)
 all_goals try exact⟨KO⟩
 all_goals(refine⟨congrArg Tr.bool ?_⟩;simp_all;(try(rw[Bool.eq_iff_iff];simp;omega)))
theorem la (k:Int):Sim.Spec Tryz.prog 192 [tvI k] (rB (cf k)):=by
 refine aj hΓ ao Tryz.func192 rfl (by decide) rfl ?_
 unfold cf
 repeat' ((conv=>whnf);first|refine Or.inl ?_|apply oi|(apply fi<;>intro h)|refine⟨_,rfl,?_⟩|exact rfl)
 all_goals try exact⟨KO⟩
 all_goals(refine⟨congrArg Tr.bool ?_⟩;simp_all;(try(rw[Bool.eq_iff_iff];simp;omega)))
abbrev CK (l:List FX)(k:Nat)(R:Int):={q:Nat×Nat // q.1≤l.length∧q.2≤q.1∧(q.2=0→q.1=k)∧cp (endN (l.drop q.1) q.1 q.2)=R}
theorem tj {l:List FX}{k:Nat}{x:FX}(hx:l[k]?=some x)(ho:cf x.faa=true):endN (l.drop k) k 0=endAt l k:=by
 rw[cW hx,if_pos ho,pL hx ho]
theorem cH (l:List FX)(k:Int)(hl:l.length≤1048576):Sim.Spec Tryz.prog 152 [tvP l,tvI k] (rI (be l k)):=by
 refine aj hΓ ao Tryz.func152 rfl (by decide) rfl ?_
 have hlen:(l.map FX.tr).length=l.length:=by simp
 by_cases hin:0≤k∧k < l.length
 ·obtain⟨h0,h1⟩:=hin
  obtain⟨k,rfl⟩:=Int.eq_ofNat_of_zero_le h0
  obtain⟨x,hx⟩:=ae (l:=l) (k:=k) (by omega)
  have hO:=pj x.faa
  have hw:IntKind.i64.wrap (((l.map FX.tr).length:Int) - 1)=(l.length:Int) - 1:=by rw[IntWalk.i64_in _ (by omega)];omega
  have hb:=aE (k:Int) 0 (IntKind.i64.wrap (((l.map FX.tr).length:Int) - 1))
  rw[within_iff.2 ⟨h0,by rw[hw];omega⟩]at hb
  cases ho:cf x.faa with
  | false=>
   rw[ho]at hO
   have:be l (k:Int)= -1:=by rw[bb,endAt,hx];dsimp only;rw[if_neg (by simp[ho])];rfl
   rw[this]
   repeat' ((conv=>whnf);first|refine Or.inl ?_|apply oi|(apply fi<;>intro h)|refine ci hb (ai rfl (ai rfl (ai rfl trivial))) ?_|refine⟨k,x.tr,rfl,ab hx,?_⟩|refine ci hO (ai rfl trivial) ?_|refine⟨_,rfl,?_⟩|exact rfl)
   all_goals try exact⟨KO⟩
   all_goals try exact KX
  | true=>
   rw[ho]at hO
   obtain⟨R,hR⟩:∃R,be l (k:Int)=R:=⟨_,rfl⟩
   rw[hR]
   rw[bb,←tj hx ho]at hR
   repeat' ((conv=>whnf);first|refine Or.inl ?_|apply oi|(apply fi<;>intro h)|refine ci hb (ai rfl (ai rfl (ai rfl trivial))) ?_|refine⟨k,x.tr,rfl,ab hx,?_⟩|refine ci hO (ai rfl trivial) ?_|refine⟨_,rfl,?_⟩|exact rfl)
   all_goals try exact⟨KO⟩
   all_goals try exact KX
   conv=>whnf
   refine⟨CK l k R,fun q=>⟨[(0,vP l),(5,tI .i64 (q.1.2:Int)),(6,tI .i64 (q.1.1:Int))],[],[]⟩,fun q=>l.length - q.1.1,⟨(k,0),by dsimp only;omega,by omega,fun _=>rfl,hR⟩,?_,?_⟩
   ·skip
    repeat' ((conv=>whnf);first|refine Or.inl ?_|apply oi|(apply fi<;>intro h)|refine⟨_,rfl,?_⟩|exact rfl)
    all_goals try exact⟨KO⟩
   intro⟨⟨i,o⟩,hi,hoi,hs,hr⟩
   dsimp only at hi hoi hs hr ⊢
   by_cases hlt:i < l.length
   ·obtain⟨y,hy⟩:=ae hlt
    have hO2:=pj y.faa
    rw[cW hy]at hr
    cases hoy:cf y.faa with
    | true=>
     rw[hoy]at hO2
     rw[if_pos hoy]at hr
     have h7:y.faa≠7:=by rw[opensK_iff]at hoy;omega
     repeat' ((conv=>whnf);first|refine Or.inl ?_|apply oi|(apply fi<;>intro h)|refine⟨i,y.tr,rfl,ab hy,?_⟩|refine ci hO2 (ai rfl trivial) ?_|refine⟨_,rfl,?_⟩|exact rfl)
     all_goals try exact⟨KO⟩
     all_goals try exact KX
     all_goals try(exfalso;(try simp_all[af]);(try omega);done)
     all_goals try exact K5
     conv=>whnf
     refine⟨⟨(i+1,o+1),by dsimp only;omega,by dsimp only;omega,fun h=>by omega,hr⟩,?_,KD⟩
     repeat' ((conv=>whnf);first|refine Or.inl ?_|apply oi|(apply fi<;>intro h)|refine⟨_,rfl,?_⟩|exact rfl)
     all_goals try exact⟨KO⟩
     all_goals try exact⟨K4⟩
     all_goals exact⟨by dsimp only;rw[IntWalk.i64_in _ (by omega)];rfl⟩
    | false=>
     rw[hoy]at hO2
     rw[if_neg (by simp[hoy])]at hr
     have hne:o≠0:=fun h=>by
      have:=hs h
      subst this
      rw[hx]at hy
      injection hy with hy
      subst hy
      rw[ho]at hoy
      cases hoy
     by_cases h7:y.faa=7
     ·rw[if_pos h7]at hr
      by_cases h1:o=1
      ·rw[if_pos h1]at hr
       subst hr
       subst h1
       repeat' ((conv=>whnf);first|refine Or.inl ?_|apply oi|(apply fi<;>intro h)|refine⟨i,y.tr,rfl,ab hy,?_⟩|refine ci hO2 (ai rfl trivial) ?_|refine⟨_,rfl,?_⟩|exact rfl)
       all_goals try exact⟨KO⟩
       all_goals try exact KX
       all_goals try(exfalso;(try simp_all[af]);(try omega);done)
      ·rw[if_neg h1]at hr
       repeat' ((conv=>whnf);first|refine Or.inl ?_|apply oi|(apply fi<;>intro h)|refine⟨i,y.tr,rfl,ab hy,?_⟩|refine ci hO2 (ai rfl trivial) ?_|refine⟨_,rfl,?_⟩|exact rfl)
       all_goals try exact⟨KO⟩
       all_goals try exact KX
       all_goals try(exfalso;(try simp_all[af]);(try omega);done)
       all_goals try exact K5
       conv=>whnf
       refine⟨⟨(i+1,o - 1),by dsimp only;omega,by dsimp only;omega,fun h=>by omega,hr⟩,?_,KD⟩
       repeat' ((conv=>whnf);first|refine Or.inl ?_|apply oi|(apply fi<;>intro h)|refine⟨_,rfl,?_⟩|exact rfl)
       all_goals try exact⟨KO⟩
       all_goals try exact⟨K4⟩
       all_goals exact⟨by dsimp only;congr 1;rw[IntWalk.i64_in _ (by omega)];omega⟩
     ·rw[if_neg h7]at hr
      repeat' ((conv=>whnf);first|refine Or.inl ?_|apply oi|(apply fi<;>intro h)|refine⟨i,y.tr,rfl,ab hy,?_⟩|refine ci hO2 (ai rfl trivial) ?_|refine⟨_,rfl,?_⟩|exact rfl)
      all_goals try exact⟨KO⟩
      all_goals try exact KX
      all_goals try(exfalso;(try simp_all[af]);(try omega);done)
      all_goals try exact K6
      conv=>whnf
      refine⟨⟨(i+1,o),by dsimp only;omega,by dsimp only;omega,fun h=>by omega,hr⟩,?_,KD⟩
      repeat' ((conv=>whnf);first|refine Or.inl ?_|apply oi|(apply fi<;>intro h)|refine⟨_,rfl,?_⟩|exact rfl)
      all_goals try exact⟨KO⟩
      all_goals try exact⟨K4⟩
   ·rw[ju (by omega)]at hr
    subst hr
    repeat' ((conv=>whnf);first|refine Or.inl ?_|apply oi|(apply fi<;>intro h)|refine⟨_,rfl,?_⟩|exact rfl)
    all_goals try exact⟨KO⟩
    all_goals try exact KX
 ·have:be l k= -1:=by
   rw[be]
   split
   ·rw[endAt,List.getElem?_eq_none (by omega)];rfl
   ·rfl
  rw[this]
  have hb:=aE k 0 (IntKind.i64.wrap (((l.map FX.tr).length:Int) - 1))
  have hw:IntKind.i64.wrap (((l.map FX.tr).length:Int) - 1)=(l.length:Int) - 1:=by rw[IntWalk.i64_in _ (by omega)];omega
  have hf:af k 0 (IntKind.i64.wrap (((l.map FX.tr).length:Int) - 1))=false:=by
   cases hx:af k 0 (IntKind.i64.wrap (((l.map FX.tr).length:Int) - 1))with
   | false=>rfl
   | true=>have:=within_iff.1 hx;rw[hw]at this;exact absurd ⟨this.1,by omega⟩ hin
  rw[hf]at hb
  repeat' ((conv=>whnf);first|refine Or.inl ?_|apply oi|(apply fi<;>intro h)|refine ci hb (ai rfl (ai rfl (ai rfl trivial))) ?_|refine⟨_,rfl,?_⟩|exact rfl)
  all_goals try exact⟨KO⟩
  all_goals try exact KX
theorem cI (l:List FX)(k:Int)(hl:l.length≤1048576):Sim.Spec Tryz.prog 121 [tvP l,tvI k] (rI (be l k)):=by
 refine aj hΓ ao Tryz.func121 rfl (by decide) rfl ?_
 have hlen:(l.map FX.tr).length=l.length:=by simp
 by_cases hin:0≤k∧k < l.length
 ·obtain⟨h0,h1⟩:=hin
  obtain⟨k,rfl⟩:=Int.eq_ofNat_of_zero_le h0
  obtain⟨x,hx⟩:=ae (l:=l) (k:=k) (by omega)
  have hO:=la x.faa
  skip
  cases ho:cf x.faa with
  | false=>
   rw[ho]at hO
   have:be l (k:Int)= -1:=by rw[bb,endAt,hx];dsimp only;rw[if_neg (by simp[ho])];rfl
   rw[this]
   repeat' ((conv=>whnf);first|refine Or.inl ?_|apply oi|(apply fi<;>intro h)|refine⟨k,x.tr,rfl,ab hx,?_⟩|refine ci hO (ai rfl trivial) ?_|refine⟨_,rfl,?_⟩|exact rfl)
   all_goals try exact⟨KO⟩
   all_goals try exact KX
  | true=>
   rw[ho]at hO
   obtain⟨R,hR⟩:∃R,be l (k:Int)=R:=⟨_,rfl⟩
   rw[hR]
   rw[bb,←tj hx ho]at hR
   repeat' ((conv=>whnf);first|refine Or.inl ?_|apply oi|(apply fi<;>intro h)|refine⟨k,x.tr,rfl,ab hx,?_⟩|refine ci hO (ai rfl trivial) ?_|refine⟨_,rfl,?_⟩|exact rfl)
   all_goals try exact⟨KO⟩
   all_goals try exact KX
   conv=>whnf
   refine⟨CK l k R,fun q=>⟨[(0,vP l),(5,tI .i64 (q.1.2:Int)),(6,tI .i64 (q.1.1:Int))],[],[]⟩,fun q=>l.length - q.1.1,⟨(k,0),by dsimp only;omega,by omega,fun _=>rfl,hR⟩,?_,?_⟩
   ·skip
    repeat' ((conv=>whnf);first|refine Or.inl ?_|apply oi|(apply fi<;>intro h)|refine⟨_,rfl,?_⟩|exact rfl)
    all_goals try exact⟨KO⟩
   intro⟨⟨i,o⟩,hi,hoi,hs,hr⟩
   dsimp only at hi hoi hs hr ⊢
   by_cases hlt:i < l.length
   ·obtain⟨y,hy⟩:=ae hlt
    have hO2:=la y.faa
    rw[cW hy]at hr
    cases hoy:cf y.faa with
    | true=>
     rw[hoy]at hO2
     rw[if_pos hoy]at hr
     have h7:y.faa≠7:=by rw[opensK_iff]at hoy;omega
     repeat' ((conv=>whnf);first|refine Or.inl ?_|apply oi|(apply fi<;>intro h)|refine⟨i,y.tr,rfl,ab hy,?_⟩|refine ci hO2 (ai rfl trivial) ?_|refine⟨_,rfl,?_⟩|exact rfl)
     all_goals try exact⟨KO⟩
     all_goals try exact KX
     all_goals try(exfalso;(try simp_all[af]);(try omega);done)
     all_goals try exact K5
     conv=>whnf
     refine⟨⟨(i+1,o+1),by dsimp only;omega,by dsimp only;omega,fun h=>by omega,hr⟩,?_,KD⟩
     repeat' ((conv=>whnf);first|refine Or.inl ?_|apply oi|(apply fi<;>intro h)|refine⟨_,rfl,?_⟩|exact rfl)
     all_goals try exact⟨KO⟩
     all_goals try exact⟨K4⟩
     all_goals exact⟨by dsimp only;rw[IntWalk.i64_in _ (by omega)];rfl⟩
    | false=>
     rw[hoy]at hO2
     rw[if_neg (by simp[hoy])]at hr
     have hne:o≠0:=fun h=>by
      have:=hs h
      subst this
      rw[hx]at hy
      injection hy with hy
      subst hy
      rw[ho]at hoy
      cases hoy
     by_cases h7:y.faa=7
     ·rw[if_pos h7]at hr
      by_cases h1:o=1
      ·rw[if_pos h1]at hr
       subst hr
       subst h1
       repeat' ((conv=>whnf);first|refine Or.inl ?_|apply oi|(apply fi<;>intro h)|refine⟨i,y.tr,rfl,ab hy,?_⟩|refine ci hO2 (ai rfl trivial) ?_|refine⟨_,rfl,?_⟩|exact rfl)
       all_goals try exact⟨KO⟩
       all_goals try exact KX
       all_goals try(exfalso;(try simp_all[af]);(try omega);done)
      ·rw[if_neg h1]at hr
       repeat' ((conv=>whnf);first|refine Or.inl ?_|apply oi|(apply fi<;>intro h)|refine⟨i,y.tr,rfl,ab hy,?_⟩|refine ci hO2 (ai rfl trivial) ?_|refine⟨_,rfl,?_⟩|exact rfl)
       all_goals try exact⟨KO⟩
       all_goals try exact KX
       all_goals try(exfalso;(try simp_all[af]);(try omega);done)
       all_goals try exact K5
       conv=>whnf
       refine⟨⟨(i+1,o - 1),by dsimp only;omega,by dsimp only;omega,fun h=>by omega,hr⟩,?_,KD⟩
       repeat' ((conv=>whnf);first|refine Or.inl ?_|apply oi|(apply fi<;>intro h)|refine⟨_,rfl,?_⟩|exact rfl)
       all_goals try exact⟨KO⟩
       all_goals try exact⟨K4⟩
       all_goals exact⟨by dsimp only;congr 1;rw[IntWalk.i64_in _ (by omega)];omega⟩
     ·rw[if_neg h7]at hr
      repeat' ((conv=>whnf);first|refine Or.inl ?_|apply oi|(apply fi<;>intro h)|refine⟨i,y.tr,rfl,ab hy,?_⟩|refine ci hO2 (ai rfl trivial) ?_|refine⟨_,rfl,?_⟩|exact rfl)
      all_goals try exact⟨KO⟩
      all_goals try exact KX
      all_goals try(exfalso;(try simp_all[af]);(try omega);done)
      all_goals try exact K6
      conv=>whnf
      refine⟨⟨(i+1,o),by dsimp only;omega,by dsimp only;omega,fun h=>by omega,hr⟩,?_,KD⟩
      repeat' ((conv=>whnf);first|refine Or.inl ?_|apply oi|(apply fi<;>intro h)|refine⟨_,rfl,?_⟩|exact rfl)
      all_goals try exact⟨KO⟩
      all_goals try exact⟨K4⟩
   ·rw[ju (by omega)]at hr
    subst hr
    repeat' ((conv=>whnf);first|refine Or.inl ?_|apply oi|(apply fi<;>intro h)|refine⟨_,rfl,?_⟩|exact rfl)
    all_goals try exact⟨KO⟩
    all_goals try exact KX
 ·have:be l k= -1:=by
   rw[be]
   split
   ·rw[endAt,List.getElem?_eq_none (by omega)];rfl
   ·rfl
  rw[this]
  repeat' ((conv=>whnf);first|refine Or.inl ?_|apply oi|(apply fi<;>intro h)|refine⟨_,rfl,?_⟩|exact rfl)
  all_goals try exact⟨KO⟩
  all_goals try exact KX
theorem fd (l:List (List UInt8)):flat (l.map ag):=dr _ (by intro x c hc sz rs e;subst e;simp[ag]at hc)
theorem uF {l:List FX}{k:Nat}{x:FX}(hx:l[k]?=some x)(h:x.faa≠3∨endAt l k=none):elseAt l k=none:=by
 unfold elseAt
 rw[hx]
 cases he:endAt l k with
 | none=>rfl
 | some e=>
  dsimp only
  rw[if_neg]
  rcases h with h|h
  ·exact h
  ·rw[he]at h;cases h
theorem ng (l:List FX)(k:Int)(hl:l.length≤1048576):Sim.Spec Tryz.prog 155 [tvP l,tvI k] (rI (bc l k)):=by
 refine aj hΓ ao Tryz.func155 rfl (by decide) rfl ?_
 have hlen:(l.map FX.tr).length=l.length:=by simp
 have hE:=cH l k hl
 cases he:endAt l k.toNat with
 | none=>
  have h1:be l k= -1:=by rw[be,he];split <;> rfl
  have h2:bc l k= -1:=by
   rw[bc]
   split
   ·unfold elseAt;rw[he];cases l[k.toNat]? <;> rfl
   ·rfl
  rw[h1]at hE
  rw[h2]
  repeat' ((conv=>whnf);first|refine Or.inl ?_|apply oi|(apply fi<;>intro h)|refine ci hE (ai rfl (ai rfl trivial)) ?_|refine⟨_,rfl,?_⟩|exact rfl)
  all_goals try exact⟨KO⟩
  all_goals try exact KX
 | some e=>
  obtain⟨x,hx,ho,_,hke,hel⟩:=aC he
  by_cases h0:0≤k
  ·obtain⟨k,rfl⟩:=Int.eq_ofNat_of_zero_le h0
   rw[Int.toNat_natCast]at he hx hke
   rw[bb,ba he]at hE
   by_cases h3:x.faa=3
   ·obtain⟨R,hR⟩:∃R,bc l (k:Int)=R:=⟨_,rfl⟩
    rw[hR]
    have hR:cp (elseN l e (e - (k+1)) (k+1))=R:=by
     rw[bc,if_pos h0,Int.toNat_natCast,elseAt,hx,he]at hR
     dsimp only at hR
     rw[if_pos h3]at hR
     exact hR
    repeat' ((conv=>whnf);first|refine Or.inl ?_|apply oi|(apply fi<;>intro h)|refine ci hE (ai rfl (ai rfl trivial)) ?_|refine⟨k,x.tr,rfl,ab hx,?_⟩|refine⟨_,rfl,?_⟩|exact rfl)
    all_goals try exact⟨KO⟩
    all_goals try exact KX
    all_goals try(exfalso;(try simp_all[af]);(try omega);done)
    conv=>whnf
    refine⟨{i:Nat // k < i∧i≤e∧cp (elseN l e (e - i) i)=R},fun q=>⟨[(0,vP l),(5,tI .i64 (e:Int)),(6,tI .i64 (q.1:Int))],[],[]⟩,fun q=>e - q.1,⟨k+1,by omega,by omega,hR⟩,?_,?_⟩
    ·skip
     repeat' ((conv=>whnf);first|refine Or.inl ?_|apply oi|(apply fi<;>intro h)|refine⟨_,rfl,?_⟩|exact rfl)
     all_goals try exact⟨KO⟩
     all_goals exact⟨by dsimp only;rw[IntWalk.i64_in _ (by omega)];rfl⟩
    intro⟨i,hki,hi,hr⟩
    dsimp only at hki hi hr ⊢
    by_cases hlt:i < e
    ·obtain⟨y,hy⟩:=ae (l:=l) (k:=i) (by omega)
     rw[ur hlt hy]at hr
     have hE2:=cH l (i:Int) hl
     by_cases h4:y.faa=4
     ·rw[if_pos h4]at hr
      subst hr
      repeat' ((conv=>whnf);first|refine Or.inl ?_|apply oi|(apply fi<;>intro h)|refine ci hE2 (ai rfl (ai rfl trivial)) ?_|refine⟨i,y.tr,rfl,ab hy,?_⟩|refine⟨_,rfl,?_⟩|exact rfl)
      all_goals try exact⟨KO⟩
      all_goals try exact KX
      all_goals try(exfalso;(try simp_all[af]);(try omega);done)
     ·rw[if_neg h4]at hr
      by_cases h5:y.faa=3∨y.faa=5
      ·rw[if_pos h5]at hr
       obtain⟨m,hm,hm1,hm2⟩:=mb he (i:=i) hki hlt hy (opensK_iff.2 (by omega))
       rw[hm]at hr
       dsimp only at hr
       rw[bb,ba hm]at hE2
       repeat' ((conv=>whnf);first|refine Or.inl ?_|apply oi|(apply fi<;>intro h)|refine ci hE2 (ai rfl (ai rfl trivial)) ?_|refine⟨i,y.tr,rfl,ab hy,?_⟩|refine⟨_,rfl,?_⟩|exact rfl)
       all_goals try exact⟨KO⟩
       all_goals try exact KX
       all_goals try(exfalso;(try simp_all[af]);(try omega);done)
       all_goals
        conv=>whnf
        refine⟨⟨m+1,by omega,by omega,hr⟩,?_,KD⟩
        repeat' ((conv=>whnf);first|refine Or.inl ?_|apply oi|(apply fi<;>intro h)|refine⟨_,rfl,?_⟩|exact rfl)
        all_goals try exact⟨KO⟩
        all_goals try exact⟨K4⟩
        all_goals exact⟨by dsimp only;rw[IntWalk.i64_in _ (by omega)];rfl⟩
      ·rw[if_neg h5]at hr
       repeat' ((conv=>whnf);first|refine Or.inl ?_|apply oi|(apply fi<;>intro h)|refine ci hE2 (ai rfl (ai rfl trivial)) ?_|refine⟨i,y.tr,rfl,ab hy,?_⟩|refine⟨_,rfl,?_⟩|exact rfl)
       all_goals try exact⟨KO⟩
       all_goals try exact KX
       all_goals try(exfalso;(try simp_all[af]);(try omega);done)
       all_goals try(exfalso;simp_all;done)
       conv=>whnf
       refine⟨⟨i+1,by omega,by omega,hr⟩,?_,KD⟩
       repeat' ((conv=>whnf);first|refine Or.inl ?_|apply oi|(apply fi<;>intro h)|refine⟨_,rfl,?_⟩|exact rfl)
       all_goals try exact⟨KO⟩
       all_goals try exact⟨K4⟩
       all_goals exact⟨by dsimp only;rw[IntWalk.i64_in _ (by omega)];rfl⟩
    ·rw[vk (by omega)]at hr
     subst hr
     repeat' ((conv=>whnf);first|refine Or.inl ?_|apply oi|(apply fi<;>intro h)|refine⟨_,rfl,?_⟩|exact rfl)
     all_goals try exact⟨KO⟩
     all_goals try exact KX
   ·have h2:bc l (k:Int)= -1:=by
     rw[bc,if_pos h0,Int.toNat_natCast,uF hx (.inl h3)];rfl
    rw[h2]
    repeat' ((conv=>whnf);first|refine Or.inl ?_|apply oi|(apply fi<;>intro h)|refine ci hE (ai rfl (ai rfl trivial)) ?_|refine⟨k,x.tr,rfl,ab hx,?_⟩|refine⟨_,rfl,?_⟩|exact rfl)
    all_goals try exact⟨KO⟩
    all_goals try exact KX
    all_goals try(exfalso;(try simp_all[af]);(try omega);done)
  ·have h1:be l k= -1:=by rw[be,if_neg h0]
   have h2:bc l k= -1:=by rw[bc,if_neg h0]
   rw[h1]at hE
   rw[h2]
   repeat' ((conv=>whnf);first|refine Or.inl ?_|apply oi|(apply fi<;>intro h)|refine ci hE (ai rfl (ai rfl trivial)) ?_|refine⟨_,rfl,?_⟩|exact rfl)
   all_goals try exact⟨KO⟩
   all_goals try exact KX
theorem jD (l:List FX)(k:Int)(hl:l.length≤1048576):Sim.Spec Tryz.prog 173 [tvP l,tvI k] (rI (bc l k)):=by
 refine aj hΓ ao Tryz.func173 rfl (by decide) rfl ?_
 have hlen:(l.map FX.tr).length=l.length:=by simp
 have hE:=cI l k hl
 cases he:endAt l k.toNat with
 | none=>
  have h1:be l k= -1:=by rw[be,he];split <;> rfl
  have h2:bc l k= -1:=by
   rw[bc]
   split
   ·unfold elseAt;rw[he];cases l[k.toNat]? <;> rfl
   ·rfl
  rw[h1]at hE
  rw[h2]
  repeat' ((conv=>whnf);first|refine Or.inl ?_|apply oi|(apply fi<;>intro h)|refine ci hE (ai rfl (ai rfl trivial)) ?_|refine⟨_,rfl,?_⟩|exact rfl)
  all_goals try exact⟨KO⟩
  all_goals try exact KX
 | some e=>
  obtain⟨x,hx,ho,_,hke,hel⟩:=aC he
  by_cases h0:0≤k
  ·obtain⟨k,rfl⟩:=Int.eq_ofNat_of_zero_le h0
   rw[Int.toNat_natCast]at he hx hke
   rw[bb,ba he]at hE
   by_cases h3:x.faa=3
   ·obtain⟨R,hR⟩:∃R,bc l (k:Int)=R:=⟨_,rfl⟩
    rw[hR]
    have hR:cp (elseN l e (e - (k+1)) (k+1))=R:=by
     rw[bc,if_pos h0,Int.toNat_natCast,elseAt,hx,he]at hR
     dsimp only at hR
     rw[if_pos h3]at hR
     exact hR
    repeat' ((conv=>whnf);first|refine Or.inl ?_|apply oi|(apply fi<;>intro h)|refine ci hE (ai rfl (ai rfl trivial)) ?_|refine⟨k,x.tr,rfl,ab hx,?_⟩|refine⟨_,rfl,?_⟩|exact rfl)
    all_goals try exact⟨KO⟩
    all_goals try exact KX
    all_goals try(exfalso;(try simp_all[af]);(try omega);done)
    conv=>whnf
    refine⟨{i:Nat // k < i∧i≤e∧cp (elseN l e (e - i) i)=R},fun q=>⟨[(0,vP l),(5,tI .i64 (e:Int)),(6,tI .i64 (q.1:Int))],[],[]⟩,fun q=>e - q.1,⟨k+1,by omega,by omega,hR⟩,?_,?_⟩
    ·skip
     repeat' ((conv=>whnf);first|refine Or.inl ?_|apply oi|(apply fi<;>intro h)|refine⟨_,rfl,?_⟩|exact rfl)
     all_goals try exact⟨KO⟩
     all_goals exact⟨by dsimp only;rw[IntWalk.i64_in _ (by omega)];rfl⟩
    intro⟨i,hki,hi,hr⟩
    dsimp only at hki hi hr ⊢
    by_cases hlt:i < e
    ·obtain⟨y,hy⟩:=ae (l:=l) (k:=i) (by omega)
     rw[ur hlt hy]at hr
     have hE2:=cI l (i:Int) hl
     by_cases h4:y.faa=4
     ·rw[if_pos h4]at hr
      subst hr
      repeat' ((conv=>whnf);first|refine Or.inl ?_|apply oi|(apply fi<;>intro h)|refine ci hE2 (ai rfl (ai rfl trivial)) ?_|refine⟨i,y.tr,rfl,ab hy,?_⟩|refine⟨_,rfl,?_⟩|exact rfl)
      all_goals try exact⟨KO⟩
      all_goals try exact KX
      all_goals try(exfalso;(try simp_all[af]);(try omega);done)
     ·rw[if_neg h4]at hr
      by_cases h5:y.faa=3∨y.faa=5
      ·rw[if_pos h5]at hr
       obtain⟨m,hm,hm1,hm2⟩:=mb he (i:=i) hki hlt hy (opensK_iff.2 (by omega))
       rw[hm]at hr
       dsimp only at hr
       rw[bb,ba hm]at hE2
       repeat' ((conv=>whnf);first|refine Or.inl ?_|apply oi|(apply fi<;>intro h)|refine ci hE2 (ai rfl (ai rfl trivial)) ?_|refine⟨i,y.tr,rfl,ab hy,?_⟩|refine⟨_,rfl,?_⟩|exact rfl)
       all_goals try exact⟨KO⟩
       all_goals try exact KX
       all_goals try(exfalso;(try simp_all[af]);(try omega);done)
       all_goals
        conv=>whnf
        refine⟨⟨m+1,by omega,by omega,hr⟩,?_,KD⟩
        repeat' ((conv=>whnf);first|refine Or.inl ?_|apply oi|(apply fi<;>intro h)|refine⟨_,rfl,?_⟩|exact rfl)
        all_goals try exact⟨KO⟩
        all_goals try exact⟨K4⟩
        all_goals exact⟨by dsimp only;rw[IntWalk.i64_in _ (by omega)];rfl⟩
      ·rw[if_neg h5]at hr
       repeat' ((conv=>whnf);first|refine Or.inl ?_|apply oi|(apply fi<;>intro h)|refine ci hE2 (ai rfl (ai rfl trivial)) ?_|refine⟨i,y.tr,rfl,ab hy,?_⟩|refine⟨_,rfl,?_⟩|exact rfl)
       all_goals try exact⟨KO⟩
       all_goals try exact KX
       all_goals try(exfalso;(try simp_all[af]);(try omega);done)
       all_goals try(exfalso;simp_all;done)
       conv=>whnf
       refine⟨⟨i+1,by omega,by omega,hr⟩,?_,KD⟩
       repeat' ((conv=>whnf);first|refine Or.inl ?_|apply oi|(apply fi<;>intro h)|refine⟨_,rfl,?_⟩|exact rfl)
       all_goals try exact⟨KO⟩
       all_goals try exact⟨K4⟩
       all_goals exact⟨by dsimp only;rw[IntWalk.i64_in _ (by omega)];rfl⟩
    ·rw[vk (by omega)]at hr
     subst hr
     repeat' ((conv=>whnf);first|refine Or.inl ?_|apply oi|(apply fi<;>intro h)|refine⟨_,rfl,?_⟩|exact rfl)
     all_goals try exact⟨KO⟩
     all_goals try exact KX
   ·have h2:bc l (k:Int)= -1:=by
     rw[bc,if_pos h0,Int.toNat_natCast,uF hx (.inl h3)];rfl
    rw[h2]
    repeat' ((conv=>whnf);first|refine Or.inl ?_|apply oi|(apply fi<;>intro h)|refine ci hE (ai rfl (ai rfl trivial)) ?_|refine⟨k,x.tr,rfl,ab hx,?_⟩|refine⟨_,rfl,?_⟩|exact rfl)
    all_goals try exact⟨KO⟩
    all_goals try exact KX
    all_goals try(exfalso;(try simp_all[af]);(try omega);done)
  ·have h1:be l k= -1:=by rw[be,if_neg h0]
   have h2:bc l k= -1:=by rw[bc,if_neg h0]
   rw[h1]at hE
   rw[h2]
   repeat' ((conv=>whnf);first|refine Or.inl ?_|apply oi|(apply fi<;>intro h)|refine ci hE (ai rfl (ai rfl trivial)) ?_|refine⟨_,rfl,?_⟩|exact rfl)
   all_goals try exact⟨KO⟩
   all_goals try exact KX
theorem br (l:List FX)(hl:l.length≤1048576):Sim.Spec Tryz.prog 88 [tvP l] (rL 1 ((an l).map fun n:Nat=>aa n)):=by
 refine aj hΓ ao Tryz.func88 rfl (by decide) rfl ?_
 have hlen:(l.map FX.tr).length=l.length:=by simp
 obtain⟨R,hR⟩:∃R,an l=R:=⟨_,rfl⟩
 rw[hR]
 repeat' ((conv=>whnf);first|refine Or.inl ?_|apply oi|(apply fi<;>intro h)|refine⟨_,rfl,?_⟩|exact rfl)
 all_goals try exact⟨KO⟩
 conv=>whnf
 refine⟨{q:Nat×List Nat // q.1≤l.length∧q.2.length≤q.1∧q.2++funsF (l.drop q.1) q.1=R},fun q=>⟨[(0,vP l),(3,.r (.c (.own (6,0,0)))),(7,vP l),(8,tI .i64 ((l.map FX.tr).length:Int)),(9,tI .i64 (q.1.1:Int))],[((6,0,0),some (.arr true 1 (q.1.2.map fun n:Nat=>aa n)))],[6]⟩,fun q=>l.length - q.1.1,⟨(0,[]),by simp,by simp,by simpa [an]using hR⟩,?_,?_⟩
 ·skip
  repeat' ((conv=>whnf);first|refine Or.inl ?_|apply oi|(apply fi<;>intro h)|refine⟨_,rfl,?_⟩|exact rfl)
  all_goals try exact⟨KO⟩
 intro⟨⟨k,acc⟩,hk,hal,hr⟩
 dsimp only at hk hal hr ⊢
 have hacc:(acc.map fun n:Nat=>aa n).length=acc.length:=by simp
 by_cases hlt:k < l.length
 ·obtain⟨x,hx⟩:=ae hlt
  rw[jN hx]at hr
  by_cases h0:x.faa=0
  ·rw[if_pos h0]at hr
   repeat' ((conv=>whnf);first|refine Or.inl ?_|apply oi|(apply fi<;>intro h)|refine⟨k,x.tr,rfl,ab hx,?_⟩|refine⟨_,rfl,?_⟩|exact rfl)
   all_goals try exact⟨KO⟩
   all_goals try exact KX
   all_goals try(exfalso;(try simp_all[af]);(try omega);done)
   all_goals try exact⟨⟨by simp;omega,by simp;omega⟩⟩
   conv=>whnf
   refine⟨⟨(k+1,acc++[k]),by dsimp only;omega,by simp;omega,by rw[←hr];simp⟩,?_,KD⟩
   repeat' ((conv=>whnf);first|refine Or.inl ?_|apply oi|(apply fi<;>intro h)|refine⟨_,rfl,?_⟩|exact rfl)
   all_goals try exact⟨KO⟩
   all_goals try exact⟨K4⟩
   all_goals exact⟨by simp[aa]⟩
  ·rw[if_neg h0,List.nil_append]at hr
   repeat' ((conv=>whnf);first|refine Or.inl ?_|apply oi|(apply fi<;>intro h)|refine⟨k,x.tr,rfl,ab hx,?_⟩|refine⟨_,rfl,?_⟩|exact rfl)
   all_goals try exact⟨KO⟩
   all_goals try exact KX
   all_goals try(exfalso;(try simp_all[af]);(try omega);done)
   conv=>whnf
   refine⟨⟨(k+1,acc),by dsimp only;omega,by dsimp only;omega,hr⟩,?_,KD⟩
   repeat' ((conv=>whnf);first|refine Or.inl ?_|apply oi|(apply fi<;>intro h)|refine⟨_,rfl,?_⟩|exact rfl)
   all_goals try exact⟨KO⟩
   all_goals try exact⟨K4⟩
 ·rw[List.drop_eq_nil_of_le (by omega),funsF,List.append_nil]at hr
  subst hr
  repeat' ((conv=>whnf);first|refine Or.inl ?_|apply oi|(apply fi<;>intro h)|refine⟨_,rfl,?_⟩|exact rfl)
  all_goals try exact⟨KO⟩
  all_goals try exact KX
theorem cv (l:List FX)(hl:l.length≤1048576):Sim.Spec Tryz.prog 62 [tvP l] (rL 1 ((an l).map fun n:Nat=>aa n)):=by
 refine aj hΓ ao Tryz.func62 rfl (by decide) rfl ?_
 have hlen:(l.map FX.tr).length=l.length:=by simp
 obtain⟨R,hR⟩:∃R,an l=R:=⟨_,rfl⟩
 rw[hR]
 repeat' ((conv=>whnf);first|refine Or.inl ?_|apply oi|(apply fi<;>intro h)|refine⟨_,rfl,?_⟩|exact rfl)
 all_goals try exact⟨KO⟩
 conv=>whnf
 refine⟨{q:Nat×List Nat // q.1≤l.length∧q.2.length≤q.1∧q.2++funsF (l.drop q.1) q.1=R},fun q=>⟨[(0,vP l),(3,.r (.c (.own (5,0,0)))),(4,tI .i64 (q.1.1:Int))],[((5,0,0),some (.arr true 1 (q.1.2.map fun n:Nat=>aa n)))],[5]⟩,fun q=>l.length - q.1.1,⟨(0,[]),by simp,by simp,by simpa [an]using hR⟩,?_,?_⟩
 ·skip
  repeat' ((conv=>whnf);first|refine Or.inl ?_|apply oi|(apply fi<;>intro h)|refine⟨_,rfl,?_⟩|exact rfl)
  all_goals try exact⟨KO⟩
 intro⟨⟨k,acc⟩,hk,hal,hr⟩
 dsimp only at hk hal hr ⊢
 have hacc:(acc.map fun n:Nat=>aa n).length=acc.length:=by simp
 by_cases hlt:k < l.length
 ·obtain⟨x,hx⟩:=ae hlt
  rw[jN hx]at hr
  by_cases h0:x.faa=0
  ·rw[if_pos h0]at hr
   repeat' ((conv=>whnf);first|refine Or.inl ?_|apply oi|(apply fi<;>intro h)|refine⟨k,x.tr,rfl,ab hx,?_⟩|refine⟨_,rfl,?_⟩|exact rfl)
   all_goals try exact⟨KO⟩
   all_goals try exact KX
   all_goals try(exfalso;(try simp_all[af]);(try omega);done)
   all_goals try exact⟨⟨by simp;omega,by simp;omega⟩⟩
   conv=>whnf
   refine⟨⟨(k+1,acc++[k]),by dsimp only;omega,by simp;omega,by rw[←hr];simp⟩,?_,KD⟩
   repeat' ((conv=>whnf);first|refine Or.inl ?_|apply oi|(apply fi<;>intro h)|refine⟨_,rfl,?_⟩|exact rfl)
   all_goals try exact⟨KO⟩
   all_goals try exact⟨K4⟩
   all_goals exact⟨by simp[aa]⟩
  ·rw[if_neg h0,List.nil_append]at hr
   repeat' ((conv=>whnf);first|refine Or.inl ?_|apply oi|(apply fi<;>intro h)|refine⟨k,x.tr,rfl,ab hx,?_⟩|refine⟨_,rfl,?_⟩|exact rfl)
   all_goals try exact⟨KO⟩
   all_goals try exact KX
   all_goals try(exfalso;(try simp_all[af]);(try omega);done)
   conv=>whnf
   refine⟨⟨(k+1,acc),by dsimp only;omega,by dsimp only;omega,hr⟩,?_,KD⟩
   repeat' ((conv=>whnf);first|refine Or.inl ?_|apply oi|(apply fi<;>intro h)|refine⟨_,rfl,?_⟩|exact rfl)
   all_goals try exact⟨KO⟩
   all_goals try exact⟨K4⟩
 ·rw[List.drop_eq_nil_of_le (by omega),funsF,List.append_nil]at hr
  subst hr
  repeat' ((conv=>whnf);first|refine Or.inl ?_|apply oi|(apply fi<;>intro h)|refine⟨_,rfl,?_⟩|exact rfl)
  all_goals try exact⟨KO⟩
  all_goals try exact KX
theorem eC (l:List FX)(s:List UInt8)(hl:l.length≤1048576):Sim.Spec Tryz.prog 153 [tvP l,tvS s] (rI (eH l s)):=by
 refine aj hΓ ao Tryz.func153 rfl (by decide) rfl ?_
 have hlen:(l.map FX.tr).length=l.length:=by simp
 obtain⟨R,hR⟩:∃R,eH l s=R:=⟨_,rfl⟩
 rw[hR]
 repeat' ((conv=>whnf);first|refine Or.inl ?_|apply oi|(apply fi<;>intro h)|refine⟨_,rfl,?_⟩|exact rfl)
 all_goals try exact⟨KO⟩
 conv=>whnf
 refine⟨{k:Nat // k≤l.length∧cp (findN (l.drop k) k s)=R},fun q=>⟨[(0,vP l),(1,tS s),(7,vP l),(8,tI .i64 ((l.map FX.tr).length:Int)),(9,tI .i64 (q.1:Int))],[],[]⟩,fun q=>l.length - q.1,⟨0,by omega,hR⟩,?_,?_⟩
 ·skip
  repeat' ((conv=>whnf);first|refine Or.inl ?_|apply oi|(apply fi<;>intro h)|refine⟨_,rfl,?_⟩|exact rfl)
  all_goals try exact⟨KO⟩
 intro⟨k,hk,hr⟩
 dsimp only at hk hr ⊢
 by_cases hlt:k < l.length
 ·obtain⟨x,hx⟩:=ae hlt
  rw[ya hx]at hr
  by_cases h0:x.faa=0∧x.fab=s
  ·rw[if_pos h0]at hr
   obtain⟨h1,h2⟩:=h0
   subst h2
   subst hr
   repeat' ((conv=>whnf);first|refine Or.inl ?_|apply oi|(apply fi<;>intro h)|refine⟨k,x.tr,rfl,ab hx,?_⟩|refine⟨_,rfl,?_⟩|exact rfl)
   all_goals try exact⟨KO⟩
   all_goals try exact KX
   all_goals try(exfalso;(try simp_all[af]);(try omega);done)
  ·rw[if_neg h0]at hr
   repeat' ((conv=>whnf);first|refine Or.inl ?_|apply oi|(apply fi<;>intro h)|refine⟨k,x.tr,rfl,ab hx,?_⟩|refine⟨_,rfl,?_⟩|exact rfl)
   all_goals try exact⟨KO⟩
   all_goals try exact KX
   all_goals try(exfalso;apply h0;simp_all;done)
   all_goals
    conv=>whnf
    refine⟨⟨k+1,by omega,hr⟩,?_,KD⟩
    repeat' ((conv=>whnf);first|refine Or.inl ?_|apply oi|(apply fi<;>intro h)|refine⟨_,rfl,?_⟩|exact rfl)
    all_goals try exact⟨KO⟩
    all_goals try exact⟨K4⟩
 ·rw[List.drop_eq_nil_of_le (by omega),findN]at hr
  subst hr
  repeat' ((conv=>whnf);first|refine Or.inl ?_|apply oi|(apply fi<;>intro h)|refine⟨_,rfl,?_⟩|exact rfl)
  all_goals try exact⟨KO⟩
  all_goals try exact KX
theorem dk (l:List FX)(s:List UInt8)(hl:l.length≤1048576):Sim.Spec Tryz.prog 120 [tvP l,tvS s] (rI (eH l s)):=by
 refine aj hΓ ao Tryz.func120 rfl (by decide) rfl ?_
 have hlen:(l.map FX.tr).length=l.length:=by simp
 obtain⟨R,hR⟩:∃R,eH l s=R:=⟨_,rfl⟩
 rw[hR]
 repeat' ((conv=>whnf);first|refine Or.inl ?_|apply oi|(apply fi<;>intro h)|refine⟨_,rfl,?_⟩|exact rfl)
 all_goals try exact⟨KO⟩
 conv=>whnf
 refine⟨{k:Nat // k≤l.length∧cp (findN (l.drop k) k s)=R},fun q=>⟨[(0,vP l),(1,tS s),(5,tI .i64 (q.1:Int))],[],[]⟩,fun q=>l.length - q.1,⟨0,by omega,hR⟩,?_,?_⟩
 ·skip
  repeat' ((conv=>whnf);first|refine Or.inl ?_|apply oi|(apply fi<;>intro h)|refine⟨_,rfl,?_⟩|exact rfl)
  all_goals try exact⟨KO⟩
 intro⟨k,hk,hr⟩
 dsimp only at hk hr ⊢
 by_cases hlt:k < l.length
 ·obtain⟨x,hx⟩:=ae hlt
  rw[ya hx]at hr
  by_cases h0:x.faa=0∧x.fab=s
  ·rw[if_pos h0]at hr
   obtain⟨h1,h2⟩:=h0
   subst h2
   subst hr
   repeat' ((conv=>whnf);first|refine Or.inl ?_|apply oi|(apply fi<;>intro h)|refine⟨k,x.tr,rfl,ab hx,?_⟩|refine⟨_,rfl,?_⟩|exact rfl)
   all_goals try exact⟨KO⟩
   all_goals try exact KX
   all_goals try(exfalso;(try simp_all[af]);(try omega);done)
  ·rw[if_neg h0]at hr
   repeat' ((conv=>whnf);first|refine Or.inl ?_|apply oi|(apply fi<;>intro h)|refine⟨k,x.tr,rfl,ab hx,?_⟩|refine⟨_,rfl,?_⟩|exact rfl)
   all_goals try exact⟨KO⟩
   all_goals try exact KX
   all_goals try(exfalso;apply h0;simp_all;done)
   all_goals
    conv=>whnf
    refine⟨⟨k+1,by omega,hr⟩,?_,KD⟩
    repeat' ((conv=>whnf);first|refine Or.inl ?_|apply oi|(apply fi<;>intro h)|refine⟨_,rfl,?_⟩|exact rfl)
    all_goals try exact⟨KO⟩
    all_goals try exact⟨K4⟩
 ·rw[List.drop_eq_nil_of_le (by omega),findN]at hr
  subst hr
  repeat' ((conv=>whnf);first|refine Or.inl ?_|apply oi|(apply fi<;>intro h)|refine⟨_,rfl,?_⟩|exact rfl)
  all_goals try exact⟨KO⟩
  all_goals try exact KX
abbrev rN (l:List (List UInt8)):Res:=rL 1 (l.map ag)
theorem rd {l:List FX}{k e:Nat}{x:FX}(hx:l[k]?=some x)(he:endAt l k=some e)(h0:x.faa=0):localsOf l (k:Int)=locN l e (e - k) k x.faf:=by
 rw[localsOf,if_pos (by omega),Int.toNat_natCast,hx,he]
 dsimp only
 rw[if_pos h0]
theorem fV {l:List FX}{k:Int}(h:∀e x,endAt l k.toNat=some e→l[k.toNat]?=some x→0≤k→x.faa≠0):localsOf l k=[]:=by
 rw[localsOf]
 split
 ·split
  ·rename_i x e hx he
   rw[if_neg (h e x he hx (by assumption))]
  ·rfl
 ·rfl
theorem wg {l:List FX}{k:Int}(hl:l.length≤1048576)(hs:∀x∈l,aw 1048576 x.tr):(localsOf l k).length≤2097152∧True:=by
 refine⟨?_,trivial⟩
 rw[localsOf]
 split
 ·split
  ·rename_i x e hx he
   obtain⟨_,_,_,_,h1,h2⟩:=aC he
   have:=(cD (hs x (List.mem_of_getElem? hx))).2.1
   split
   ·have:=yI (l:=l) (e:=e) (e - k.toNat) k.toNat x.faf
    omega
   ·simp
  ·simp
 ·simp
theorem eR (l:List (List UInt8))(s:List UInt8)(hl:l.length≤2097152):Sim.Spec Tryz.prog 176 [tvL 1 (l.map ag),tvS s] (rI (cQ l s)):=by
 refine aj hΓ ao Tryz.func176 rfl (by decide) rfl ?_
 have hlen:(l.map ag).length=l.length:=by simp
 obtain⟨R,hR⟩:∃R,cQ l s=R:=⟨_,rfl⟩
 rw[hR]
 repeat' ((conv=>whnf);first|refine Or.inl ?_|apply oi|(apply fi<;>intro h)|refine⟨_,rfl,?_⟩|exact rfl)
 all_goals try exact⟨KO⟩
 conv=>whnf
 refine⟨{k:Nat // k≤l.length∧cp (jA (l.drop k) k s)=R},fun k=>⟨[(0,.r (.c (.t (.lst 1 (l.map ag))))),(1,tS s),(5,tI .i64 (k.1:Int))],[],[]⟩,fun k=>l.length - k.1,⟨0,by omega,hR⟩,?_,?_⟩
 ·skip
  repeat' ((conv=>whnf);first|refine Or.inl ?_|apply oi|(apply fi<;>intro h)|refine⟨_,rfl,?_⟩|exact rfl)
  all_goals try exact⟨KO⟩
 intro⟨k,hk,hr⟩
 dsimp only at hk hr ⊢
 by_cases hlt:k < l.length
 ·obtain⟨x,hx⟩:=ae hlt
  rw[xb hx]at hr
  cases he:(x==s)with
  | true=>
   rw[he,if_pos rfl]at hr
   have he2:=eq_of_beq he
   subst he2
   subst hr
   repeat' ((conv=>whnf);first|refine Or.inl ?_|apply oi|(apply fi<;>intro h)|refine⟨k,(ag x),rfl,ab hx,?_⟩|refine⟨_,rfl,?_⟩|exact rfl)
   all_goals try exact⟨KO⟩
   all_goals try exact KX
   all_goals try(exfalso;(try simp_all[af]);(try omega);done)
  | false=>
   rw[he,if_neg (by simp)]at hr
   repeat' ((conv=>whnf);first|refine Or.inl ?_|apply oi|(apply fi<;>intro h)|refine⟨k,(ag x),rfl,ab hx,?_⟩|refine⟨_,rfl,?_⟩|exact rfl)
   all_goals try exact⟨KO⟩
   all_goals try exact KX
   all_goals try(exfalso;(try simp_all[af]);(try omega);done)
   conv=>whnf
   refine⟨⟨k+1,by omega,hr⟩,?_,KD⟩
   repeat' ((conv=>whnf);first|refine Or.inl ?_|apply oi|(apply fi<;>intro h)|refine⟨_,rfl,?_⟩|exact rfl)
   all_goals try exact⟨KO⟩
   all_goals try exact⟨K4⟩
 ·rw[List.drop_eq_nil_of_le (by omega),jA]at hr
  subst hr
  repeat' ((conv=>whnf);first|refine Or.inl ?_|apply oi|(apply fi<;>intro h)|refine⟨_,rfl,?_⟩|exact rfl)
  all_goals try exact⟨KO⟩
  all_goals try exact KX
theorem gM (l:List FX)(k:Int)(hl:l.length≤1048576)(hs:∀x∈l,aw 1048576 x.tr):Sim.Spec Tryz.prog 215 [tvP l,tvI k] (rN (localsOf l k)):=by
 refine aj hΓ ao Tryz.func215 rfl (by decide) rfl ?_
 have hlen:(l.map FX.tr).length=l.length:=by simp
 have hE:=cH l k hl
 by_cases h0:0≤k
 ·obtain⟨k,rfl⟩:=Int.eq_ofNat_of_zero_le h0
  rw[bb]at hE
  cases he:endAt l k with
  | none=>
   rw[ir he]at hE
   rw[fV (fun e x h1 _ _=>by rw[Int.toNat_natCast,he]at h1;cases h1)]
   repeat' ((conv=>whnf);first|refine Or.inl ?_|apply oi|(apply fi<;>intro h)|refine ci hE (ai rfl (ai rfl trivial)) ?_|refine⟨_,rfl,?_⟩|exact rfl)
   all_goals try exact⟨KO⟩
   all_goals try exact KX
  | some e=>
   rw[ba he]at hE
   obtain⟨x,hx,ho,_,hke,hel⟩:=aC he
   by_cases hk0:x.faa=0
   ·have hsm:=cD (hs x (List.mem_of_getElem? hx))
    rw[rd hx he hk0]
    obtain⟨R,hR⟩:∃R,locN l e (e - k) k x.faf=R:=⟨_,rfl⟩
    rw[hR]
    have hal:(x.faf.map ag).length=x.faf.length:=by simp
    repeat' ((conv=>whnf);first|refine Or.inl ?_|apply oi|(apply fi<;>intro h)|refine ci hE (ai rfl (ai rfl trivial)) ?_|refine⟨k,x.tr,rfl,ab hx,?_⟩|refine⟨_,rfl,?_⟩|exact rfl)
    all_goals try exact⟨KO⟩
    all_goals try exact KX
    all_goals try(exfalso;(try simp_all[af]);(try omega);done)
    all_goals try exact⟨⟨by simp;omega,by simp;omega⟩⟩
    conv=>whnf
    refine⟨{q:Nat×List (List UInt8) // k≤q.1∧q.1≤e∧q.2.length≤1048576+q.1∧locN l e (e - q.1) q.1 q.2=R},fun q=>⟨[(0,vP l),(5,tI .i64 (e:Int)),(6,.r (.c (.own (6,0,0)))),(7,tI .i64 (q.1.1:Int))],[((6,0,0),some (.arr false 1 (q.1.2.map ag)))],[6]⟩,fun q=>e - q.1.1,⟨(k,x.faf),by dsimp only;omega,by dsimp only;omega,by dsimp only;omega,hR⟩,?_,?_⟩
    ·skip
     repeat' ((conv=>whnf);first|refine Or.inl ?_|apply oi|(apply fi<;>intro h)|refine⟨_,rfl,?_⟩|exact rfl)
     all_goals try exact⟨KO⟩
     all_goals exact⟨by simp⟩
    intro⟨⟨i,acc⟩,hki,hi,hac,hr⟩
    dsimp only at hki hi hac hr ⊢
    have hal2:(acc.map ag).length=acc.length:=by simp
    by_cases hlt:i < e
    ·obtain⟨y,hy⟩:=ae (l:=l) (k:=i) (by omega)
     rw[vI hlt hy]at hr
     have hC:=eX acc y.fab (by omega)
     by_cases h1:y.faa=1
     ·rw[if_pos h1]at hr
      unfold jl at hr
      cases hc:acc.contains y.fab with
      | true=>
       rw[hc]at hC hr
       rw[if_pos rfl]at hr
       repeat' ((conv=>whnf);first|refine Or.inl ?_|apply oi|(apply fi<;>intro h)|refine ci hC (ai rfl (ai rfl trivial)) ?_|refine⟨i,y.tr,rfl,ab hy,?_⟩|refine⟨_,rfl,?_⟩|exact rfl)
       all_goals try exact⟨KO⟩
       all_goals try exact KX
       all_goals try(exfalso;(try simp_all[af]);(try omega);done)
       all_goals
        conv=>whnf
        refine⟨⟨(i+1,acc),by dsimp only;omega,by dsimp only;omega,by dsimp only;omega,hr⟩,?_,KD⟩
        repeat' ((conv=>whnf);first|refine Or.inl ?_|apply oi|(apply fi<;>intro h)|refine⟨_,rfl,?_⟩|exact rfl)
        all_goals try exact⟨KO⟩
        all_goals try exact⟨K4⟩
      | false=>
       rw[hc]at hC hr
       rw[if_neg (by simp)]at hr
       repeat' ((conv=>whnf);first|refine Or.inl ?_|apply oi|(apply fi<;>intro h)|refine ci hC (ai rfl (ai rfl trivial)) ?_|refine⟨i,y.tr,rfl,ab hy,?_⟩|refine⟨_,rfl,?_⟩|exact rfl)
       all_goals try exact⟨KO⟩
       all_goals try exact KX
       all_goals try(exfalso;(try simp_all[af]);(try omega);done)
       all_goals try exact⟨⟨by simp;omega,by simp;omega⟩⟩
       all_goals
        conv=>whnf
        refine⟨⟨(i+1,acc++[y.fab]),by dsimp only;omega,by dsimp only;omega,by simp;omega,hr⟩,?_,KD⟩
        repeat' ((conv=>whnf);first|refine Or.inl ?_|apply oi|(apply fi<;>intro h)|refine⟨_,rfl,?_⟩|exact rfl)
        all_goals try exact⟨KO⟩
        all_goals try exact⟨K4⟩
        all_goals exact⟨by simp[ag]⟩
     ·rw[if_neg h1]at hr
      repeat' ((conv=>whnf);first|refine Or.inl ?_|apply oi|(apply fi<;>intro h)|refine ci hC (ai rfl (ai rfl trivial)) ?_|refine⟨i,y.tr,rfl,ab hy,?_⟩|refine⟨_,rfl,?_⟩|exact rfl)
      all_goals try exact⟨KO⟩
      all_goals try exact KX
      all_goals try(exfalso;(try simp_all[af]);(try omega);done)
      all_goals try(exfalso;simp_all;done)
      conv=>whnf
      refine⟨⟨(i+1,acc),by dsimp only;omega,by dsimp only;omega,by dsimp only;omega,hr⟩,?_,KD⟩
      repeat' ((conv=>whnf);first|refine Or.inl ?_|apply oi|(apply fi<;>intro h)|refine⟨_,rfl,?_⟩|exact rfl)
      all_goals try exact⟨KO⟩
      all_goals try exact⟨K4⟩
    ·rw[yL (by omega)]at hr
     subst hr
     repeat' ((conv=>whnf);first|refine Or.inl ?_|apply oi|(apply fi<;>intro h)|refine⟨_,rfl,?_⟩|exact rfl)
     all_goals try exact⟨KO⟩
     all_goals try exact KX
     all_goals exact⟨⟨rfl,fd _⟩⟩
   ·rw[fV (fun e x' h1 h2 _=>by rw[Int.toNat_natCast,hx]at h2;injection h2 with h2;subst h2;exact hk0)]
    repeat' ((conv=>whnf);first|refine Or.inl ?_|apply oi|(apply fi<;>intro h)|refine ci hE (ai rfl (ai rfl trivial)) ?_|refine⟨k,x.tr,rfl,ab hx,?_⟩|refine⟨_,rfl,?_⟩|exact rfl)
    all_goals try exact⟨KO⟩
    all_goals try exact KX
    all_goals try(exfalso;(try simp_all[af]);(try omega);done)
 ·have h1:be l k= -1:=by rw[be,if_neg h0]
  rw[h1]at hE
  rw[fV (fun e x _ _ h=>absurd h h0)]
  repeat' ((conv=>whnf);first|refine Or.inl ?_|apply oi|(apply fi<;>intro h)|refine ci hE (ai rfl (ai rfl trivial)) ?_|refine⟨_,rfl,?_⟩|exact rfl)
  all_goals try exact⟨KO⟩
  all_goals try exact KX
theorem gK (l:List FX)(k:Int)(hl:l.length≤1048576)(hs:∀x∈l,aw 1048576 x.tr):Sim.Spec Tryz.prog 172 [tvP l,tvI k] (rN (localsOf l k)):=by
 refine aj hΓ ao Tryz.func172 rfl (by decide) rfl ?_
 have hlen:(l.map FX.tr).length=l.length:=by simp
 have hE:=cI l k hl
 by_cases h0:0≤k
 ·obtain⟨k,rfl⟩:=Int.eq_ofNat_of_zero_le h0
  rw[bb]at hE
  cases he:endAt l k with
  | none=>
   rw[ir he]at hE
   rw[fV (fun e x h1 _ _=>by rw[Int.toNat_natCast,he]at h1;cases h1)]
   repeat' ((conv=>whnf);first|refine Or.inl ?_|apply oi|(apply fi<;>intro h)|refine ci hE (ai rfl (ai rfl trivial)) ?_|refine⟨_,rfl,?_⟩|exact rfl)
   all_goals try exact⟨KO⟩
   all_goals try exact KX
  | some e=>
   rw[ba he]at hE
   obtain⟨x,hx,ho,_,hke,hel⟩:=aC he
   by_cases hk0:x.faa=0
   ·have hsm:=cD (hs x (List.mem_of_getElem? hx))
    rw[rd hx he hk0]
    obtain⟨R,hR⟩:∃R,locN l e (e - k) k x.faf=R:=⟨_,rfl⟩
    rw[hR]
    have hal:(x.faf.map ag).length=x.faf.length:=by simp
    repeat' ((conv=>whnf);first|refine Or.inl ?_|apply oi|(apply fi<;>intro h)|refine ci hE (ai rfl (ai rfl trivial)) ?_|refine⟨k,x.tr,rfl,ab hx,?_⟩|refine⟨_,rfl,?_⟩|exact rfl)
    all_goals try exact⟨KO⟩
    all_goals try exact KX
    all_goals try(exfalso;(try simp_all[af]);(try omega);done)
    all_goals try exact⟨⟨by simp;omega,by simp;omega⟩⟩
    conv=>whnf
    refine⟨{q:Nat×List (List UInt8) // k≤q.1∧q.1≤e∧q.2.length≤1048576+q.1∧locN l e (e - q.1) q.1 q.2=R},fun q=>⟨[(0,vP l),(5,tI .i64 (e:Int)),(6,.r (.c (.own (6,0,0)))),(7,tI .i64 (q.1.1:Int))],[((6,0,0),some (.arr false 1 (q.1.2.map ag)))],[6]⟩,fun q=>e - q.1.1,⟨(k,x.faf),by dsimp only;omega,by dsimp only;omega,by dsimp only;omega,hR⟩,?_,?_⟩
    ·skip
     repeat' ((conv=>whnf);first|refine Or.inl ?_|apply oi|(apply fi<;>intro h)|refine⟨_,rfl,?_⟩|exact rfl)
     all_goals try exact⟨KO⟩
     all_goals exact⟨by simp⟩
    intro⟨⟨i,acc⟩,hki,hi,hac,hr⟩
    dsimp only at hki hi hac hr ⊢
    have hal2:(acc.map ag).length=acc.length:=by simp
    by_cases hlt:i < e
    ·obtain⟨y,hy⟩:=ae (l:=l) (k:=i) (by omega)
     rw[vI hlt hy]at hr
     have hC:=eR acc y.fab (by omega)
     by_cases h1:y.faa=1
     ·rw[if_pos h1]at hr
      have hix:=mz (l:=acc) (s:=y.fab)
      generalize cQ acc y.fab=ix at *
      unfold jl at hr
      cases hc:acc.contains y.fab with
      | true=>
       rw[hc]at hix hr
       rw[if_pos rfl]at hr
       repeat' ((conv=>whnf);first|refine Or.inl ?_|apply oi|(apply fi<;>intro h)|refine ci hC (ai rfl (ai rfl trivial)) ?_|refine⟨i,y.tr,rfl,ab hy,?_⟩|refine⟨_,rfl,?_⟩|exact rfl)
       all_goals try exact⟨KO⟩
       all_goals try exact KX
       all_goals try(exfalso;(try simp_all[af]);(try omega);done)
       all_goals
        conv=>whnf
        refine⟨⟨(i+1,acc),by dsimp only;omega,by dsimp only;omega,by dsimp only;omega,hr⟩,?_,KD⟩
        repeat' ((conv=>whnf);first|refine Or.inl ?_|apply oi|(apply fi<;>intro h)|refine⟨_,rfl,?_⟩|exact rfl)
        all_goals try exact⟨KO⟩
        all_goals try exact⟨K4⟩
      | false=>
       rw[hc]at hix hr
       rw[if_neg (by simp)]at hr
       repeat' ((conv=>whnf);first|refine Or.inl ?_|apply oi|(apply fi<;>intro h)|refine ci hC (ai rfl (ai rfl trivial)) ?_|refine⟨i,y.tr,rfl,ab hy,?_⟩|refine⟨_,rfl,?_⟩|exact rfl)
       all_goals try exact⟨KO⟩
       all_goals try exact KX
       all_goals try(exfalso;(try simp_all[af]);(try omega);done)
       all_goals try exact⟨⟨by simp;omega,by simp;omega⟩⟩
       all_goals
        conv=>whnf
        refine⟨⟨(i+1,acc++[y.fab]),by dsimp only;omega,by dsimp only;omega,by simp;omega,hr⟩,?_,KD⟩
        repeat' ((conv=>whnf);first|refine Or.inl ?_|apply oi|(apply fi<;>intro h)|refine⟨_,rfl,?_⟩|exact rfl)
        all_goals try exact⟨KO⟩
        all_goals try exact⟨K4⟩
        all_goals exact⟨by simp[ag]⟩
     ·rw[if_neg h1]at hr
      repeat' ((conv=>whnf);first|refine Or.inl ?_|apply oi|(apply fi<;>intro h)|refine ci hC (ai rfl (ai rfl trivial)) ?_|refine⟨i,y.tr,rfl,ab hy,?_⟩|refine⟨_,rfl,?_⟩|exact rfl)
      all_goals try exact⟨KO⟩
      all_goals try exact KX
      all_goals try(exfalso;(try simp_all[af]);(try omega);done)
      all_goals try(exfalso;simp_all;done)
      conv=>whnf
      refine⟨⟨(i+1,acc),by dsimp only;omega,by dsimp only;omega,by dsimp only;omega,hr⟩,?_,KD⟩
      repeat' ((conv=>whnf);first|refine Or.inl ?_|apply oi|(apply fi<;>intro h)|refine⟨_,rfl,?_⟩|exact rfl)
      all_goals try exact⟨KO⟩
      all_goals try exact⟨K4⟩
    ·rw[yL (by omega)]at hr
     subst hr
     repeat' ((conv=>whnf);first|refine Or.inl ?_|apply oi|(apply fi<;>intro h)|refine⟨_,rfl,?_⟩|exact rfl)
     all_goals try exact⟨KO⟩
     all_goals try exact KX
     all_goals exact⟨⟨rfl,fd _⟩⟩
   ·rw[fV (fun e x' h1 h2 _=>by rw[Int.toNat_natCast,hx]at h2;injection h2 with h2;subst h2;exact hk0)]
    repeat' ((conv=>whnf);first|refine Or.inl ?_|apply oi|(apply fi<;>intro h)|refine ci hE (ai rfl (ai rfl trivial)) ?_|refine⟨k,x.tr,rfl,ab hx,?_⟩|refine⟨_,rfl,?_⟩|exact rfl)
    all_goals try exact⟨KO⟩
    all_goals try exact KX
    all_goals try(exfalso;(try simp_all[af]);(try omega);done)
 ·have h1:be l k= -1:=by rw[be,if_neg h0]
  rw[h1]at hE
  rw[fV (fun e x _ _ h=>absurd h h0)]
  repeat' ((conv=>whnf);first|refine Or.inl ?_|apply oi|(apply fi<;>intro h)|refine ci hE (ai rfl (ai rfl trivial)) ?_|refine⟨_,rfl,?_⟩|exact rfl)
  all_goals try exact⟨KO⟩
  all_goals try exact KX
abbrev vN (l:List (List UInt8)):AV:= .r (.c (.t (.lst 1 (l.map ag))))
theorem zx {α:Type}{f:α→Bool}{l:List α}{k:Nat}{x:α}(hx:l[k]?=some x):(l.drop k).all f=(f x && (l.drop (k+1)).all f):=by
 rw[cV hx,List.all_cons]
theorem qt (l:List FX)(loc:List (List UInt8))(ts:List Gf)(hl:l.length≤1048576)(hloc:loc.length≤4194304)(hts:ts.length≤1048576):Sim.Spec Tryz.prog 216 [tvP l,tvL 1 (loc.map ag),tvL 3 (ts.map Gf.tr)] (rB (bB l loc ts)):=by
 refine aj hΓ ao Tryz.func216 rfl (by decide) rfl ?_
 have hlen:(ts.map Gf.tr).length=ts.length:=by simp
 have hlen2:(l.map FX.tr).length=l.length:=by simp
 obtain⟨R,hR⟩:∃R,bB l loc ts=R:=⟨_,rfl⟩
 rw[hR]
 repeat' ((conv=>whnf);first|refine Or.inl ?_|apply oi|(apply fi<;>intro h)|refine⟨_,rfl,?_⟩|exact rfl)
 all_goals try exact⟨KO⟩
 conv=>whnf
 refine⟨{k:Nat // k≤ts.length∧(ts.drop k).all (bP l loc)=R},fun q=>⟨[(0,vP l),(1,vN loc),(10,.r (.c (.t (.lst 3 (ts.map Gf.tr))))),(11,tI .i64 ((ts.map Gf.tr).length:Int)),(12,tI .i64 (q.1:Int))],[],[]⟩,fun q=>ts.length - q.1,⟨0,by omega,hR⟩,?_,?_⟩
 ·skip
  repeat' ((conv=>whnf);first|refine Or.inl ?_|apply oi|(apply fi<;>intro h)|refine⟨_,rfl,?_⟩|exact rfl)
  all_goals try exact⟨KO⟩
 intro⟨k,hk,hr⟩
 dsimp only at hk hr ⊢
 by_cases hlt:k < ts.length
 ·obtain⟨t,ht⟩:=ae hlt
  rw[zx ht]at hr
  have hC:=eX loc t.fab hloc
  have hF:=eC l t.fab hl
  by_cases h1:t.faa=1
  ·have e1:bP l loc t=loc.contains t.fab:=by unfold bP;rw[if_pos h1]
   rw[e1]at hr
   cases hc:loc.contains t.fab with
   | false=>
    rw[hc]at hC hr
    rw[Bool.false_and]at hr
    subst hr
    repeat' ((conv=>whnf);first|refine Or.inl ?_|apply oi|(apply fi<;>intro h)|refine⟨k,t.tr,rfl,ab ht,?_⟩|refine ci hC (ai rfl (ai rfl trivial)) ?_|refine ci hF (ai rfl (ai rfl trivial)) ?_|refine⟨_,rfl,?_⟩|exact rfl)
    all_goals try exact⟨KO⟩
    all_goals try exact KX
    all_goals try(exfalso;(try simp_all[af]);(try omega);done)
   | true=>
    rw[hc]at hC hr
    rw[Bool.true_and]at hr
    repeat' ((conv=>whnf);first|refine Or.inl ?_|apply oi|(apply fi<;>intro h)|refine⟨k,t.tr,rfl,ab ht,?_⟩|refine ci hC (ai rfl (ai rfl trivial)) ?_|refine ci hF (ai rfl (ai rfl trivial)) ?_|refine⟨_,rfl,?_⟩|exact rfl)
    all_goals try exact⟨KO⟩
    all_goals try exact KX
    all_goals try(exfalso;(try simp_all[af]);(try omega);done)
    all_goals try(exfalso;simp_all;done)
    conv=>whnf
    refine⟨⟨k+1,by omega,hr⟩,?_,KD⟩
    repeat' ((conv=>whnf);first|refine Or.inl ?_|apply oi|(apply fi<;>intro h)|refine⟨_,rfl,?_⟩|exact rfl)
    all_goals try exact⟨KO⟩
    all_goals try exact⟨K4⟩
  ·by_cases h7:t.faa=7
   ·cases hf:findN l 0 t.fab with
    | none=>
     have e1:bP l loc t=false:=by unfold bP;rw[if_neg h1,if_pos h7,hf]
     rw[e1,Bool.false_and]at hr
     subst hr
     rw[show eH l t.fab= -1 from ir hf]at hF
     repeat' ((conv=>whnf);first|refine Or.inl ?_|apply oi|(apply fi<;>intro h)|refine⟨k,t.tr,rfl,ab ht,?_⟩|refine ci hC (ai rfl (ai rfl trivial)) ?_|refine ci hF (ai rfl (ai rfl trivial)) ?_|refine⟨_,rfl,?_⟩|exact rfl)
     all_goals try exact⟨KO⟩
     all_goals try exact KX
     all_goals try(exfalso;(try simp_all[af]);(try omega);done)
    | some f=>
     obtain⟨hfl,x,hx,hx0,_⟩:=fe hf
     have e1:bP l loc t=((x.faf.length:Int)==t.fai):=by unfold bP;rw[if_neg h1,if_pos h7,hf];dsimp only;rw[hx]
     rw[e1]at hr
     rw[show eH l t.fab=(f:Int) from ba hf]at hF
     have hxl:(x.faf.map ag).length=x.faf.length:=by simp
     by_cases hn:(x.faf.length:Int)=t.fai
     ·rw[beq_iff_eq.2 hn,Bool.true_and]at hr
      repeat' ((conv=>whnf);first|refine Or.inl ?_|apply oi|(apply fi<;>intro h)|refine⟨k,t.tr,rfl,ab ht,?_⟩|refine⟨f,x.tr,rfl,ab hx,?_⟩|refine ci hC (ai rfl (ai rfl trivial)) ?_|refine ci hF (ai rfl (ai rfl trivial)) ?_|refine⟨_,rfl,?_⟩|exact rfl)
      all_goals try exact⟨KO⟩
      all_goals try exact KX
      all_goals try(exfalso;(try simp_all[af]);(try omega);done)
      all_goals try(exfalso;simp_all;done)
      conv=>whnf
      refine⟨⟨k+1,by omega,hr⟩,?_,KD⟩
      repeat' ((conv=>whnf);first|refine Or.inl ?_|apply oi|(apply fi<;>intro h)|refine⟨_,rfl,?_⟩|exact rfl)
      all_goals try exact⟨KO⟩
      all_goals try exact⟨K4⟩
     ·rw[beq_eq_false_iff_ne.2 hn,Bool.false_and]at hr
      subst hr
      repeat' ((conv=>whnf);first|refine Or.inl ?_|apply oi|(apply fi<;>intro h)|refine⟨k,t.tr,rfl,ab ht,?_⟩|refine⟨f,x.tr,rfl,ab hx,?_⟩|refine ci hC (ai rfl (ai rfl trivial)) ?_|refine ci hF (ai rfl (ai rfl trivial)) ?_|refine⟨_,rfl,?_⟩|exact rfl)
      all_goals try exact⟨KO⟩
      all_goals try exact KX
      all_goals try(exfalso;(try simp_all[af]);(try omega);done)
      all_goals try(exfalso;simp_all;done)
   ·have e1:bP l loc t=true:=by unfold bP;rw[if_neg h1,if_neg h7]
    rw[e1,Bool.true_and]at hr
    repeat' ((conv=>whnf);first|refine Or.inl ?_|apply oi|(apply fi<;>intro h)|refine⟨k,t.tr,rfl,ab ht,?_⟩|refine ci hC (ai rfl (ai rfl trivial)) ?_|refine ci hF (ai rfl (ai rfl trivial)) ?_|refine⟨_,rfl,?_⟩|exact rfl)
    all_goals try exact⟨KO⟩
    all_goals try exact KX
    all_goals try(exfalso;(try simp_all[af]);(try omega);done)
    all_goals try(exfalso;simp_all;done)
    conv=>whnf
    refine⟨⟨k+1,by omega,hr⟩,?_,KD⟩
    repeat' ((conv=>whnf);first|refine Or.inl ?_|apply oi|(apply fi<;>intro h)|refine⟨_,rfl,?_⟩|exact rfl)
    all_goals try exact⟨KO⟩
    all_goals try exact⟨K4⟩
 ·rw[List.drop_eq_nil_of_le (by omega),List.all_nil]at hr
  subst hr
  repeat' ((conv=>whnf);first|refine Or.inl ?_|apply oi|(apply fi<;>intro h)|refine⟨_,rfl,?_⟩|exact rfl)
  all_goals try exact⟨KO⟩
  all_goals try exact KX
def dy (n:Nat):List Tr:=aa n
theorem nu {x:FX}(h:co x=true)(hk:x.faa=7):x.fad=[]:=by
 unfold co at h
 simp only[Bool.and_eq_true]at h
 have h3:=h.2.2.2
 rw[if_neg (by rw[hk];decide)]at h3
 exact List.length_eq_zero_iff.1 (eq_of_beq h3)
def FL (i:Nat)(st es:List Nat):Prop:=st=es∨st=(i - 1)::es
theorem jy (m:Nat)(r:List Nat):((m::r).reverse.map dy)[r.length]?=some (dy m):=by simp
theorem StkOk.top {l:List FX}{e i m:Nat}{r:List Nat}(h:StkOk l e i (m::r)):i≤m:=h.1
theorem oJ (l:List FX)(k e:Nat)(hl:l.length≤60)(hs:∀x∈l,aw 1048576 x.tr)(hok:∀x∈l,co x=true)(he:endAt l k=some e):Sim.Spec Tryz.prog 154 [tvP l,tvI k,tvI e] (rB (iW l k e)):=by
 refine aj hΓ ao Tryz.func154 rfl (by decide) rfl ?_
 have hlen:(l.map FX.tr).length=l.length:=by simp
 have hL:=gM l k (by omega) hs
 obtain⟨hloc1,hloc2⟩:=wg (l:=l) (k:=(k:Int)) (by omega) hs
 have hst0:=(aC he)
 obtain⟨x0,hx0,ho0,he0,hke,hel⟩:=hst0
 unfold iW
 generalize localsOf l (k:Int)=loc at *
 have hll:(loc.map ag).length=loc.length:=by simp
 by_cases h8:loc.length≤8
 ·rw[decide_eq_true h8,Bool.true_and]
  obtain⟨R,hR⟩:∃R,iK l loc e (e - (k+1)) (k+1) 0=R:=⟨_,rfl⟩
  rw[hR]
  repeat' ((conv=>whnf);first|refine Or.inl ?_|apply oi|(apply fi<;>intro h)|refine ci hL (ai rfl (ai rfl trivial)) ?_|refine⟨_,rfl,?_⟩|exact rfl)
  all_goals try exact⟨KO⟩
  all_goals try exact KX
  conv=>whnf
  refine⟨{q:Nat×List Nat×List Nat // k < q.1∧q.1≤e+1∧q.2.1.length≤5∧(q.1=e+1→R=true)∧(q.1≤e→StkOk l e q.1 q.2.2∧q.2.2.length≤4∧FL q.1 q.2.1 q.2.2∧iK l loc e (e - q.1) q.1 q.2.2.length=R)},fun q=>⟨[(0,vP l),(2,tI .i64 (e:Int)),(7,.r (.c (.own (7,0,0)))),(8,.r (.c (.own (8,0,0)))),(9,tI .i64 (q.1.1:Int))],[((7,0,0),some (.arr true 1 (loc.map ag))),((8,0,0),some (.arr false 1 (q.1.2.1.reverse.map dy)))],[7,8]⟩,fun q=>e+1 - q.1.1,⟨(k+1,[],[]),by dsimp only;omega,by dsimp only;omega,by simp,fun h=>by dsimp only at h;omega,fun _=>⟨he0,by simp,.inl rfl,hR⟩⟩,?_,?_⟩
  ·skip
   repeat' ((conv=>whnf);first|refine Or.inl ?_|apply oi|(apply fi<;>intro h)|refine⟨_,rfl,?_⟩|exact rfl)
   all_goals try exact⟨KO⟩
   all_goals try exact⟨K4⟩
   all_goals exact⟨by simp⟩
  intro⟨⟨i,st,es⟩,q1,q2,q3,q4,q5⟩
  dsimp only at q1 q2 q3 q4 q5 ⊢
  by_cases hie:i≤e
  ·obtain⟨y,hy⟩:=ae (l:=l) (k:=i) (by omega)
   obtain⟨g1,g2,g3,g4⟩:=q5 hie
   have hE:=cH l (i:Int) (by omega)
   have hX:=qt l loc y.fad (by omega) (by omega) (by have:=(cD (hs y (List.mem_of_getElem? hy))).2.2.2.1;omega)
   repeat' ((conv=>whnf);first|refine Or.inl ?_|apply oi|(apply fi<;>intro h)|refine⟨_,rfl,?_⟩|exact rfl)
   all_goals try exact⟨KO⟩
   all_goals try exact KX
   conv=>whnf
   refine⟨{u:List Nat // FL i u es},fun q=>⟨[(0,vP l),(2,tI .i64 (e:Int)),(7,.r (.c (.own (7,0,0)))),(8,.r (.c (.own (8,0,0)))),(9,tI .i64 (i:Int))],[((7,0,0),some (.arr true 1 (loc.map ag))),((8,0,0),some (.arr false 1 (q.1.reverse.map dy)))],[7,8]⟩,fun q=>q.1.length,⟨st,g3⟩,?_,?_⟩
   ·skip
    repeat' ((conv=>whnf);first|refine Or.inl ?_|apply oi|(apply fi<;>intro h)|refine⟨_,rfl,?_⟩|exact rfl)
    all_goals try exact⟨KO⟩
   intro⟨u,hu⟩
   dsimp only at hu ⊢
   have hul:(u.reverse.map dy).length=u.length:=by simp
   cases u with
   | nil=>
    have hes0:es=[]:=by
     rcases hu with h|h
     ·exact h.symm
     ·cases h
    subst hes0
    by_cases hlt:i < e
    ·rw[tw hlt hy]at g4
     by_cases h0:y.faa=0
     ·rw[if_pos h0]at g4
      subst g4
      repeat' ((conv=>whnf);first|refine Or.inl ?_|apply oi|(apply fi<;>intro h)|refine ci hE (ai rfl (ai rfl trivial)) ?_|refine ci hX (ai rfl (ai rfl (ai rfl trivial))) ?_|refine⟨i,y.tr,rfl,ab hy,?_⟩|refine⟨_,rfl,?_⟩|exact rfl)
      all_goals try exact⟨KO⟩
      all_goals try exact KX
      all_goals try(exfalso;(try simp_all[af]);(try omega);done)
     ·rw[if_neg h0]at g4
      by_cases h35:y.faa=3∨y.faa=5
      ·have hd:dep y ([]:List Nat).length=([]:List Nat).length+1:=by unfold dep;rw[if_pos h35]
       rw[hd]at g4
       obtain⟨m',hm',him,hst'⟩:=g1.push hy (opensK_iff.2 (by omega))
       rw[bb,ba hm']at hE
       by_cases hc:([]:List Nat).length+1≤4∧bB l loc y.fad=true
       ·obtain⟨c1,c2⟩:=hc
        rw[if_pos ⟨c1,c2⟩]at g4
        rw[c2]at hX
        repeat' ((conv=>whnf);first|refine Or.inl ?_|apply oi|(apply fi<;>intro h)|refine ci hE (ai rfl (ai rfl trivial)) ?_|refine ci hX (ai rfl (ai rfl (ai rfl trivial))) ?_|refine⟨i,y.tr,rfl,ab hy,?_⟩|refine⟨_,rfl,?_⟩|exact rfl)
        all_goals try exact⟨KO⟩
        all_goals try exact KX
        all_goals try(exfalso;(try simp_all[af]);(try omega);done)
        all_goals try(exfalso;simp at h;omega)
        all_goals try exact⟨⟨by simp <;> omega,by simp <;> omega⟩⟩
        all_goals try(exfalso;simp_all;done)
        all_goals
         conv=>whnf
         refine⟨⟨(i+1,m'::([]:List Nat),m'::([]:List Nat)),by dsimp only;omega,by dsimp only;omega,by simp only[List.length_cons]at *;omega,fun h=>by dsimp only at h;omega,fun _=>⟨hst',by simp only[List.length_cons]at *;omega,.inl rfl,g4⟩⟩,?_,KD⟩
         repeat' ((conv=>whnf);first|refine Or.inl ?_|apply oi|(apply fi<;>intro h)|refine⟨_,rfl,?_⟩|exact rfl)
         all_goals try exact⟨KO⟩
         all_goals try exact⟨K4⟩
         all_goals exact⟨by simp[dy,aa]⟩
       ·rw[if_neg hc]at g4
        subst g4
        cases hkn:bB l loc y.fad with
        | true=>
         rw[hkn]at hX hc
         repeat' ((conv=>whnf);first|refine Or.inl ?_|apply oi|(apply fi<;>intro h)|refine ci hE (ai rfl (ai rfl trivial)) ?_|refine ci hX (ai rfl (ai rfl (ai rfl trivial))) ?_|refine⟨i,y.tr,rfl,ab hy,?_⟩|refine⟨_,rfl,?_⟩|exact rfl)
         all_goals try exact⟨KO⟩
         all_goals try exact KX
         all_goals try(exfalso;(try simp_all[af]);(try omega);done)
         all_goals try exact⟨⟨by simp <;> omega,by simp <;> omega⟩⟩
         all_goals try(exfalso;apply hc;refine⟨?_,rfl⟩;simp at h;omega)
         all_goals try(exfalso;simp_all;done)
        | false=>
         rw[hkn]at hX hc
         repeat' ((conv=>whnf);first|refine Or.inl ?_|apply oi|(apply fi<;>intro h)|refine ci hE (ai rfl (ai rfl trivial)) ?_|refine ci hX (ai rfl (ai rfl (ai rfl trivial))) ?_|refine⟨i,y.tr,rfl,ab hy,?_⟩|refine⟨_,rfl,?_⟩|exact rfl)
         all_goals try exact⟨KO⟩
         all_goals try exact KX
         all_goals try(exfalso;(try simp_all[af]);(try omega);done)
         all_goals try exact⟨⟨by simp <;> omega,by simp <;> omega⟩⟩
         all_goals try(exfalso;simp_all;done)
      ·by_cases h7:y.faa=7
       ·rcases g1.pop hy h7 with⟨_,h'⟩|⟨es',hes,hst'⟩
        ·omega
        have hd:dep y ([]:List Nat).length=es'.length:=by unfold dep;rw[if_neg h35,if_pos h7,hes];simp
        have hl4:es'.length≤4:=by rw[hes]at g2;simp at g2;omega
        rw[hd]at g4
        cases hkn:bB l loc y.fad with
        | true=>
         rw[hkn]at hX g4
         rw[if_pos ⟨hl4,rfl⟩]at g4
         repeat' ((conv=>whnf);first|refine Or.inl ?_|apply oi|(apply fi<;>intro h)|refine ci hE (ai rfl (ai rfl trivial)) ?_|refine ci hX (ai rfl (ai rfl (ai rfl trivial))) ?_|refine⟨i,y.tr,rfl,ab hy,?_⟩|refine⟨_,rfl,?_⟩|exact rfl)
         all_goals try exact⟨KO⟩
         all_goals try exact KX
         all_goals try(exfalso;(try simp_all[af]);(try omega);done)
         all_goals try(exfalso;simp at h;omega)
         all_goals try(exfalso;simp_all;done)
         all_goals
          conv=>whnf
          refine⟨⟨(i+1,[],es'),by dsimp only;omega,by dsimp only;omega,by dsimp only;omega,fun h=>by dsimp only at h;omega,fun _=>⟨hst',hl4,.inr (by dsimp only;rw[hes];rfl),g4⟩⟩,?_,KD⟩
          repeat' ((conv=>whnf);first|refine Or.inl ?_|apply oi|(apply fi<;>intro h)|refine⟨_,rfl,?_⟩|exact rfl)
          all_goals try exact⟨KO⟩
          all_goals try exact⟨K4⟩
        | false=>
         rw[hkn]at hX g4
         rw[if_neg (by simp)]at g4
         subst g4
         repeat' ((conv=>whnf);first|refine Or.inl ?_|apply oi|(apply fi<;>intro h)|refine ci hE (ai rfl (ai rfl trivial)) ?_|refine ci hX (ai rfl (ai rfl (ai rfl trivial))) ?_|refine⟨i,y.tr,rfl,ab hy,?_⟩|refine⟨_,rfl,?_⟩|exact rfl)
         all_goals try exact⟨KO⟩
         all_goals try exact KX
         all_goals try(exfalso;(try simp_all[af]);(try omega);done)
         all_goals try(exfalso;simp_all;done)
       ·have hd:dep y ([]:List Nat).length=([]:List Nat).length:=by unfold dep;rw[if_neg h35,if_neg h7]
        have ho:cf y.faa=false:=by
         cases hh:cf y.faa with
         | false=>rfl
         | true=>rw[opensK_iff]at hh;omega
        have hst':=g1.other hy ho h7
        rw[hd]at g4
        cases hkn:bB l loc y.fad with
        | true=>
         rw[hkn]at hX g4
         rw[if_pos ⟨g2,rfl⟩]at g4
         repeat' ((conv=>whnf);first|refine Or.inl ?_|apply oi|(apply fi<;>intro h)|refine ci hE (ai rfl (ai rfl trivial)) ?_|refine ci hX (ai rfl (ai rfl (ai rfl trivial))) ?_|refine⟨i,y.tr,rfl,ab hy,?_⟩|refine⟨_,rfl,?_⟩|exact rfl)
         all_goals try exact⟨KO⟩
         all_goals try exact KX
         all_goals try(exfalso;(try simp_all[af]);(try omega);done)
         all_goals try(exfalso;simp at h;omega)
         all_goals try(exfalso;simp_all;done)
         all_goals
          conv=>whnf
          refine⟨⟨(i+1,[],[]),by dsimp only;omega,by dsimp only;omega,by dsimp only;omega,fun h=>by dsimp only at h;omega,fun _=>⟨hst',g2,.inl rfl,g4⟩⟩,?_,KD⟩
          repeat' ((conv=>whnf);first|refine Or.inl ?_|apply oi|(apply fi<;>intro h)|refine⟨_,rfl,?_⟩|exact rfl)
          all_goals try exact⟨KO⟩
          all_goals try exact⟨K4⟩
        | false=>
         rw[hkn]at hX g4
         rw[if_neg (by simp)]at g4
         subst g4
         repeat' ((conv=>whnf);first|refine Or.inl ?_|apply oi|(apply fi<;>intro h)|refine ci hE (ai rfl (ai rfl trivial)) ?_|refine ci hX (ai rfl (ai rfl (ai rfl trivial))) ?_|refine⟨i,y.tr,rfl,ab hy,?_⟩|refine⟨_,rfl,?_⟩|exact rfl)
         all_goals try exact⟨KO⟩
         all_goals try exact KX
         all_goals try(exfalso;(try simp_all[af]);(try omega);done)
         all_goals try(exfalso;simp_all;done)
    ·have hie':i=e:=by omega
     obtain⟨z,hz,hz7⟩:=bu he
     rw[←hie',hy]at hz
     injection hz with hz
     subst hz
     rw[vO (by omega)]at g4
     have hkn:bB l loc y.fad=true:=by rw[nu (hok y (List.mem_of_getElem? hy)) hz7];rfl
     rw[hkn]at hX
     repeat' ((conv=>whnf);first|refine Or.inl ?_|apply oi|(apply fi<;>intro h)|refine ci hE (ai rfl (ai rfl trivial)) ?_|refine ci hX (ai rfl (ai rfl (ai rfl trivial))) ?_|refine⟨i,y.tr,rfl,ab hy,?_⟩|refine⟨_,rfl,?_⟩|exact rfl)
     all_goals try exact⟨KO⟩
     all_goals try exact KX
     all_goals try(exfalso;(try simp_all[af]);(try omega);done)
     all_goals try(exfalso;simp at h;omega)
     all_goals try(exfalso;simp_all;done)
     all_goals
      conv=>whnf
      refine⟨⟨(i+1,[],[]),by dsimp only;omega,by dsimp only;omega,by dsimp only;omega,fun _=>g4.symm,fun h=>by dsimp only at h;omega⟩,?_,KD⟩
      repeat' ((conv=>whnf);first|refine Or.inl ?_|apply oi|(apply fi<;>intro h)|refine⟨_,rfl,?_⟩|exact rfl)
      all_goals try exact⟨KO⟩
      all_goals try exact⟨K4⟩
   | cons m r=>
    have hlen3:((m::r).reverse.map dy).length=r.length+1:=by simp
    have hrl:r.length≤5:=by
     rcases hu with h|h
     ·rw[←h]at g2
      simp only[List.length_cons]at g2
      omega
     ·injection h with h1 h2
      rw[h2]
      omega
    have hw:IntKind.i64.wrap ((((m::r).reverse.map dy).length:Int) - 1)=(r.length:Int):=by rw[hlen3,IntWalk.i64_in _ (by omega)];omega
    by_cases hm:m < i
    ·have hr:r=es:=by
      rcases hu with h|h
      ·subst h
       have:=g1.top
       omega
      ·injection h
     subst hr
     repeat' ((conv=>whnf);first|refine Or.inl ?_|apply oi|(apply fi<;>intro h)|refine⟨r.length,hw,(by rw[hlen3];omega),?_⟩|refine⟨(dy m),(jy m r),?_⟩|refine⟨_,rfl,?_⟩|exact rfl)
     all_goals try exact⟨KO⟩
     all_goals try exact KX
     conv=>whnf
     refine⟨⟨r,.inl rfl⟩,?_,by dsimp only;simp⟩
     repeat' ((conv=>whnf);first|refine Or.inl ?_|apply oi|(apply fi<;>intro h)|refine⟨_,rfl,?_⟩|exact rfl)
     all_goals try exact⟨KO⟩
     all_goals try exact⟨K7⟩
    ·have hr:es=m::r:=by
      rcases hu with h|h
      ·exact h.symm
      ·injection h with h1 h2
       omega
     subst hr
     have hbk:=0
     by_cases hlt:i < e
     ·rw[tw hlt hy]at g4
      by_cases h0:y.faa=0
      ·rw[if_pos h0]at g4
       subst g4
       repeat' ((conv=>whnf);first|refine Or.inl ?_|apply oi|(apply fi<;>intro h)|refine⟨r.length,hw,(by rw[hlen3];omega),?_⟩|refine⟨(dy m),(jy m r),?_⟩|refine ci hE (ai rfl (ai rfl trivial)) ?_|refine ci hX (ai rfl (ai rfl (ai rfl trivial))) ?_|refine⟨i,y.tr,rfl,ab hy,?_⟩|refine⟨_,rfl,?_⟩|exact rfl)
       all_goals try exact⟨KO⟩
       all_goals try exact KX
       all_goals try(exfalso;(try simp_all[af]);(try omega);done)
      ·rw[if_neg h0]at g4
       by_cases h35:y.faa=3∨y.faa=5
       ·have hd:dep y (m::r).length=(m::r).length+1:=by unfold dep;rw[if_pos h35]
        rw[hd]at g4
        obtain⟨m',hm',him,hst'⟩:=g1.push hy (opensK_iff.2 (by omega))
        rw[bb,ba hm']at hE
        by_cases hc:(m::r).length+1≤4∧bB l loc y.fad=true
        ·obtain⟨c1,c2⟩:=hc
         rw[if_pos ⟨c1,c2⟩]at g4
         rw[c2]at hX
         repeat' ((conv=>whnf);first|refine Or.inl ?_|apply oi|(apply fi<;>intro h)|refine⟨r.length,hw,(by rw[hlen3];omega),?_⟩|refine⟨(dy m),(jy m r),?_⟩|refine ci hE (ai rfl (ai rfl trivial)) ?_|refine ci hX (ai rfl (ai rfl (ai rfl trivial))) ?_|refine⟨i,y.tr,rfl,ab hy,?_⟩|refine⟨_,rfl,?_⟩|exact rfl)
         all_goals try exact⟨KO⟩
         all_goals try exact KX
         all_goals try(exfalso;(try simp_all[af]);(try omega);done)
         all_goals try(exfalso;simp at h;omega)
         all_goals try exact⟨⟨by simp <;> omega,by simp <;> omega⟩⟩
         all_goals try(exfalso;simp_all;done)
         all_goals
          conv=>whnf
          refine⟨⟨(i+1,m'::(m::r),m'::(m::r)),by dsimp only;omega,by dsimp only;omega,by simp only[List.length_cons]at *;omega,fun h=>by dsimp only at h;omega,fun _=>⟨hst',by simp only[List.length_cons]at *;omega,.inl rfl,g4⟩⟩,?_,KD⟩
          repeat' ((conv=>whnf);first|refine Or.inl ?_|apply oi|(apply fi<;>intro h)|refine⟨_,rfl,?_⟩|exact rfl)
          all_goals try exact⟨KO⟩
          all_goals try exact⟨K4⟩
          all_goals exact⟨by simp[dy,aa]⟩
        ·rw[if_neg hc]at g4
         subst g4
         cases hkn:bB l loc y.fad with
         | true=>
          rw[hkn]at hX hc
          repeat' ((conv=>whnf);first|refine Or.inl ?_|apply oi|(apply fi<;>intro h)|refine⟨r.length,hw,(by rw[hlen3];omega),?_⟩|refine⟨(dy m),(jy m r),?_⟩|refine ci hE (ai rfl (ai rfl trivial)) ?_|refine ci hX (ai rfl (ai rfl (ai rfl trivial))) ?_|refine⟨i,y.tr,rfl,ab hy,?_⟩|refine⟨_,rfl,?_⟩|exact rfl)
          all_goals try exact⟨KO⟩
          all_goals try exact KX
          all_goals try(exfalso;(try simp_all[af]);(try omega);done)
          all_goals try exact⟨⟨by simp <;> omega,by simp <;> omega⟩⟩
          all_goals try(exfalso;apply hc;refine⟨?_,rfl⟩;simp at h;omega)
          all_goals try(exfalso;simp_all;done)
         | false=>
          rw[hkn]at hX hc
          repeat' ((conv=>whnf);first|refine Or.inl ?_|apply oi|(apply fi<;>intro h)|refine⟨r.length,hw,(by rw[hlen3];omega),?_⟩|refine⟨(dy m),(jy m r),?_⟩|refine ci hE (ai rfl (ai rfl trivial)) ?_|refine ci hX (ai rfl (ai rfl (ai rfl trivial))) ?_|refine⟨i,y.tr,rfl,ab hy,?_⟩|refine⟨_,rfl,?_⟩|exact rfl)
          all_goals try exact⟨KO⟩
          all_goals try exact KX
          all_goals try(exfalso;(try simp_all[af]);(try omega);done)
          all_goals try exact⟨⟨by simp <;> omega,by simp <;> omega⟩⟩
          all_goals try(exfalso;simp_all;done)
       ·by_cases h7:y.faa=7
        ·rcases g1.pop hy h7 with⟨_,h'⟩|⟨es',hes,hst'⟩
         ·omega
         have hd:dep y (m::r).length=es'.length:=by unfold dep;rw[if_neg h35,if_pos h7,hes];simp
         have hl4:es'.length≤4:=by rw[hes]at g2;simp at g2;omega
         rw[hd]at g4
         cases hkn:bB l loc y.fad with
         | true=>
          rw[hkn]at hX g4
          rw[if_pos ⟨hl4,rfl⟩]at g4
          repeat' ((conv=>whnf);first|refine Or.inl ?_|apply oi|(apply fi<;>intro h)|refine⟨r.length,hw,(by rw[hlen3];omega),?_⟩|refine⟨(dy m),(jy m r),?_⟩|refine ci hE (ai rfl (ai rfl trivial)) ?_|refine ci hX (ai rfl (ai rfl (ai rfl trivial))) ?_|refine⟨i,y.tr,rfl,ab hy,?_⟩|refine⟨_,rfl,?_⟩|exact rfl)
          all_goals try exact⟨KO⟩
          all_goals try exact KX
          all_goals try(exfalso;(try simp_all[af]);(try omega);done)
          all_goals try(exfalso;simp at h;omega)
          all_goals try(exfalso;simp_all;done)
          all_goals
           conv=>whnf
           refine⟨⟨(i+1,(m::r),es'),by dsimp only;omega,by dsimp only;omega,by dsimp only;omega,fun h=>by dsimp only at h;omega,fun _=>⟨hst',hl4,.inr (by dsimp only;rw[hes];rfl),g4⟩⟩,?_,KD⟩
           repeat' ((conv=>whnf);first|refine Or.inl ?_|apply oi|(apply fi<;>intro h)|refine⟨_,rfl,?_⟩|exact rfl)
           all_goals try exact⟨KO⟩
           all_goals try exact⟨K4⟩
         | false=>
          rw[hkn]at hX g4
          rw[if_neg (by simp)]at g4
          subst g4
          repeat' ((conv=>whnf);first|refine Or.inl ?_|apply oi|(apply fi<;>intro h)|refine⟨r.length,hw,(by rw[hlen3];omega),?_⟩|refine⟨(dy m),(jy m r),?_⟩|refine ci hE (ai rfl (ai rfl trivial)) ?_|refine ci hX (ai rfl (ai rfl (ai rfl trivial))) ?_|refine⟨i,y.tr,rfl,ab hy,?_⟩|refine⟨_,rfl,?_⟩|exact rfl)
          all_goals try exact⟨KO⟩
          all_goals try exact KX
          all_goals try(exfalso;(try simp_all[af]);(try omega);done)
          all_goals try(exfalso;simp_all;done)
        ·have hd:dep y (m::r).length=(m::r).length:=by unfold dep;rw[if_neg h35,if_neg h7]
         have ho:cf y.faa=false:=by
          cases hh:cf y.faa with
          | false=>rfl
          | true=>rw[opensK_iff]at hh;omega
         have hst':=g1.other hy ho h7
         rw[hd]at g4
         cases hkn:bB l loc y.fad with
         | true=>
          rw[hkn]at hX g4
          rw[if_pos ⟨g2,rfl⟩]at g4
          repeat' ((conv=>whnf);first|refine Or.inl ?_|apply oi|(apply fi<;>intro h)|refine⟨r.length,hw,(by rw[hlen3];omega),?_⟩|refine⟨(dy m),(jy m r),?_⟩|refine ci hE (ai rfl (ai rfl trivial)) ?_|refine ci hX (ai rfl (ai rfl (ai rfl trivial))) ?_|refine⟨i,y.tr,rfl,ab hy,?_⟩|refine⟨_,rfl,?_⟩|exact rfl)
          all_goals try exact⟨KO⟩
          all_goals try exact KX
          all_goals try(exfalso;(try simp_all[af]);(try omega);done)
          all_goals try(exfalso;simp at h;omega)
          all_goals try(exfalso;simp_all;done)
          all_goals
           conv=>whnf
           refine⟨⟨(i+1,(m::r),(m::r)),by dsimp only;omega,by dsimp only;omega,by dsimp only;omega,fun h=>by dsimp only at h;omega,fun _=>⟨hst',g2,.inl rfl,g4⟩⟩,?_,KD⟩
           repeat' ((conv=>whnf);first|refine Or.inl ?_|apply oi|(apply fi<;>intro h)|refine⟨_,rfl,?_⟩|exact rfl)
           all_goals try exact⟨KO⟩
           all_goals try exact⟨K4⟩
         | false=>
          rw[hkn]at hX g4
          rw[if_neg (by simp)]at g4
          subst g4
          repeat' ((conv=>whnf);first|refine Or.inl ?_|apply oi|(apply fi<;>intro h)|refine⟨r.length,hw,(by rw[hlen3];omega),?_⟩|refine⟨(dy m),(jy m r),?_⟩|refine ci hE (ai rfl (ai rfl trivial)) ?_|refine ci hX (ai rfl (ai rfl (ai rfl trivial))) ?_|refine⟨i,y.tr,rfl,ab hy,?_⟩|refine⟨_,rfl,?_⟩|exact rfl)
          all_goals try exact⟨KO⟩
          all_goals try exact KX
          all_goals try(exfalso;(try simp_all[af]);(try omega);done)
          all_goals try(exfalso;simp_all;done)
     ·have hie':i=e:=by omega
      obtain⟨z,hz,hz7⟩:=bu he
      rw[←hie',hy]at hz
      injection hz with hz
      subst hz
      rw[vO (by omega)]at g4
      have hkn:bB l loc y.fad=true:=by rw[nu (hok y (List.mem_of_getElem? hy)) hz7];rfl
      rw[hkn]at hX
      repeat' ((conv=>whnf);first|refine Or.inl ?_|apply oi|(apply fi<;>intro h)|refine⟨r.length,hw,(by rw[hlen3];omega),?_⟩|refine⟨(dy m),(jy m r),?_⟩|refine ci hE (ai rfl (ai rfl trivial)) ?_|refine ci hX (ai rfl (ai rfl (ai rfl trivial))) ?_|refine⟨i,y.tr,rfl,ab hy,?_⟩|refine⟨_,rfl,?_⟩|exact rfl)
      all_goals try exact⟨KO⟩
      all_goals try exact KX
      all_goals try(exfalso;(try simp_all[af]);(try omega);done)
      all_goals try(exfalso;simp at h;omega)
      all_goals try(exfalso;simp_all;done)
      all_goals
       conv=>whnf
       refine⟨⟨(i+1,(m::r),(m::r)),by dsimp only;omega,by dsimp only;omega,by dsimp only;omega,fun _=>g4.symm,fun h=>by dsimp only at h;omega⟩,?_,KD⟩
       repeat' ((conv=>whnf);first|refine Or.inl ?_|apply oi|(apply fi<;>intro h)|refine⟨_,rfl,?_⟩|exact rfl)
       all_goals try exact⟨KO⟩
       all_goals try exact⟨K4⟩
  ·rw[q4 (by omega)]
   repeat' ((conv=>whnf);first|refine Or.inl ?_|apply oi|(apply fi<;>intro h)|refine⟨_,rfl,?_⟩|exact rfl)
   all_goals try exact⟨KO⟩
   all_goals try exact KX
 ·rw[decide_eq_false h8,Bool.false_and]
  repeat' ((conv=>whnf);first|refine Or.inl ?_|apply oi|(apply fi<;>intro h)|refine ci hL (ai rfl (ai rfl trivial)) ?_|refine⟨_,rfl,?_⟩|exact rfl)
  all_goals try exact⟨KO⟩
  all_goals try exact KX
end Go.Proofs.YtoglejgmjeojoaaGreat
