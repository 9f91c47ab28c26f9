import Derived.Test.YtoglejgmjeojoaaGreatGh
namespace Go.Proofs.YtoglejgmjeojoaaGreat
open Go.Sim
set_option maxRecDepth 100000
set_option maxHeartbeats 4000000
def fL (seen:List Ge)(nm:List UInt8):Bool:=seen.any fun y=>y.fab==nm
def uL (len a:Nat)(x:Ge):Bool:=x.fah==(a:Int) && (decide (1≤x.fap) && (decide (x.fap≤(len:Int) - a) && cA x.fab))
def wc (code:List UInt8)(seen:List Ge)(a:Nat)(x:Ge):Bool:=uL code.length a x && (!(fL seen x.fab) && (fS ((code.take (a+x.fap.toNat)).drop a)).isSome)
def fD (code:List UInt8):List Ge→Nat→List Ge→Bool
 | _,a,[]=>a==code.length
 | seen,a,x::l=>wc code seen a x && fD code (seen++[x]) (a+x.fap.toNat) l
def bo (i:FU):Bool:=decide (i.fac.length≤1000000) && fD i.fac [] 0 i.fae
theorem Dq {code:List UInt8}{l:List Ge}{k a:Nat}{x:Ge}(hx:l[k]?=some x):fD code (l.take k) a (l.drop k)=(wc code (l.take k) a x && fD code (l.take (k+1)) (a+x.fap.toNat) (l.drop (k+1))):=by
 rw[cV hx,fD]
 obtain⟨hk,rfl⟩:=List.getElem?_eq_some_iff.1 hx
 rw[List.take_succ_eq_append_getElem hk]
theorem vS {l:List Ge}{j:Nat}{y:Ge}{nm:List UInt8}(hy:l[j]?=some y):fL (l.take (j+1)) nm=(fL (l.take j) nm || y.fab==nm):=by
 obtain⟨hk,rfl⟩:=List.getElem?_eq_some_iff.1 hy
 rw[List.take_succ_eq_append_getElem hk,fL,List.any_append]
 simp[fL]
theorem yu {l:List Ge}{j k:Nat}{y:Ge}(hy:l[j]?=some y)(h:j < k):fL (l.take k) y.fab=true:=by
 rw[fL,List.any_eq_true]
 refine⟨y,?_,by simp⟩
 rw[List.mem_iff_getElem?]
 exact⟨j,by rw[List.getElem?_take,if_pos h];exact hy⟩
theorem imgPre_iff {len a:Nat}{x:Ge}:uL len a x=true↔x.fah=(a:Int)∧1≤x.fap∧x.fap≤(len:Int) - a∧cA x.fab=true:=by
 unfold uL
 rw[Bool.and_eq_true,Bool.and_eq_true,Bool.and_eq_true,beq_iff_eq,decide_eq_true_eq,decide_eq_true_eq]
abbrev EN (code:List UInt8)(l:List Ge):={q:Nat×Nat // q.1≤l.length∧q.2≤code.length∧fD code (l.take q.1) q.2 (l.drop q.1)=fD code [] 0 l}
theorem ui (i:FU)(hs:aw 1048576 i.tr):Sim.Spec Tryz.prog 165 [.agg i.tr] (rB (bo i)):=by
 refine aj hΓ ao Tryz.func165 rfl (by decide) rfl ?_
 obtain⟨code,l⟩:=i
 simp only[FU.tr,aw]at hs
 have hcl:code.length≤1048576:=by have:=hs.1;rw[ay]at this;omega
 have hl:=aI hs.2.1
 have hlen:(l.map Ge.tr).length=l.length:=by simp
 unfold bo
 dsimp only
 by_cases hbig:code.length≤1000000
 ·rw[show decide (code.length≤1000000)=true from decide_eq_true hbig,Bool.true_and]
  repeat' ((conv=>whnf);first|refine Or.inl ?_|apply oi|(apply fi<;>intro h)|refine⟨_,rfl,?_⟩|exact rfl)
  all_goals try exact⟨KO⟩
  all_goals try(exfalso;have h':=of_decide_eq_true h;dsimp only at h';omega;done)
  conv=>whnf
  refine⟨EN code l,fun q=>⟨[(1,.r (.c (.ptr (1,0,0) 0))),(3,tI .i64 (q.1.2:Int)),(15,.r (.c (.t (.lst 3 (l.map Ge.tr))))),(16,tI .i64 ((l.map Ge.tr).length:Int)),(17,tI .i64 (q.1.1:Int))],[((1,0,0),some (.box [.t (.str code),.t (.lst 3 (l.map Ge.tr))]))],[1]⟩,fun q=>l.length - q.1.1,⟨(0,0),by simp,by simp,by simp⟩,?_,?_⟩
  ·skip
   repeat' ((conv=>whnf);first|refine Or.inl ?_|apply oi|(apply fi<;>intro h)|refine⟨_,rfl,?_⟩|exact rfl)
   all_goals try exact⟨KO⟩
  intro⟨⟨k,a⟩,hk,ha,hr⟩
  dsimp only at hk ha hr ⊢
  by_cases hlt:k < l.length
  ·obtain⟨x,hx⟩:=ae hlt
   have hxl:x.fab.length≤1099511627775:=by
    have:=aA hs.2.1 (List.mem_of_getElem? hx)
    simp only[Ge.tr,aw,ay]at this
    omega
   have hN:=gk x.fab hxl
   rw[Dq hx,wc]at hr
   have hw1:IntKind.i64.wrap ((code.length:Int) - a)=(code.length:Int) - a:=IntWalk.i64_in _ (by omega)
   cases hpre:uL code.length a x with
   | false=>
    rw[hpre,Bool.false_and,Bool.false_and]at hr
    repeat' ((conv=>whnf);first|refine Or.inl ?_|apply oi|(apply fi<;>intro h)|refine⟨k,x.tr,rfl,ab hx,?_⟩|refine ci hN (ai rfl trivial) ?_|refine⟨_,rfl,?_⟩|exact rfl)
    all_goals try exact⟨KO⟩
    all_goals try(exfalso;have h':=of_decide_eq_false h;rw[hlen]at h';omega;done)
    all_goals try exact⟨by rw[←hr]⟩
    all_goals(exfalso;rw[←Bool.not_eq_true,imgPre_iff]at hpre;apply hpre;rw[hw1]at *;(simp_all) <;> omega)
   | true=>
    obtain⟨p1,p2,p3,p4⟩:=imgPre_iff.1 hpre
    rw[p4]at hN
    rw[hpre,Bool.true_and]at hr
    repeat' ((conv=>whnf);first|refine Or.inl ?_|apply oi|(apply fi<;>intro h)|refine⟨k,x.tr,rfl,ab hx,?_⟩|refine ci hN (ai rfl trivial) ?_|refine⟨_,rfl,?_⟩|exact rfl)
    all_goals try exact⟨KO⟩
    all_goals try(exfalso;first|(have h':=of_decide_eq_false h;rw[hlen]at h';omega)|(simp at h;done)|(rw[p1]at h;simp at h;done)|(have h':=of_decide_eq_true h;(try rw[hw1]at h');omega))
    conv=>whnf
    refine⟨0,k,rfl,rfl,by omega,by rw[hlen];omega,?_⟩
    repeat' ((conv=>whnf);first|refine Or.inl ?_|apply oi|(apply fi<;>intro h)|refine⟨_,rfl,?_⟩|exact rfl)
    all_goals try exact⟨KO⟩
    conv=>whnf
    have hrl:(((l.map Ge.tr).take k).drop 0).length=k:=by simp;omega
    refine⟨{j:Nat // j≤k∧fL (l.take j) x.fab=false},fun j=>⟨[(1,.r (.c (.ptr (1,0,0) 0))),(3,tI .i64 (a:Int)),(5,.r (.c (.ptr (5,0,0) 0))),(15,.r (.c (.t (.lst 3 (l.map Ge.tr))))),(16,tI .i64 ((l.map Ge.tr).length:Int)),(17,tI .i64 (k:Int)),(50,.r (.c (.t (.lst 3 (((l.map Ge.tr).take k).drop 0))))),(51,tI .i64 ((((l.map Ge.tr).take k).drop 0).length:Int)),(52,tI .i64 (j.1:Int))],[((1,0,0),some (.box [.t (.str code),.t (.lst 3 (l.map Ge.tr))])),((5,0,0),some (.box [.t (.str x.fab),.t (.int .i64 x.fah),.t (.int .i64 x.fap)]))],[5,1]⟩,fun j=>k - j.1,⟨0,by omega,rfl⟩,?_,?_⟩
    ·skip
     repeat' ((conv=>whnf);first|refine Or.inl ?_|apply oi|(apply fi<;>intro h)|refine⟨_,rfl,?_⟩|exact rfl)
     all_goals try exact⟨KO⟩
    intro⟨j,hj,hsn⟩
    dsimp only
    by_cases hjk:j < k
    ·obtain⟨y,hy⟩:=ae (l:=l) (k:=j) (by omega)
     have hyr:(((l.map Ge.tr).take k).drop 0)[j]?=some y.tr:=by rw[List.drop_zero,List.getElem?_take,if_pos hjk];exact ab hy
     have hst:=vS (nm:=x.fab) hy
     rw[hsn,Bool.false_or]at hst
     cases hyx:(y.fab==x.fab)with
     | true=>
      have hs2:=yu hy hjk
      rw[beq_iff_eq.1 hyx]at hs2
      rw[hs2]at hr
      repeat' ((conv=>whnf);first|refine Or.inl ?_|apply oi|(apply fi<;>intro h)|refine⟨j,y.tr,rfl,hyr,?_⟩|refine⟨_,rfl,?_⟩|exact rfl)
      all_goals try exact⟨KO⟩
      all_goals first
       |(exfalso;have h':=of_decide_eq_false h;rw[hrl]at h';omega)
       | exact⟨by rw[←hr];rfl⟩
       |(exfalso;rw[hyx]at h;simp at h;done)
     | false=>
      rw[hyx]at hst
      repeat' ((conv=>whnf);first|refine Or.inl ?_|apply oi|(apply fi<;>intro h)|refine⟨j,y.tr,rfl,hyr,?_⟩|refine⟨_,rfl,?_⟩|exact rfl)
      all_goals try exact⟨KO⟩
      all_goals try(exfalso;first|(have h':=of_decide_eq_false h;rw[hrl]at h';omega)|(rw[hyx]at h;simp at h;done))
      conv=>whnf
      refine⟨⟨j+1,by omega,hst⟩,?_,KD⟩
      repeat' ((conv=>whnf);first|refine Or.inl ?_|apply oi|(apply fi<;>intro h)|refine⟨_,rfl,?_⟩|exact rfl)
      all_goals try exact⟨KO⟩
      all_goals exact⟨by dsimp only;rw[IntWalk.i64_in _ (by omega)];rfl⟩
    ·have hjk2:j=k:=by omega
     subst hjk2
     obtain⟨z,hz⟩:=Int.eq_ofNat_of_zero_le (show 0≤x.fap by omega)
     have hw2:IntKind.i64.wrap ((a:Int)+x.fap)=((a+z:Nat):Int):=by rw[IntWalk.i64_in _ (by omega),hz];rfl
     rw[hsn,hz,Int.toNat_natCast]at hr
     have hD:=nH ((code.take (a+z)).drop a) (by simp;omega)
     repeat' ((conv=>whnf);first|refine Or.inl ?_|apply oi|(apply fi<;>intro h)|refine⟨_,rfl,?_⟩|exact rfl)
     all_goals try exact⟨KO⟩
     all_goals try(exfalso;have h':=of_decide_eq_true h;rw[hrl]at h';omega)
     conv=>whnf
     refine⟨a,a+z,p1,hw2,by omega,by omega,?_⟩
     cases hds:(fS ((code.take (a+z)).drop a)).isSome with
     | false=>
      rw[hds]at hr hD
      repeat' ((conv=>whnf);first|refine Or.inl ?_|apply oi|(apply fi<;>intro h)|refine ci hD (ai rfl trivial) ?_|refine⟨_,rfl,?_⟩|exact rfl)
      all_goals try exact⟨KO⟩
      all_goals first
       | exact⟨by rw[←hr];rfl⟩
       |(exfalso;simp at h;done)
     | true=>
      rw[hds]at hr hD
      repeat' ((conv=>whnf);first|refine Or.inl ?_|apply oi|(apply fi<;>intro h)|refine ci hD (ai rfl trivial) ?_|refine⟨_,rfl,?_⟩|exact rfl)
      all_goals try exact⟨KO⟩
      all_goals try(exfalso;simp at h;done)
      conv=>whnf
      refine⟨⟨(j+1,a+z),by dsimp only;omega,by dsimp only;omega,by simpa using hr⟩,?_,KD⟩
      repeat' ((conv=>whnf);first|refine Or.inl ?_|apply oi|(apply fi<;>intro h)|refine⟨_,rfl,?_⟩|exact rfl)
      all_goals try exact⟨KO⟩
      all_goals first
       | exact⟨by dsimp only;rw[hw2]⟩
       | exact⟨by dsimp only;rw[IntWalk.i64_in _ (by omega)];rfl⟩
  ·have hge:l.length≤k:=by omega
   rw[List.drop_eq_nil_of_le hge,fD]at hr
   repeat' ((conv=>whnf);first|refine Or.inl ?_|apply oi|(apply fi<;>intro h)|refine⟨_,rfl,?_⟩|exact rfl)
   all_goals try exact⟨KO⟩
   all_goals try exact KX
   exact⟨by rw[←hr];congr 1;rw[Bool.eq_iff_iff,beq_iff_eq,beq_iff_eq];omega⟩
 ·rw[show decide (code.length≤1000000)=false from decide_eq_false hbig,Bool.false_and]
  repeat' ((conv=>whnf);first|refine Or.inl ?_|apply oi|(apply fi<;>intro h)|refine⟨_,rfl,?_⟩|exact rfl)
  all_goals try exact⟨KO⟩
  all_goals(exfalso;have h':=of_decide_eq_false h;dsimp only at h';omega)
theorem uJ (i:FU)(hs:aw 1048576 i.tr):Sim.Spec Tryz.prog 134 [.agg i.tr] (rB (bo i)):=by
 refine aj hΓ ao Tryz.func134 rfl (by decide) rfl ?_
 obtain⟨code,l⟩:=i
 simp only[FU.tr,aw]at hs
 have hcl:code.length≤1048576:=by have:=hs.1;rw[ay]at this;omega
 have hl:=aI hs.2.1
 have hlen:(l.map Ge.tr).length=l.length:=by simp
 unfold bo
 dsimp only
 repeat' ((conv=>whnf);first|refine Or.inl ?_|apply oi|(apply fi<;>intro h)|refine⟨_,rfl,?_⟩|exact rfl)
 all_goals try exact⟨KO⟩
 conv=>whnf
 refine⟨EN code l,fun q=>⟨[(1,.r (.c (.ptr (1,0,0) 0))),(3,tI .i64 (q.1.2:Int)),(4,tI .i64 (q.1.1:Int))],[((1,0,0),some (.box [.t (.str code),.t (.lst 3 (l.map Ge.tr))]))],[1]⟩,fun q=>l.length - q.1.1,⟨(0,0),by simp,by simp,by simp⟩,?_,?_⟩
 ·skip
  repeat' ((conv=>whnf);first|refine Or.inl ?_|apply oi|(apply fi<;>intro h)|refine⟨_,rfl,?_⟩|exact rfl)
  all_goals try exact⟨KO⟩
 intro⟨⟨k,a⟩,hk,ha,hr⟩
 dsimp only at hk ha hr ⊢
 by_cases hlt:k < l.length
 ·obtain⟨x,hx⟩:=ae hlt
  have hxl:x.fab.length≤1099511627775:=by
   have:=aA hs.2.1 (List.mem_of_getElem? hx)
   simp only[Ge.tr,aw,ay]at this
   omega
  have hN:=eN x.fab hxl
  rw[Dq hx,wc]at hr
  have hw1:IntKind.i64.wrap ((code.length:Int) - a)=(code.length:Int) - a:=IntWalk.i64_in _ (by omega)
  cases hpre:uL code.length a x with
  | false=>
   rw[hpre,Bool.false_and,Bool.false_and]at hr
   repeat' ((conv=>whnf);first|refine Or.inl ?_|apply oi|(apply fi<;>intro h)|refine⟨k,x.tr,rfl,ab hx,?_⟩|refine ci hN (ai rfl trivial) ?_|refine⟨_,rfl,?_⟩|exact rfl)
   all_goals try exact⟨KO⟩
   all_goals try(exfalso;have h':=of_decide_eq_false h;rw[hlen]at h';omega;done)
   all_goals try exact KX
   all_goals try exact⟨by rw[←hr,Bool.and_false]⟩
   all_goals(exfalso;rw[←Bool.not_eq_true,imgPre_iff]at hpre;apply hpre;rw[hw1]at *;(simp_all) <;> omega)
  | true=>
   obtain⟨p1,p2,p3,p4⟩:=imgPre_iff.1 hpre
   rw[p4]at hN
   rw[hpre,Bool.true_and]at hr
   repeat' ((conv=>whnf);first|refine Or.inl ?_|apply oi|(apply fi<;>intro h)|refine⟨k,x.tr,rfl,ab hx,?_⟩|refine ci hN (ai rfl trivial) ?_|refine⟨_,rfl,?_⟩|exact rfl)
   all_goals try exact⟨KO⟩
   all_goals try exact KX
   all_goals try(exfalso;first|(have h':=of_decide_eq_false h;rw[hlen]at h';omega)|(simp at h;done)|(rw[p1]at h;simp at h;done)|(have h':=of_decide_eq_true h;(try rw[hw1]at h');omega))
   conv=>whnf
   have hrl:(((l.map Ge.tr).take k).drop 0).length=k:=by simp;omega
   refine⟨{j:Nat // j≤k∧fL (l.take j) x.fab=false},fun j=>⟨[(1,.r (.c (.ptr (1,0,0) 0))),(3,tI .i64 (a:Int)),(5,.r (.c (.ptr (5,0,0) 0))),(4,tI .i64 (k:Int)),(6,tI .i64 (j.1:Int))],[((1,0,0),some (.box [.t (.str code),.t (.lst 3 (l.map Ge.tr))])),((5,0,0),some (.box [.t (.str x.fab),.t (.int .i64 x.fah),.t (.int .i64 x.fap)]))],[5,1]⟩,fun j=>k - j.1,⟨0,by omega,rfl⟩,?_,?_⟩
   ·skip
    repeat' ((conv=>whnf);first|refine Or.inl ?_|apply oi|(apply fi<;>intro h)|refine⟨_,rfl,?_⟩|exact rfl)
    all_goals try exact⟨KO⟩
   intro⟨j,hj,hsn⟩
   dsimp only
   by_cases hjk:j < k
   ·obtain⟨y,hy⟩:=ae (l:=l) (k:=j) (by omega)
    have hyr:(((l.map Ge.tr).take k).drop 0)[j]?=some y.tr:=by rw[List.drop_zero,List.getElem?_take,if_pos hjk];exact ab hy
    have hst:=vS (nm:=x.fab) hy
    rw[hsn,Bool.false_or]at hst
    cases hyx:(y.fab==x.fab)with
    | true=>
     have hs2:=yu hy hjk
     rw[beq_iff_eq.1 hyx]at hs2
     rw[hs2]at hr
     repeat' ((conv=>whnf);first|refine Or.inl ?_|apply oi|(apply fi<;>intro h)|refine⟨j,y.tr,rfl,ab hy,?_⟩|refine⟨_,rfl,?_⟩|exact rfl)
     all_goals try exact⟨KO⟩
     all_goals first
      |(exfalso;have h':=of_decide_eq_false h;omega)
      | exact⟨by rw[←hr];simp⟩
      |(exfalso;rw[hyx]at h;simp at h;done)
    | false=>
     rw[hyx]at hst
     repeat' ((conv=>whnf);first|refine Or.inl ?_|apply oi|(apply fi<;>intro h)|refine⟨j,y.tr,rfl,ab hy,?_⟩|refine⟨_,rfl,?_⟩|exact rfl)
     all_goals try exact⟨KO⟩
     all_goals try(exfalso;first|(have h':=of_decide_eq_false h;omega)|(rw[hyx]at h;simp at h;done))
     conv=>whnf
     refine⟨⟨j+1,by omega,hst⟩,?_,KD⟩
     repeat' ((conv=>whnf);first|refine Or.inl ?_|apply oi|(apply fi<;>intro h)|refine⟨_,rfl,?_⟩|exact rfl)
     all_goals try exact⟨KO⟩
     all_goals exact⟨by dsimp only;rw[IntWalk.i64_in _ (by omega)];rfl⟩
   ·have hjk2:j=k:=by omega
    subst hjk2
    obtain⟨z,hz⟩:=Int.eq_ofNat_of_zero_le (show 0≤x.fap by omega)
    have hw2:IntKind.i64.wrap ((a:Int)+x.fap)=((a+z:Nat):Int):=by rw[IntWalk.i64_in _ (by omega),hz];rfl
    rw[hsn,hz,Int.toNat_natCast]at hr
    have hD:=nI ((code.take (a+z)).drop a) (by simp;omega)
    repeat' ((conv=>whnf);first|refine Or.inl ?_|apply oi|(apply fi<;>intro h)|refine⟨_,rfl,?_⟩|exact rfl)
    all_goals try exact⟨KO⟩
    all_goals try(exfalso;have h':=of_decide_eq_true h;omega)
    conv=>whnf
    refine⟨a,a+z,rfl,hw2,by omega,by omega,?_⟩
    cases hds:(fS ((code.take (a+z)).drop a)).isSome with
    | false=>
     rw[hds]at hr hD
     repeat' ((conv=>whnf);first|refine Or.inl ?_|apply oi|(apply fi<;>intro h)|refine ci hD (ai rfl trivial) ?_|refine⟨_,rfl,?_⟩|exact rfl)
     all_goals try exact⟨KO⟩
     all_goals first
      | exact⟨by rw[←hr];simp⟩
      |(exfalso;simp at h;done)
    | true=>
     rw[hds]at hr hD
     repeat' ((conv=>whnf);first|refine Or.inl ?_|apply oi|(apply fi<;>intro h)|refine ci hD (ai rfl trivial) ?_|refine⟨_,rfl,?_⟩|exact rfl)
     all_goals try exact⟨KO⟩
     all_goals try(exfalso;simp at h;done)
     conv=>whnf
     refine⟨⟨(j+1,a+z),by dsimp only;omega,by dsimp only;omega,by simpa using hr⟩,?_,KD⟩
     repeat' ((conv=>whnf);first|refine Or.inl ?_|apply oi|(apply fi<;>intro h)|refine⟨_,rfl,?_⟩|exact rfl)
     all_goals try exact⟨KO⟩
     all_goals first
      | exact⟨by dsimp only;rw[hw2]⟩
      | exact⟨by dsimp only;rw[IntWalk.i64_in _ (by omega)];rfl⟩
 ·have hge:l.length≤k:=by omega
  rw[List.drop_eq_nil_of_le hge,fD]at hr
  repeat' ((conv=>whnf);first|refine Or.inl ?_|apply oi|(apply fi<;>intro h)|refine⟨_,rfl,?_⟩|exact rfl)
  all_goals try exact⟨KO⟩
  all_goals try exact KX
  ·have h9:a=code.length:=by have:=eq_of_beq h;omega
   refine⟨congrArg Tr.bool ?_⟩
   rw[←hr,h9,beq_self_eq_true,Bool.and_true]
   exact decide_eq_decide.2 (by omega)
  ·have h9:(a==code.length)=false:=by rw[beq_eq_false_iff_ne]at h ⊢;omega
   refine⟨congrArg Tr.bool ?_⟩
   rw[←hr,h9,Bool.and_false]
theorem dB {code:List UInt8}:∀{l:List Ge} {seen:List Ge} {a:Nat},fD code seen a l=true→a≤code.length→∀x∈l,(a:Int)≤x.fah∧1≤x.fap∧x.fah+x.fap≤code.length
 | [],_,_,_,_,x,hx=>by cases hx
 | y::l,seen,a,h,ha,x,hx=>by
  rw[fD,Bool.and_eq_true,wc,Bool.and_eq_true,imgPre_iff]at h
  obtain⟨⟨⟨p1,p2,p3,_⟩,_⟩,h2⟩:=h
  rcases List.mem_cons.1 hx with rfl|hx
  ·omega
  ·have:=dB h2 (by omega) x hx
   omega
theorem uj {code:List UInt8}:∀{l:List Ge} {seen:List Ge} {a j k:Nat} {x:Ge},fD code seen a l=true→a≤code.length→code.length≤1000000→l[k]?=some x→dY x.fah l j=((j+k:Nat):Int)
 | [],_,_,_,_,_,_,_,_,hx=>by simp at hx
 | y::l,seen,a,j,k,x,h,ha,hc,hx=>by
  have hall:=dB h ha
  rw[fD,Bool.and_eq_true,wc,Bool.and_eq_true,imgPre_iff]at h
  obtain⟨⟨⟨p1,p2,p3,_⟩,_⟩,h2⟩:=h
  rw[dY]
  match k,hx with
  | 0,hx=>
   rw[List.getElem?_cons_zero]at hx
   injection hx with hx
   subst hx
   have hh:fw y.fah y=true:=by
    unfold fw
    rw[Bool.and_eq_true,Bool.and_eq_true,Bool.and_eq_true,within_iff,within_iff,decide_eq_true_eq,decide_eq_true_eq]
    omega
   rw[if_pos hh]
   rfl
  | k+1,hx=>
   rw[List.getElem?_cons_succ]at hx
   have h3:=dB h2 (by omega) x (List.mem_of_getElem? hx)
   have hh:¬fw x.fah y=true:=by
    unfold fw
    rw[Bool.and_eq_true,Bool.and_eq_true,Bool.and_eq_true,within_iff,within_iff,decide_eq_true_eq,decide_eq_true_eq]
    omega
   rw[if_neg hh,uj h2 (by omega) hc hx]
   congr 1
   omega
def bA (i:FU)(b e:Int):Bool:=i.fae.any fun x=>b+x.fah==e
def mU (i0 i1:FU)(b0 b1 e:Int):Int×Int:=
 if b0≤e∧e < b0+i0.fac.length then(0,e - b0)else if b1≤e∧e < b1+i1.fac.length then(1,e - b1)else(-1,-1)
def mJ (i:FU)(off:Int):Bool:=decide (0≤dX i.fae off) && (match i.fae[(dX i.fae off).toNat]? with|some x=>x.fah==off|none=>false)
theorem imageOk_iff {i:FU}:bo i=true↔i.fac.length≤1000000∧fD i.fac [] 0 i.fae=true:=by
 rw[bo,Bool.and_eq_true,decide_eq_true_eq]
theorem rf {i:FU}(h:bo i=true){off:Int}:mJ i off=true↔∃x∈i.fae,x.fah=off:=by
 obtain⟨hc,ho⟩:=imageOk_iff.1 h
 unfold mJ
 constructor
 ·intro h1
  rw[Bool.and_eq_true]at h1
  split at h1
  ·rename_i x hx
   exact⟨x,List.mem_of_getElem? hx,by simpa using h1.2⟩
  ·cases h1.2
 ·rintro⟨x,hx,rfl⟩
  obtain⟨k,hk⟩:=List.mem_iff_getElem?.1 hx
  have:=uj (j:=0) ho (by omega) hc hk
  rw[Nat.zero_add]at this
  rw[dX,this,Int.toNat_natCast,hk]
  simp
def zP (i0 i1:FU)(b0 b1 e:Int):Bool:=
 if(mU i0 i1 b0 b1 e).1=0 then mJ i0 (mU i0 i1 b0 b1 e).2 else if(mU i0 i1 b0 b1 e).1=1 then mJ i1 (mU i0 i1 b0 b1 e).2 else false
def fI (i0 i1:FU)(b0 b1:Int):Bool:=decide (0 < i0.fac.length) && (decide (0 < i1.fac.length) && (decide (b0 < b1+i1.fac.length) && decide (b1 < b0+i0.fac.length)))
theorem zZ {i0 i1:FU}{b0 b1 e:Int}(h0:bo i0=true)(h1:bo i1=true)(ho:fI i0 i1 b0 b1=false):zP i0 i1 b0 b1 e=(bA i0 b0 e || bA i1 b1 e):=by
 have hno:¬(0 < i0.fac.length∧0 < i1.fac.length∧b0 < b1+i1.fac.length∧b1 < b0+i0.fac.length):=by
  intro⟨a,b,c,d⟩
  rw[fI,decide_eq_true a,decide_eq_true b,decide_eq_true c,decide_eq_true d]at ho
  cases ho
 have m0:=dB (imageOk_iff.1 h0).2 (by omega)
 have m1:=dB (imageOk_iff.1 h1).2 (by omega)
 have e0:∀{i:FU} {b:Int},bA i b e=true↔∃x∈i.fae,b+x.fah=e:=by
  intro i b
  rw[bA,List.any_eq_true]
  simp only[beq_iff_eq]
 rw[Bool.eq_iff_iff,Bool.or_eq_true,e0,e0,zP,mU]
 by_cases c0:b0≤e∧e < b0+i0.fac.length
 ·rw[if_pos c0,if_pos rfl,rf h0]
  constructor
  ·rintro⟨x,hx,h⟩
   exact .inl ⟨x,hx,by dsimp only at h;omega⟩
  ·rintro(⟨x,hx,h⟩|⟨x,hx,h⟩)
   ·exact⟨x,hx,by dsimp only;omega⟩
   ·have:=m1 x hx
    exfalso;apply hno;omega
 ·rw[if_neg c0]
  by_cases c1:b1≤e∧e < b1+i1.fac.length
  ·rw[if_pos c1,if_neg (by simp),if_pos rfl,rf h1]
   constructor
   ·rintro⟨x,hx,h⟩
    exact .inr ⟨x,hx,by dsimp only at h;omega⟩
   ·rintro(⟨x,hx,h⟩|⟨x,hx,h⟩)
    ·have:=m0 x hx
     exfalso;apply c0;omega
    ·exact⟨x,hx,by dsimp only;omega⟩
  ·rw[if_neg c1,if_neg (by decide),if_neg (by decide)]
   constructor
   ·intro h;cases h
   ·rintro(⟨x,hx,h⟩|⟨x,hx,h⟩)
    ·have:=m0 x hx
     exfalso;apply c0;omega
    ·have:=m1 x hx
     exfalso;apply c1;omega
def mf (i0 i1:FU)(b0 b1:Int)(es:List Int):Bool:=
 af es.length 1 6 && (bo i0 && (af b0 1 1000000 && (bo i1 && (af b1 1 1000000 && (!(fI i0 i1 b0 b1) && es.all fun e=>bA i0 b0 e || bA i1 b1 e)))))
def gg (s:Gd):Bool:=match s.fam,s.fao with
 | [i0,i1],[b0,b1]=>mf i0 i1 b0 b1 s.faq
 | _,_=>false
abbrev ta (i0 i1:FU)(b0 b1:Int)(es:List Int):List AC:=[.t (.lst 2 [i0.tr,i1.tr]),.t (.lst 1 [aa b0,aa b1]),.t (.lst 1 (es.map aa))]
theorem tX (i0 i1:FU)(b0 b1 e:Int)(es:List Int)(h0:∀x∈i0.fae,0≤x.fah∧x.fah≤1000000)(h1:∀x∈i1.fae,0≤x.fah∧x.fah≤1000000)(hb0:0≤b0∧b0≤1000000)(hb1:0≤b1∧b1≤1000000)(hl0:i0.fae.length≤1048576)(hl1:i1.fae.length≤1048576):Sim.Spec Tryz.prog 166 [.agg (Gd.mk [i0,i1] [b0,b1] es).tr,tvI e] (rB (bA i0 b0 e || bA i1 b1 e)):=by
 refine aj hΓ ao Tryz.func166 rfl (by decide) rfl ?_
 repeat' ((conv=>whnf);first|refine Or.inl ?_|apply oi|(apply fi<;>intro h)|refine⟨_,rfl,?_⟩|exact rfl)
 all_goals try exact⟨KO⟩
 conv=>whnf
 refine⟨{k:Nat // k≤2∧(1≤k→bA i0 b0 e=false)∧(2≤k→bA i1 b1 e=false)},fun k=>⟨[(1,tI .i64 e),(2,.r (.c (.ptr (2,0,0) 0))),(10,.r (.c (.t (.lst 2 [i0.tr,i1.tr])))),(11,tI .i64 2),(12,tI .i64 (k.1:Int))],[((2,0,0),some (.box (ta i0 i1 b0 b1 es)))],[2]⟩,fun k=>2 - k.1,⟨0,by omega,by omega,by omega⟩,?_,?_⟩
 ·skip
  repeat' ((conv=>whnf);first|refine Or.inl ?_|apply oi|(apply fi<;>intro h)|refine⟨_,rfl,?_⟩|exact rfl)
  all_goals try exact⟨KO⟩
 intro⟨k,hk,hk1,hk2⟩
 dsimp only
 by_cases hlt:k < 2
 ·obtain⟨i,b,hi,hb,hst,hbb,hll,hyes,hno⟩:∃(i:FU) (b:Int),([i0.tr,i1.tr]:List (List Tr))[k]?=some i.tr∧([aa b0,aa b1]:List (List Tr))[k]?=some (aa b)∧(∀x∈i.fae,0≤x.fah∧x.fah≤1000000)∧(0≤b∧b≤1000000)∧i.fae.length≤1048576∧
    (bA i b e=true→(bA i0 b0 e || bA i1 b1 e)=true)∧(bA i b e=false→(1≤k+1→bA i0 b0 e=false)∧(2≤k+1→bA i1 b1 e=false)):=by
   have:k=0∨k=1:=by omega
   rcases this with rfl|rfl
   ·exact⟨i0,b0,rfl,rfl,h0,hb0,hl0,fun h=>by rw[h];rfl,fun h=>⟨fun _=>h,fun h2=>by omega⟩⟩
   ·exact⟨i1,b1,rfl,rfl,h1,hb1,hl1,fun h=>by rw[h];simp,fun h=>⟨fun _=>hk1 (by omega),fun _=>h⟩⟩
  have hlen:(i.fae.map Ge.tr).length=i.fae.length:=by simp
  repeat' ((conv=>whnf);first|refine Or.inl ?_|apply oi|(apply fi<;>intro h)|refine⟨k,i.tr,rfl,hi,?_⟩|refine⟨_,rfl,?_⟩|exact rfl)
  all_goals try exact⟨KO⟩
  all_goals try(exfalso;have h':=of_decide_eq_false h;omega)
  conv=>whnf
  refine⟨{j:Nat // j≤i.fae.length∧((i.fae.take j).any fun x=>b+x.fah==e)=false},fun j=>⟨[(1,tI .i64 e),(2,.r (.c (.ptr (2,0,0) 0))),(5,tI .i64 (k:Int)),(10,.r (.c (.t (.lst 2 [i0.tr,i1.tr])))),(11,tI .i64 2),(12,tI .i64 (k:Int)),(18,.r (.c (.t (.lst 3 (i.fae.map Ge.tr))))),(19,tI .i64 ((i.fae.map Ge.tr).length:Int)),(20,tI .i64 (j.1:Int))],[((2,0,0),some (.box (ta i0 i1 b0 b1 es)))],[2]⟩,fun j=>i.fae.length - j.1,⟨0,by omega,rfl⟩,?_,?_⟩
  ·skip
   repeat' ((conv=>whnf);first|refine Or.inl ?_|apply oi|(apply fi<;>intro h)|refine⟨_,rfl,?_⟩|exact rfl)
   all_goals try exact⟨KO⟩
  intro⟨j,hj,hr⟩
  dsimp only
  by_cases hjl:j < i.fae.length
  ·obtain⟨x,hx⟩:=ae hjl
   have hxm:=List.mem_of_getElem? hx
   have hxs:=hst x hxm
   have hw1:IntKind.i64.wrap (b+x.fah)=b+x.fah:=IntWalk.i64_in _ (by omega)
   have hnext:((i.fae.take (j+1)).any fun x=>b+x.fah==e)=(b+x.fah==e):=by
    obtain⟨hk',rfl⟩:=List.getElem?_eq_some_iff.1 hx
    rw[List.take_succ_eq_append_getElem hk',List.any_append,hr,Bool.false_or]
    simp
   cases hxe:(b+x.fah==e)with
   | true=>
    have hall:=hyes (by rw[bA,List.any_eq_true];exact⟨x,hxm,hxe⟩)
    repeat' ((conv=>whnf);first|refine Or.inl ?_|apply oi|(apply fi<;>intro h)|refine⟨j,x.tr,rfl,ab hx,?_⟩|refine⟨k,aa b,rfl,hb,?_⟩|refine⟨_,rfl,?_⟩|exact rfl)
    all_goals try exact⟨KO⟩
    all_goals first
     |(exfalso;have h':=of_decide_eq_false h;rw[hlen]at h';omega)
     | exact⟨by rw[hall]⟩
     |(exfalso;rw[hw1,hxe]at h;simp at h;done)
   | false=>
    rw[hxe]at hnext
    repeat' ((conv=>whnf);first|refine Or.inl ?_|apply oi|(apply fi<;>intro h)|refine⟨j,x.tr,rfl,ab hx,?_⟩|refine⟨k,aa b,rfl,hb,?_⟩|refine⟨_,rfl,?_⟩|exact rfl)
    all_goals try exact⟨KO⟩
    all_goals try(exfalso;first|(have h':=of_decide_eq_false h;rw[hlen]at h';omega)|(rw[hw1,hxe]at h;simp at h;done))
    conv=>whnf
    refine⟨⟨j+1,by omega,hnext⟩,?_,KD⟩
    repeat' ((conv=>whnf);first|refine Or.inl ?_|apply oi|(apply fi<;>intro h)|refine⟨_,rfl,?_⟩|exact rfl)
    all_goals try exact⟨KO⟩
    all_goals exact⟨by dsimp only;rw[IntWalk.i64_in _ (by omega)];rfl⟩
  ·have hjn:i.fae.length≤j:=by omega
   rw[List.take_of_length_le hjn]at hr
   have hnx:=hno hr
   repeat' ((conv=>whnf);first|refine Or.inl ?_|apply oi|(apply fi<;>intro h)|refine⟨_,rfl,?_⟩|exact rfl)
   all_goals try exact⟨KO⟩
   all_goals try(exfalso;have h':=of_decide_eq_true h;rw[hlen]at h';omega)
   conv=>whnf
   refine⟨⟨k+1,by omega,hnx⟩,?_,KD⟩
   repeat' ((conv=>whnf);first|refine Or.inl ?_|apply oi|(apply fi<;>intro h)|refine⟨_,rfl,?_⟩|exact rfl)
   all_goals try exact⟨KO⟩
   all_goals exact⟨by dsimp only;rw[IntWalk.i64_in _ (by omega)];rfl⟩
 ·have hk2':k=2:=by omega
  subst hk2'
  repeat' ((conv=>whnf);first|refine Or.inl ?_|apply oi|(apply fi<;>intro h)|refine⟨_,rfl,?_⟩|exact rfl)
  all_goals try exact⟨KO⟩
  all_goals exact⟨by rw[hk1 (by omega),hk2 (by omega)];rfl⟩
theorem rG (i0 i1:FU)(b0 b1:Int)(es:List Int)(hs:aw 1048576 (Gd.mk [i0,i1] [b0,b1] es).tr):Sim.Spec Tryz.prog 89 [.agg (Gd.mk [i0,i1] [b0,b1] es).tr] (rB (mf i0 i1 b0 b1 es)):=by
 refine aj hΓ ao Tryz.func89 rfl (by decide) rfl ?_
 have hlen:(es.map aa).length=es.length:=by simp
 have hE:=aE es.length 1 6
 unfold mf
 cases hw:af es.length 1 6 with
 | false=>
  rw[hw]at hE
  repeat' ((conv=>whnf);first|refine Or.inl ?_|apply oi|(apply fi<;>intro h)|refine ci hE (ai KW (ai rfl (ai rfl trivial))) ?_|refine⟨_,rfl,?_⟩|exact rfl)
  all_goals try exact⟨KO⟩
  all_goals(exfalso;simp at h;done)
 | true=>
  rw[hw]at hE
  repeat' ((conv=>whnf);first|refine Or.inl ?_|apply oi|(apply fi<;>intro h)|refine ci hE (ai KW (ai rfl (ai rfl trivial))) ?_|refine⟨_,rfl,?_⟩|exact rfl)
  all_goals try exact⟨KO⟩
  all_goals try(exfalso;simp at h;done)
  have hsp:=hs
  simp only[Gd.tr,aw]at hsp
  have hsI:=hsp.1
  have hi0:aw 1048576 i0.tr:=aA hsI (by simp)
  have hi1:aw 1048576 i1.tr:=aA hsI (by simp)
  have hc0:i0.fac.length≤1048576:=by have:=hi0;simp only[FU.tr,aw,ay]at this;omega
  have hc1:i1.fac.length≤1048576:=by have:=hi1;simp only[FU.tr,aw,ay]at this;omega
  have hsy0:i0.fae.length≤1048576:=by have:=hi0;simp only[FU.tr,aw]at this;exact aI this.2.1
  have hsy1:i1.fae.length≤1048576:=by have:=hi1;simp only[FU.tr,aw]at this;exact aI this.2.1
  have hel:es.length≤1048576:=aI hsp.2.2.1
  rw[Bool.true_and]
  generalize hR:(bo i0 && (af b0 1 1000000 && (bo i1 && (af b1 1 1000000 && (!(fI i0 i1 b0 b1) && es.all fun e=>bA i0 b0 e || bA i1 b1 e)))))=R
  conv=>whnf
  refine⟨{k:Nat // k≤2∧(1≤k→bo i0=true∧af b0 1 1000000=true)∧(2≤k→bo i1=true∧af b1 1 1000000=true)},fun k=>⟨[(1,.r (.c (.ptr (1,0,0) 0))),(27,tI .i64 2),(28,tI .i64 (k.1:Int))],[((1,0,0),some (.box (ta i0 i1 b0 b1 es)))],[1]⟩,fun k=>2 - k.1,⟨0,by omega,by omega,by omega⟩,?_,?_⟩
  ·skip
   repeat' ((conv=>whnf);first|refine Or.inl ?_|apply oi|(apply fi<;>intro h)|refine⟨_,rfl,?_⟩|exact rfl)
   all_goals try exact⟨KO⟩
  intro⟨k,hk,hk1,hk2⟩
  dsimp only
  by_cases hlt:k < 2
  ·obtain⟨i,b,hi,hb,hsi,hn1,hn2,hyes⟩:∃(i:FU) (b:Int),([i0.tr,i1.tr]:List (List Tr))[k]?=some i.tr∧([aa b0,aa b1]:List (List Tr))[k]?=some (aa b)∧aw 1048576 i.tr∧
     (bo i=false→R=false)∧(af b 1 1000000=false→R=false)∧(bo i=true→af b 1 1000000=true→(1≤k+1→bo i0=true∧af b0 1 1000000=true)∧(2≤k+1→bo i1=true∧af b1 1 1000000=true)):=by
    have:k=0∨k=1:=by omega
    rcases this with rfl|rfl
    ·exact⟨i0,b0,rfl,rfl,hi0,fun h=>by rw[←hR,h];rfl,fun h=>by rw[←hR,h];simp,fun h h'=>⟨fun _=>⟨h,h'⟩,fun h2=>by omega⟩⟩
    ·exact⟨i1,b1,rfl,rfl,hi1,fun h=>by rw[←hR,h];simp,fun h=>by rw[←hR,h];simp,fun h h'=>⟨fun _=>hk1 (by omega),fun _=>⟨h,h'⟩⟩⟩
   have hI:=ui i hsi
   have hB:=aE b 1 1000000
   cases hio:bo i with
   | false=>
    rw[hio]at hI
    rw[hn1 hio]
    repeat' ((conv=>whnf);first|refine Or.inl ?_|apply oi|(apply fi<;>intro h)|refine⟨k,i.tr,rfl,hi,?_⟩|refine ci hI (ai (ai rfl (ai rfl trivial)) trivial) ?_|refine⟨_,rfl,?_⟩|exact rfl)
    all_goals try exact⟨KO⟩
    all_goals(exfalso;first|(have h':=of_decide_eq_false h;omega)|(simp at h;done))
   | true=>
    rw[hio]at hI
    cases hbo:af b 1 1000000 with
    | false=>
     rw[hbo]at hB
     rw[hn2 hbo]
     repeat' ((conv=>whnf);first|refine Or.inl ?_|apply oi|(apply fi<;>intro h)|refine⟨k,i.tr,rfl,hi,?_⟩|refine⟨k,aa b,rfl,hb,?_⟩|refine ci hI (ai (ai rfl (ai rfl trivial)) trivial) ?_|refine ci hB (ai rfl (ai rfl (ai rfl trivial))) ?_|refine⟨_,rfl,?_⟩|exact rfl)
     all_goals try exact⟨KO⟩
     all_goals(exfalso;first|(have h':=of_decide_eq_false h;omega)|(simp at h;done))
    | true=>
     rw[hbo]at hB
     repeat' ((conv=>whnf);first|refine Or.inl ?_|apply oi|(apply fi<;>intro h)|refine⟨k,i.tr,rfl,hi,?_⟩|refine⟨k,aa b,rfl,hb,?_⟩|refine ci hI (ai (ai rfl (ai rfl trivial)) trivial) ?_|refine ci hB (ai rfl (ai rfl (ai rfl trivial))) ?_|refine⟨_,rfl,?_⟩|exact rfl)
     all_goals try exact⟨KO⟩
     all_goals try(exfalso;first|(have h':=of_decide_eq_false h;omega)|(simp at h;done))
     conv=>whnf
     refine⟨⟨k+1,by omega,hyes hio hbo⟩,?_,KD⟩
     repeat' ((conv=>whnf);first|refine Or.inl ?_|apply oi|(apply fi<;>intro h)|refine⟨_,rfl,?_⟩|exact rfl)
     all_goals try exact⟨KO⟩
     all_goals exact⟨by dsimp only;rw[IntWalk.i64_in _ (by omega)];rfl⟩
  ·have hk2':k=2:=by omega
   subst hk2'
   obtain⟨g0,w0⟩:=hk1 (by omega)
   obtain⟨g1,w1⟩:=hk2 (by omega)
   have v0:=within_iff.1 w0
   have v1:=within_iff.1 w1
   rw[g0,g1,w0,w1,Bool.true_and,Bool.true_and,Bool.true_and,Bool.true_and]at hR
   have x0:IntKind.i64.wrap (b1+(i1.fac.length:Int))=b1+i1.fac.length:=IntWalk.i64_in _ (by omega)
   have x1:IntKind.i64.wrap (b0+(i0.fac.length:Int))=b0+i0.fac.length:=IntWalk.i64_in _ (by omega)
   cases ho:fI i0 i1 b0 b1 with
   | true=>
    rw[ho]at hR
    rw[fI,Bool.and_eq_true,Bool.and_eq_true,Bool.and_eq_true,decide_eq_true_eq,decide_eq_true_eq,decide_eq_true_eq,decide_eq_true_eq]at ho
    obtain⟨o1,o2,o3,o4⟩:=ho
    subst hR
    repeat' ((conv=>whnf);first|refine Or.inl ?_|apply oi|(apply fi<;>intro h)|refine⟨0,_,rfl,rfl,?_⟩|refine⟨1,_,rfl,rfl,?_⟩|refine⟨_,rfl,?_⟩|exact rfl)
    all_goals try exact⟨KO⟩
    all_goals(exfalso;first|(have h':=of_decide_eq_false h;(try rw[x0]at h');(try rw[x1]at h');omega)|(have h':=of_decide_eq_true h;omega))
   | false=>
    rw[ho,Bool.not_false,Bool.true_and]at hR
    have hno:¬(0 < i0.fac.length∧0 < i1.fac.length∧b0 < b1+i1.fac.length∧b1 < b0+i0.fac.length):=by
     intro⟨a,b,c,d⟩
     rw[fI,decide_eq_true a,decide_eq_true b,decide_eq_true c,decide_eq_true d]at ho
     cases ho
    have m0:=dB (imageOk_iff.1 g0).2 (by omega)
    have m1:=dB (imageOk_iff.1 g1).2 (by omega)
    have l0:=(imageOk_iff.1 g0).1
    have l1:=(imageOk_iff.1 g1).1
    repeat' ((conv=>whnf);first|refine Or.inl ?_|apply oi|(apply fi<;>intro h)|refine⟨0,_,rfl,rfl,?_⟩|refine⟨1,_,rfl,rfl,?_⟩|refine⟨_,rfl,?_⟩|exact rfl)
    all_goals try exact⟨KO⟩
    all_goals try(
     exfalso
     rename_i a1 a2 a3
     have c1:=of_decide_eq_true a1
     have c2:=of_decide_eq_true a2
     have c3:=of_decide_eq_true a3
     have c4:=of_decide_eq_true h
     rw[x0]at c3
     rw[x1]at c4
     exact hno ⟨by omega,by omega,c3,c4⟩)
    all_goals(
     conv=>whnf
     refine⟨{j:Nat // j≤es.length∧((es.drop j).all fun e=>bA i0 b0 e || bA i1 b1 e)=R},fun j=>⟨[(1,.r (.c (.ptr (1,0,0) 0))),(93,.r (.c (.t (.lst 1 (es.map aa))))),(94,tI .i64 ((es.map aa).length:Int)),(95,tI .i64 (j.1:Int))],[((1,0,0),some (.box (ta i0 i1 b0 b1 es)))],[1]⟩,fun j=>es.length - j.1,⟨0,by omega,hR⟩,?_,?_⟩
     ·skip
      repeat' ((conv=>whnf);first|refine Or.inl ?_|apply oi|(apply fi<;>intro h)|refine⟨_,rfl,?_⟩|exact rfl)
      all_goals try exact⟨KO⟩
     intro⟨j,hj,hr⟩
     dsimp only
     by_cases hjl:j < es.length
     ·obtain⟨e,he⟩:=ae hjl
      have hEn:=tX i0 i1 b0 b1 e es (fun x hx=>by have:=m0 x hx;omega) (fun x hx=>by have:=m1 x hx;omega) (by omega) (by omega) hsy0 hsy1
      rw[cV he,List.all_cons]at hr
      cases hee:(bA i0 b0 e || bA i1 b1 e)with
      | false=>
       rw[hee]at hEn hr
       rw[Bool.false_and]at hr
       subst hr
       repeat' ((conv=>whnf);first|refine Or.inl ?_|apply oi|(apply fi<;>intro h)|refine⟨j,aa e,rfl,ab he,?_⟩|refine ci hEn (ai (ai rfl (ai rfl (ai rfl trivial))) (ai rfl trivial)) ?_|refine⟨_,rfl,?_⟩|exact rfl)
       all_goals try exact⟨KO⟩
       all_goals(exfalso;first|(have h':=of_decide_eq_false h;rw[hlen]at h';omega)|(simp at h;done))
      | true=>
       rw[hee]at hEn hr
       rw[Bool.true_and]at hr
       repeat' ((conv=>whnf);first|refine Or.inl ?_|apply oi|(apply fi<;>intro h)|refine⟨j,aa e,rfl,ab he,?_⟩|refine ci hEn (ai (ai rfl (ai rfl (ai rfl trivial))) (ai rfl trivial)) ?_|refine⟨_,rfl,?_⟩|exact rfl)
       all_goals try exact⟨KO⟩
       all_goals try(exfalso;first|(have h':=of_decide_eq_false h;rw[hlen]at h';omega)|(simp at h;done))
       conv=>whnf
       refine⟨⟨j+1,by omega,hr⟩,?_,KD⟩
       repeat' ((conv=>whnf);first|refine Or.inl ?_|apply oi|(apply fi<;>intro h)|refine⟨_,rfl,?_⟩|exact rfl)
       all_goals try exact⟨KO⟩
       all_goals exact⟨by dsimp only;rw[IntWalk.i64_in _ (by omega)];rfl⟩
     ·have hge:es.length≤j:=by omega
      rw[List.drop_eq_nil_of_le hge,List.all_nil]at hr
      subst hr
      repeat' ((conv=>whnf);first|refine Or.inl ?_|apply oi|(apply fi<;>intro h)|refine⟨_,rfl,?_⟩|exact rfl)
      all_goals try exact⟨KO⟩
      all_goals(exfalso;have h':=of_decide_eq_true h;rw[hlen]at h';omega))
theorem pB:∀(l:List FX) (i:Nat),(funsF l i).Pairwise (· < ·)
 | [],_=>by rw[funsF];exact List.Pairwise.nil
 | x::l,i=>by
  have ih:=pB l (i+1)
  rw[funsF]
  split
  ·refine List.pairwise_append.2 ⟨List.pairwise_singleton _ _,ih,fun a ha b hb=>?_⟩
   rw[List.mem_singleton]at ha
   have:=(pk hb).1
   omega
  ·rw[List.nil_append];exact ih
theorem CZ {p:List FX}{f g k:Nat}(hf:(an p)[f]?=some k)(hg:(an p)[g]?=some k):f=g:=by
 have hs:=List.pairwise_iff_getElem.1 (pB p 0)
 obtain⟨h1,e1⟩:=List.getElem?_eq_some_iff.1 hf
 obtain⟨h2,e2⟩:=List.getElem?_eq_some_iff.1 hg
 rcases Nat.lt_trichotomy f g with h|h|h
 ·have:=hs f g h1 h2 h
  change(an p)[f] < (an p)[g]at this
  rw[e1,e2]at this
  omega
 ·exact h
 ·have:=hs g f h2 h1 h
  change(an p)[g] < (an p)[f]at this
  rw[e1,e2]at this
  omega
theorem pI {p:List FX}(h:az p=true){f k:Nat}(hf:(an p)[f]?=some k):∃y,p[k]?=some y∧y.faa=0∧bm p f=y.fab∧cA y.fab=true∧findN p 0 y.fab=some k:=by
 unfold az at h
 simp only[Bool.and_eq_true,decide_eq_true_eq]at h
 obtain⟨_,_,h3,_,h5,_⟩:=h
 obtain⟨_,y,hy,h0⟩:=gZ (List.mem_of_getElem? hf)
 have hl:=List.all_eq_true.1 h3 y (List.mem_of_getElem? hy)
 have hn:=List.all_eq_true.1 h5 k (List.mem_of_getElem? hf)
 refine⟨y,hy,h0,by rw[bm,hf];dsimp only;rw[hy],?_,?_⟩
 ·unfold co at hl
  simp only[Bool.and_eq_true]at hl
  have:=hl.2.1
  rwa [if_pos (.inl h0)]at this
 ·unfold bg at hn
  rw[hy]at hn
  exact eq_of_beq hn
theorem CT {p:List FX}(h:az p=true){f g:Nat}(hf:f < (an p).length)(hg:g < (an p).length)(he:bm p f=bm p g):f=g:=by
 obtain⟨k,hk⟩:=ae hf
 obtain⟨j,hj⟩:=ae hg
 obtain⟨_,_,_,e1,_,f1⟩:=pI h hk
 obtain⟨_,_,_,e2,_,f2⟩:=pI h hj
 rw[e1,e2]at he
 rw[he,f2]at f1
 injection f1 with f1
 subst f1
 exact CZ hk hj
theorem lF {p:List FX}{b:FO}{image:Int}:∀(n f:Nat) (at0:Int),(cu p b image n f at0).Pairwise (fun x y=>x.1 < y.1)
 | 0,_,_=>by rw[cu];exact List.Pairwise.nil
 | n+1,f,at0=>by
  rw[jW]
  split
  ·refine List.pairwise_cons.2 ⟨fun y hy=>?_,lF n _ _⟩
   have:=(lR hy).1
   dsimp only
   omega
  ·exact lF n _ _
def eE (nm:List UInt8)(b:Int)(l:List Ge):List Int:=(l.filter fun y=>y.fab==nm).map fun y=>IntKind.i64.wrap (b+y.fah)
theorem yV (nm:List UInt8)(b:Int):eE nm b []=[]:=rfl
theorem Ch (nm:List UInt8)(b:Int)(l:List Ge)(y:Ge):eE nm b (l++[y])=eE nm b l++if(y.fab==nm)=true then [IntKind.i64.wrap (b+y.fah)]else []:=by
 unfold eE
 rw[List.filter_append,List.map_append]
 congr 1
 split
 ·rename_i h;simp[h]
 ·rename_i h;simp[h]
theorem vp {nm:List UInt8}{b:Int}{l:List Ge}{k:Nat}{y:Ge}(h:l[k]?=some y):eE nm b (l.take (k+1))=eE nm b (l.take k)++if(y.fab==nm)=true then [IntKind.i64.wrap (b+y.fah)]else []:=by
 rw[ck h,Ch]
theorem iz (nm:List UInt8)(b:Int)(l:List Ge):(eE nm b l).length≤l.length:=by
 unfold eE
 rw[List.length_map]
 exact List.length_filter_le _ _
def jr (f:Nat):List (Nat×List Ga)→Int→Option Int
 | [],_=>none
 | x::L,a=>if x.1=f then some a else jr f L (a+(aG x.2).length)
theorem vJ {p:List FX}{nm:List UInt8}{b:Int}:∀(L:List (Nat×List Ga)) (a:Int),(∀x∈L,bm p x.1≠nm)→eE nm b (bN p a L)=[]
 | [],_,_=>rfl
 |(g,l)::L,a,h=>by
  have h1:=h (g,l) (by simp)
  have ih:=vJ (p:=p) (nm:=nm) (b:=b) L (a+(aG l).length) (fun x hx=>h x (by simp[hx]))
  unfold eE at ih ⊢
  rw[bN,List.filter_cons,if_neg (by simpa using h1)]
  exact ih
theorem vq {p:List FX}{b:Int}{f:Nat}:∀(L:List (Nat×List Ga)) (a:Int),(∀x∈L,bm p x.1=bm p f→x.1=f)→L.Pairwise (fun x y=>x.1 < y.1)→
  eE (bm p f) b (bN p a L)=match jr f L a with|some s=>[IntKind.i64.wrap (b+s)]|none=>[]
 | [],_,_,_=>rfl
 |(g,l)::L,a,h,hs=>by
  rw[List.pairwise_cons]at hs
  rw[jr]
  by_cases hg:g=f
  ·subst hg
   rw[if_pos rfl]
   have hn:=vJ (p:=p) (nm:=bm p g) (b:=b) L (a+(aG l).length) (fun x hx he=>by
    have h1:=h x (by simp[hx]) he
    have h2:=hs.1 x hx
    dsimp only at h2
    omega)
   unfold eE at hn ⊢
   rw[bN,List.filter_cons,if_pos (by simp),List.map_cons,hn]
  ·rw[if_neg hg]
   have ih:=vq (p:=p) (b:=b) (f:=f) L (a+(aG l).length) (fun x hx=>h x (by simp[hx])) hs.2
   rw[←ih]
   unfold eE
   rw[bN,List.filter_cons,if_neg]
   simp only[beq_iff_eq]
   exact fun he=>hg (h (g,l) (by simp) he)
theorem oM {f:Nat}:∀{L:List (Nat×List Ga)} {a:Int},(∃x∈L,x.1=f)→∃s,jr f L a=some s
 | [],_,⟨_,h,_⟩=>by cases h
 | x::L,a,⟨y,hy,he⟩=>by
  rw[jr]
  split
  ·exact⟨_,rfl⟩
  ·rename_i hx
   rcases List.mem_cons.1 hy with rfl|hy
   ·exact absurd he hx
   ·exact oM ⟨y,hy,he⟩
theorem oZ {f:Nat}:∀{L:List (Nat×List Ga)} {a:Int},(∀x∈L,x.1≠f)→jr f L a=none
 | [],_,_=>rfl
 | x::L,a,h=>by rw[jr,if_neg (h x (by simp)),oZ fun y hy=>h y (by simp[hy])]
theorem imgL_mem {p:List FX}{b:FO}{image:Int}:∀{n f:Nat} {at0:Int} {g:Nat},(∃x∈cu p b image n f at0,x.1=g)↔(f≤g∧g < f+n∧lD b image g=true)
 | 0,f,at0,g=>by
  rw[cu]
  constructor
  ·rintro⟨x,h,_⟩;cases h
  ·rintro⟨h1,h2,_⟩;omega
 | n+1,f,at0,g=>by
  rw[jW]
  split
  ·rename_i hin
   constructor
   ·rintro⟨x,hx,he⟩
    rcases List.mem_cons.1 hx with rfl|hx
    ·dsimp only at he;subst he;exact⟨by omega,by omega,hin⟩
    ·have:=imgL_mem.1 ⟨x,hx,he⟩;exact⟨by omega,by omega,this.2.2⟩
   ·rintro⟨h1,h2,h3⟩
    by_cases hg:g=f
    ·exact⟨_,List.mem_cons_self ..,hg.symm⟩
    ·obtain⟨x,hx,he⟩:=(imgL_mem (p:=p) (at0:=sj at0 (aH p f b)) (n:=n) (f:=f+1)).2 ⟨by omega,by omega,h3⟩
     exact⟨x,List.mem_cons_of_mem _ hx,he⟩
  ·rename_i hin
   constructor
   ·intro h
    have:=imgL_mem.1 h
    exact⟨by omega,by omega,this.2.2⟩
   ·rintro⟨h1,h2,h3⟩
    have hg:g≠f:=fun e=>by subst e;exact hin h3
    exact imgL_mem.2 ⟨by omega,by omega,h3⟩
noncomputable abbrev imL (p:List FX) (b:FO) (image:Int):List (Nat×List Ga):=cu p b image (an p).length 0 0
def iJ (b:FO)(f:Nat):Int:=if b.fav=true then(f:Int) % 2 else 0
theorem vQ {b:FO}{f:Nat}{image:Int}(h:image=0∨image=1):lD b image f=true↔image=iJ b f:=by
 unfold lD iJ
 split
 ·rw[beq_iff_eq];omega
 ·rw[beq_iff_eq]
def mV (p:List FX)(b:FO)(i0 i1:FU)(first second:Int)(f:Nat):List Int:=eE (bm p f) first i0.fae++eE (bm p f) second i1.fae
def rU (p:List FX)(b:FO)(i0 i1:FU)(first second:Int)(f:Nat):List Int:=if iJ b f=1 then eE (bm p f) second i1.fae else eE (bm p f) first i0.fae
def dA (F:Nat→List Int):Nat→List Int
 | 0=>[]
 | n+1=>dA F n++F n
noncomputable def wJ (p:List FX) (b:FO) (f:Nat):Int:=(jr f (imL p b (iJ b f)) 0).getD 0
noncomputable def kx (p:List FX) (b:FO) (first second:Int) (f:Nat):Int:=IntKind.i64.wrap ((if iJ b f=1 then second else first)+wJ p b f)
theorem tn (b:FO)(f:Nat):iJ b f=0∨iJ b f=1:=by unfold iJ;split <;> omega
theorem ko {p:List FX}{b:FO}(h1:az p=true)(h2:aU b=true){image:Int}(hi:image=0∨image=1){f:Nat}(hf:f < (an p).length)(base:Int):
  eE (bm p f) base (aB p b image).fae=if iJ b f=image then [IntKind.i64.wrap (base+wJ p b f)]else []:=by
 have h3:af image 0 1=true:=by rw[within_iff];omega
 rw[aB,if_pos ⟨h1,h2,h3⟩]
 dsimp only
 rw[vq _ _ (fun x hx he=>CT h1 (by have:=(lR hx).2;omega) hf he) (lF _ _ _)]
 by_cases he:iJ b f=image
 ·subst he
  obtain⟨s,hs⟩:=oM (f:=f) (a:=0) ((imgL_mem (p:=p) (b:=b) (image:=iJ b f) (n:=(an p).length) (f:=0) (at0:=0) (g:=f)).2 ⟨by omega,by omega,(vQ hi).2 rfl⟩)
  rw[hs,if_pos rfl,wJ,show imL p b (iJ b f)=cu p b (iJ b f) (an p).length 0 0 from rfl,hs]
  rfl
 ·rw[if_neg he,oZ fun x hx hxe=>?_]
  have:=(imgL_mem (g:=f)).1 ⟨x,hx,hxe⟩
  exact he ((vQ hi).1 this.2.2).symm
theorem EH {p:List FX}{b:FO}(h1:az p=true)(h2:aU b=true){f:Nat}(hf:f < (an p).length)(first second:Int):rU p b (aB p b 0) (aB p b 1) first second f=[kx p b first second f]:=by
 unfold rU kx
 rw[ko h1 h2 (.inr rfl) hf,ko h1 h2 (.inl rfl) hf]
 rcases tn b f with e|e
 ·rw[e];rfl
 ·rw[e];rfl
theorem Eo {p:List FX}{b:FO}(h1:az p=true)(h2:aU b=true){f:Nat}(hf:f < (an p).length)(first second:Int):mV p b (aB p b 0) (aB p b 1) first second f=[kx p b first second f]:=by
 unfold mV kx
 rw[ko h1 h2 (.inr rfl) hf,ko h1 h2 (.inl rfl) hf]
 rcases tn b f with e|e
 ·rw[e];rfl
 ·rw[e];rfl
theorem qH {F:Nat→List Int}{G:Nat→Int}:∀{n:Nat},(∀f,f < n→F f=[G f])→dA F n=(List.range n).map G
 | 0,_=>rfl
 | n+1,h=>by rw[dA,qH fun f hf=>h f (by omega),h n (by omega),List.range_succ,List.map_append];rfl
noncomputable def entries (p:List FX) (b:FO) (first second:Int):List Int:=(List.range (an p).length).map (kx p b first second)
noncomputable def eL (p:List FX) (b:FO) (first second:Int):Gd:=⟨[aB p b 0,aB p b 1],[first,second],entries p b first second⟩
noncomputable def dQ (p:List FX) (b:FO) (first second:Int):Option Gd:=if az p=true∧aU b=true∧gg (eL p b first second)=true then some (eL p b first second)else none
def oSp (o:Option Gd):Gd:=match o with|some s=>s|none=>⟨[],[],[]⟩
theorem Bb:∀f:Fin 101,IntKind.i64.wrap (BitVec.ofInt IntKind.i64.bits (f.val:Int) &&& BitVec.ofInt IntKind.i64.bits 1).toNat=(f.val:Int) % 2:=by decide
theorem pP (f:Nat)(b:FO)(image:Int)(hf:f≤100):Sim.Spec Tryz.prog 63 [.agg b.tr,tvI (f:Int),tvI image] (rB (lD b image f)):=by
 refine aJ hΓ ao Tryz.func63 rfl (by decide) rfl ?_
 unfold lD
 have hm:=Bb ⟨f,by omega⟩
 dsimp only at hm
 repeat' ((conv=>whnf);first|apply Wx|apply W6|apply oi|(apply fi<;>intro h)|refine⟨_,rfl,?_⟩|exact rfl)
 all_goals try exact⟨KP⟩
 all_goals first|exact⟨by rw[h,hm];rfl⟩|exact⟨by rw[h];rfl⟩
theorem uf:∀{L:List (Nat×List Ga)},(∀x∈L,x.2.length≤2500)→(aO L).length≤2500 * L.length
 | L,h=>by
  have:=qd h (Nat.le_refl L.length)
  rwa [List.take_of_length_le (Nat.le_refl _)]at this
theorem rY (p:List FX)(b:FO)(image:Int)(hs:ay 1048576 (.lst 4 (p.map FX.tr))):Sim.Spec Tryz.prog 12 [tvP p,.agg b.tr,tvI image] (rL 8 ((fG p b image).map Ga.tr)):=by
 refine aJ hΓ ao Tryz.func12 rfl (by decide) rfl ?_
 have hP:=eA p hs
 have hB:=iL b
 have gb:=bd image 0 1
 by_cases hc:az p=true∧aU b=true∧af image 0 1=true
 ·have hcf:fG p b image=aO (cu p b image (an p).length 0 0):=by rw[fG,if_pos hc];rfl
  rw[hcf]
  obtain⟨h1,h2,h3⟩:=hc
  rw[h1]at hP
  rw[h2]at hB
  rw[h3]at gb
  obtain⟨h6,h60⟩:=gA h1
  have gF:=cv p (by omega)
  have hfl:((an p).map fun n:Nat=>aa n).length=(an p).length:=by simp
  have hlc:=fun x (hx:x∈cu p b image (an p).length 0 0)=>(jI hs hx).1
  repeat' ((conv=>whnf);first|apply Wx|apply W6|apply oi|(apply fi<;>intro h)|refine cl hP ?_|refine cl hB ?_|refine cl gb ?_|refine⟨_,rfl,?_⟩|exact rfl)
  all_goals try exact⟨KP⟩
  conv=>whnf
  refine⟨EM p b image,fun q=>⟨[(0,vP p),(2,tI .i64 image),(4,.r (.c (.ptr (4,0,0) 0))),(7,.r (.c (.own (15,0,0)))),(8,tI .i64 q.1.2.1),(9,tI .i64 (q.1.1:Int))],[((15,0,0),some (.arr true 8 ((aO q.1.2.2).map Ga.tr))),((4,0,0),some (.box [.t (.int .i64 b.fat),.t (.int .i64 b.faj),.t (.bool b.fax),.t (.bool b.fav)]))],[15,4]⟩,fun q=>(an p).length - q.1.1,⟨(0,0,[]),by simp,by simp,by simp,by simp⟩,?_,?_⟩
  ·skip
   repeat' ((conv=>whnf);first|apply Wx|apply W6|apply oi|(apply fi<;>intro h)|refine⟨_,rfl,?_⟩|exact rfl)
   all_goals try exact⟨KP⟩
  intro⟨⟨f,at0,acc⟩,hk,ha,hal,hr⟩
  dsimp only at hk ha hal hr ⊢
  have hac:(aO acc).length≤2500 * acc.length:=uf fun x hx=>hlc x (by rw[←hr];exact List.mem_append.2 (.inl hx))
  by_cases hlt:f < (an p).length
  ·obtain⟨n,hn⟩:∃n,(an p).length - f=n+1:=⟨(an p).length - f - 1,by omega⟩
   have hi:=pP f b image (by omega)
   rw[hn,jW]at hr
   cases hin:lD b image f with
   | false=>
    rw[hin]at hi hr
    rw[if_neg (by simp)]at hr
    repeat' ((conv=>whnf);first|apply Wx|apply W6|apply oi|(apply fi<;>intro h)|refine cl gF ?_|refine cl hi ?_|refine⟨_,rfl,?_⟩|exact rfl)
    all_goals try exact⟨KP⟩
    all_goals try exact KX
    conv=>whnf
    refine⟨⟨(f+1,at0,acc),by dsimp only;omega,by dsimp only;omega,by dsimp only;omega,by dsimp only;rw[show(an p).length - (f+1)=n by omega];exact hr⟩,?_,KD⟩
    repeat' ((conv=>whnf);first|apply Wx|apply W6|apply oi|(apply fi<;>intro h)|refine⟨_,rfl,?_⟩|exact rfl)
    all_goals try exact⟨KP⟩
    all_goals try exact⟨KW⟩
   | true=>
    rw[hin]at hi hr
    rw[if_pos rfl]at hr
    have hcs:=kr p (f:Int) b hs
    obtain⟨f1,f2,f3⟩:=Dr (f:=f) hs h1 h2 hlt
    have hch:=(fy (p:=p) (f:=(f:Int)) (b:=b) hs).2
    generalize aH p (f:Int) b=I at *
    repeat' ((conv=>whnf);first|apply Wx|apply W6|apply oi|(apply fi<;>intro h)|refine cl gF ?_|refine cl hi ?_|refine cl hcs ?_|refine⟨_,rfl,?_⟩|exact rfl)
    all_goals try exact⟨KP⟩
    all_goals try exact KX
    have hlen:(I.map FW.tr).length=I.length:=by simp
    have hsl:=lA at0 I
    have hle:=fun k (h:k≤I.length)=>eY (at0:=at0) h
    have hS0:=fF at0 I
    have hsu:=fun k x (h:I[k]?=some x)=>eh (at0:=at0) h
    have hpf:∀(k:Nat) (x:FW),I[k]?=some x→(cJ I at0)[k]?=some (Ga.mk (atL (bT at0 I) k) (dZ (bT at0 I) k x)):=fun k x h=>dP h
    have hfl2:=dc I at0
    have hend:sj at0 I=atL (bT at0 I) I.length:=rfl
    have ye:=AU (l:=I) (at0:=at0)
    generalize bT at0 I=S at *
    generalize cJ I at0=F at *
    generalize sj at0 I=E at *
    conv=>whnf
    refine⟨{k:Nat // k≤I.length},fun k=>⟨[(0,vP p),(2,tI .i64 image),(4,.r (.c (.ptr (4,0,0) 0))),(7,.r (.c (.own (15,0,0)))),(8,tI .i64 (atL S k.1)),(9,tI .i64 (f:Int)),(10,.r (.c (.own (45,0,0)))),(11,.r (.c (.own (46,0,0)))),(12,tI .i64 (k.1:Int))],[((46,0,0),some (.arr true 1 ((S.take k.1).map aa))),((45,0,0),some (.arr true 7 (I.map FW.tr))),((15,0,0),some (.arr true 8 ((aO acc).map Ga.tr))),((4,0,0),some (.box [.t (.int .i64 b.fat),.t (.int .i64 b.faj),.t (.bool b.fax),.t (.bool b.fav)]))],[46,45,15,4]⟩,fun k=>I.length - k.1,⟨0,by omega⟩,?_,?_⟩
    ·skip
     repeat' ((conv=>whnf);first|apply Wx|apply W6|apply oi|(apply fi<;>intro h)|refine⟨_,rfl,?_⟩|exact rfl)
     all_goals try exact⟨KP⟩
     all_goals try exact⟨by rw[hS0]⟩
    intro⟨k,hk⟩
    dsimp only
    have hlk:=hle k hk
    by_cases hlt2:k < I.length
    ·obtain⟨x,hx⟩:=ae hlt2
     have hz:=fT x.fag.fac
     have ho:=nj x.fag.fac
     have hs1:=hsu k x hx
     have hg:S[k]?=some (atL S k):=mH (by omega)
     have hkr:k < (I.map FW.tr).length:=by omega
     have hxr:(I.map FW.tr)[k]?=some x.tr:=ab hx
     repeat' ((conv=>whnf);first|apply Wx|apply W6|apply oi|(apply fi<;>intro h)|refine⟨k,rfl,hkr,?_⟩|refine⟨_,hxr,?_⟩|refine cl ho ?_|refine⟨_,rfl,?_⟩|exact rfl)
     all_goals try exact⟨KP⟩
     all_goals try exact KX
     all_goals try exact⟨⟨by simp <;> omega,by simp <;> omega⟩⟩
     conv=>whnf
     refine⟨⟨k+1,by omega⟩,?_,KD⟩
     repeat' ((conv=>whnf);first|apply Wx|apply W6|apply oi|(apply fi<;>intro h)|refine⟨_,rfl,?_⟩|exact rfl)
     all_goals try exact⟨KP⟩
     all_goals try exact⟨KW⟩
     all_goals try exact⟨by rw[ck hg,List.map_append];rfl⟩
     all_goals try exact⟨congrArg (Tr.int .i64) (by rw[hs1,IntWalk.i64_in _ (by omega)])⟩
    ·have hkl:k=I.length:=by omega
     subst hkl
     have hg:S[I.length]?=some (atL S I.length):=mH (by omega)
     repeat' ((conv=>whnf);first|apply Wx|apply W6|apply oi|(apply fi<;>intro h)|refine⟨_,rfl,?_⟩|exact rfl)
     all_goals try exact⟨KP⟩
     all_goals try exact KX
     all_goals try exact⟨⟨by simp <;> omega,by simp <;> omega⟩⟩
     conv=>whnf
     refine⟨{k:Nat // k≤I.length},fun k=>⟨[(0,vP p),(2,tI .i64 image),(4,.r (.c (.ptr (4,0,0) 0))),(7,.r (.c (.own (15,0,0)))),(8,tI .i64 (atL S I.length)),(9,tI .i64 (f:Int)),(10,.r (.c (.own (45,0,0)))),(11,.r (.c (.own (69,0,0)))),(13,tI .i64 (k.1:Int))],[((69,0,0),some (.arr true 1 (S.map aa))),((45,0,0),some (.arr true 7 (I.map FW.tr))),((15,0,0),some (.arr true 8 ((aO acc++F.take k.1).map Ga.tr))),((4,0,0),some (.box [.t (.int .i64 b.fat),.t (.int .i64 b.faj),.t (.bool b.fax),.t (.bool b.fav)]))],[69,45,15,4]⟩,fun k=>I.length - k.1,⟨0,by omega⟩,?_,?_⟩
     ·skip
      repeat' ((conv=>whnf);first|apply Wx|apply W6|apply oi|(apply fi<;>intro h)|refine⟨_,rfl,?_⟩|exact rfl)
      all_goals try exact⟨KP⟩
      all_goals try exact⟨by rw[show [[Tr.int .i64 (atL S I.length)]]=[atL S I.length].map aa from rfl,←List.map_append,←ck hg,List.take_of_length_le (by omega)]⟩
      all_goals try exact⟨by simp⟩
     intro⟨k,hk⟩
     dsimp only
     have hol:((aO acc++F.take k).map Ga.tr).length=(aO acc).length+k:=by rw[List.length_map,List.length_append,List.length_take];omega
     have hml:(S.map aa).length=I.length+1:=by rw[List.length_map];exact hsl
     have mg:∀j,j≤I.length→(S.map aa)[j]?=some (aa (atL S j)):=fun j hj=>by rw[List.getElem?_map,mH (by omega)];rfl
     by_cases hlt2:k < I.length
     ·obtain⟨x,hx⟩:=ae hlt2
      have hpg:=hpf k x hx
      have hsn:(aO acc++F.take (k+1)).map Ga.tr=(aO acc++F.take k).map Ga.tr++[(Ga.mk (atL S k) (dZ S k x)).tr]:=by rw[ck hpg,←List.append_assoc,List.map_append];rfl
      have hkr:k < (I.map FW.tr).length:=by omega
      have hxr:(I.map FW.tr)[k]?=some x.tr:=ab hx
      have hw1:IntKind.i64.wrap ((k:Int)+1)=((k+1:Nat):Int):=by rw[IntWalk.i64_in _ (by omega)];rfl
      have hk0:k < (S.map aa).length:=by omega
      have hk1:k+1 < (S.map aa).length:=by omega
      have m0:=mg k (by omega)
      have m1:=mg (k+1) (by omega)
      have b1:=hle (k+1) (by omega)
      cases hjx:lI x with
      | true=>
       obtain⟨ja,jb⟩:=f3 x (List.mem_of_getElem? hx) hjx
       have hwa:x.fag.fak=((x.fag.fak.toNat:Nat):Int):=(Int.toNat_of_nonneg ja).symm
       have hal2:x.fag.fak.toNat < (S.map aa).length:=by omega
       have m2:=mg x.fag.fak.toNat (by omega)
       have b2:=hle x.fag.fak.toNat (by omega)
       have hji:dZ S k x=so x (IntKind.i64.wrap (atL S x.fag.fak.toNat - atL S (k+1))):=by rw[dZ,if_pos hjx,IntWalk.i64_in _ (by omega)]
       rw[fc]at hjx
       repeat' ((conv=>whnf);first|apply Wx|apply W6|apply oi|(apply fi<;>intro h)|refine⟨k,rfl,hkr,?_⟩|refine⟨_,hxr,?_⟩|refine⟨k,rfl,hk0,?_⟩|refine⟨k+1,hw1,hk1,?_⟩|refine⟨_,hwa,hal2,?_⟩|refine⟨_,m0,?_⟩|refine⟨_,m1,?_⟩|refine⟨_,m2,?_⟩|refine⟨_,rfl,?_⟩|exact rfl)
       all_goals try exact⟨KP⟩
       all_goals try exact KX
       all_goals try exact KK
       all_goals try exact⟨⟨by simp only[List.length_nil,List.length_cons,hol] <;> omega,by simp only[List.length_nil,List.length_cons,hol] <;> omega⟩⟩
       all_goals(
        conv=>whnf
        refine⟨⟨k+1,by omega⟩,?_,KD⟩
        repeat' ((conv=>whnf);first|apply Wx|apply W6|apply oi|(apply fi<;>intro h)|refine⟨_,rfl,?_⟩|exact rfl)
        all_goals try exact⟨KP⟩
        all_goals try exact⟨KW⟩
        all_goals try exact⟨by dsimp only;rw[hsn,hji];rfl⟩)
      | false=>
       have hji:dZ S k x=x:=by rw[dZ,if_neg (by rw[hjx];simp)]
       have hjn:¬(x.fag.fac=10∨x.fag.fac=11):=by rw[←fc,hjx];simp
       repeat' ((conv=>whnf);first|apply Wx|apply W6|apply oi|(apply fi<;>intro h)|refine⟨k,rfl,hkr,?_⟩|refine⟨_,hxr,?_⟩|refine⟨k,rfl,hk0,?_⟩|refine⟨_,m0,?_⟩|refine⟨_,rfl,?_⟩|exact rfl)
       all_goals try exact⟨KP⟩
       all_goals try exact KX
       all_goals try exact KK
       all_goals try exact⟨⟨by simp only[List.length_nil,List.length_cons,hol] <;> omega,by simp only[List.length_nil,List.length_cons,hol] <;> omega⟩⟩
       all_goals(
        conv=>whnf
        refine⟨⟨k+1,by omega⟩,?_,KD⟩
        repeat' ((conv=>whnf);first|apply Wx|apply W6|apply oi|(apply fi<;>intro h)|refine⟨_,rfl,?_⟩|exact rfl)
        all_goals try exact⟨KP⟩
        all_goals try exact⟨KW⟩
        all_goals try exact⟨by dsimp only;rw[hsn,hji];rfl⟩)
     ·have hkl:k=I.length:=by omega
      subst hkl
      repeat' ((conv=>whnf);first|apply Wx|apply W6|apply oi|(apply fi<;>intro h)|refine⟨_,rfl,?_⟩|exact rfl)
      all_goals try exact⟨KP⟩
      all_goals try exact KX
      conv=>whnf
      refine⟨⟨(f+1,E,acc++[(f,F)]),by dsimp only;omega,by dsimp only;omega,by simp;omega,by dsimp only;rw[List.append_assoc,show(an p).length - (f+1)=n by omega];exact hr⟩,?_,KD⟩
      repeat' ((conv=>whnf);first|apply Wx|apply W6|apply oi|(apply fi<;>intro h)|refine⟨_,rfl,?_⟩|exact rfl)
      all_goals try exact⟨KP⟩
      all_goals try exact⟨KW⟩
      all_goals try exact⟨by rw[hend]⟩
      all_goals try exact⟨by rw[kD,List.take_of_length_le (by omega)]⟩
  ·rw[show(an p).length - f=0 by omega]at hr
   have hr2:acc=cu p b image (an p).length 0 0:=by rw[←hr];simp[cu]
   repeat' ((conv=>whnf);first|apply Wx|apply W6|apply oi|(apply fi<;>intro h)|refine cl gF ?_|refine⟨_,rfl,?_⟩|exact rfl)
   all_goals try exact⟨KP⟩
   all_goals try exact KX
   all_goals exact⟨by rw[hr2]⟩
 ·have hcf:fG p b image=[]:=by rw[fG,if_neg hc]
  rw[hcf]
  cases h1:az p with
  | false=>
   rw[h1]at hP
   repeat' ((conv=>whnf);first|apply Wx|apply W6|apply oi|(apply fi<;>intro h)|refine cl hP ?_|refine cl hB ?_|refine cl gb ?_|refine⟨_,rfl,?_⟩|exact rfl)
   all_goals try exact⟨KP⟩
   all_goals try exact KX
  | true=>
   rw[h1]at hP
   cases h2:aU b with
   | false=>
    rw[h2]at hB
    repeat' ((conv=>whnf);first|apply Wx|apply W6|apply oi|(apply fi<;>intro h)|refine cl hP ?_|refine cl hB ?_|refine cl gb ?_|refine⟨_,rfl,?_⟩|exact rfl)
    all_goals try exact⟨KP⟩
    all_goals try exact KX
   | true=>
    rw[h2]at hB
    cases h3:af image 0 1 with
    | true=>exact absurd ⟨h1,h2,h3⟩ hc
    | false=>
     rw[h3]at gb
     repeat' ((conv=>whnf);first|apply Wx|apply W6|apply oi|(apply fi<;>intro h)|refine cl hP ?_|refine cl hB ?_|refine cl gb ?_|refine⟨_,rfl,?_⟩|exact rfl)
     all_goals try exact⟨KP⟩
     all_goals try exact KX
theorem gx (p:List FX)(b:FO)(image:Int)(hs:ay 1048576 (.lst 4 (p.map FX.tr))):Sim.Spec Tryz.prog 48 [tvP p,.agg b.tr,tvI image] (.r (.agg ((aB p b image).tr.map zh))):=by
 refine aJ hΓ ao Tryz.func48 rfl (by decide) rfl ?_
 have hP:=rY p b image hs
 by_cases hc:az p=true∧aU b=true∧af image 0 1=true
 ·have hcf:aB p b image=⟨aG (aO (cu p b image (an p).length 0 0)),bN p 0 (cu p b image (an p).length 0 0)⟩:=by rw[aB,if_pos hc]
  have hpf:fG p b image=aO (cu p b image (an p).length 0 0):=by rw[fG,if_pos hc];rfl
  rw[hcf]
  rw[hpf]at hP
  obtain⟨h1,h2,h3⟩:=hc
  obtain⟨h6,h60⟩:=gA h1
  have hll:=jO p b image (an p).length 0 0
  have hlc:=fun x (hx:x∈cu p b image (an p).length 0 0)=>(jI hs hx).1
  have hfa:=fun{i:Nat} {x:Nat×List Ga} {j:Nat} {y:Ga} (h:(cu p b image (an p).length 0 0)[i]?=some x) (hy:x.2[j]?=some y)=>zH hs h1 h2 h hy
  have hla:=fun{i:Nat} {x:Nat×List Ga} (h:(cu p b image (an p).length 0 0)[i]?=some x)=>(sB hs h1 h2 (by omega) h).2
  generalize cu p b image (an p).length 0 0=L at *
  repeat' ((conv=>whnf);first|apply Wx|apply W6|apply oi|(apply fi<;>intro h)|refine cl hP ?_|refine⟨_,rfl,?_⟩|exact rfl)
  all_goals try exact⟨KP⟩
  conv=>whnf
  refine⟨{q:Nat×Nat // q.1≤L.length∧(∀x,L[q.1]?=some x→q.2 < x.2.length)∧(q.1=L.length→q.2=0)},fun q=>⟨[(0,vP p),(6,.r (.c (.ptr (6,0,0) 0))),(7,.r (.c (.ptr (7,0,0) 0))),(8,.r (.c (.own (15,0,0)))),(9,tI .i64 (((aO (L.take q.1.1)).length+q.1.2:Nat):Int))],[((6,0,0),some (.box [.t (.str []),.nils 0])),((7,0,0),some (.box [.t (.str (fm L q.1.1 q.1.2)),.own (7,0,1)])),((7,0,1),some (.arr true 3 ((iQ p L q.1.1 q.1.2).map Ge.tr))),((15,0,0),some (.arr true 8 ((aO L).map Ga.tr)))],[15,7,6]⟩,fun q=>(aO L).length+1 - ((aO (L.take q.1.1)).length+q.1.2),⟨(0,0),by dsimp only;omega,by intro x hx;exact(hla hx).2,fun _=>rfl⟩,?_,?_⟩
  ·skip
   repeat' ((conv=>whnf);first|apply Wx|apply W6|apply oi|(apply fi<;>intro h)|refine⟨_,rfl,?_⟩|exact rfl)
   all_goals try exact⟨KP⟩
   all_goals try exact⟨by rw[Al];rfl⟩
   all_goals try exact⟨by rw[tY];rfl⟩
  intro⟨⟨i,j⟩,hi,hj,he⟩
  dsimp only at hi hj he ⊢
  by_cases hlt:i < L.length
  ·obtain⟨x,hx⟩:=ae hlt
   have hjx:=hj x hx
   obtain⟨y,hy⟩:=ae hjx
   obtain⟨hPI,hoff⟩:=hfa hx hy
   have hat:=DJ hx hy
   have hkl:=aL hat
   have hal:=uf hlc
   have hal2:=Nat.mul_le_mul_left 2500 (show L.length≤6 by omega)
   have hkm:(aO (L.take i)).length+j < ((aO L).map Ga.tr).length:=by rw[List.length_map];exact hkl
   have hgm:((aO L).map Ga.tr)[(aO (L.take i)).length+j]?=some y.tr:=ab hat
   have hE:=sb y.fal.fag
   have hE5:=ls y.fal.fag
   obtain⟨⟨i',j'⟩,q1,q2,q3,q4,q5,q6⟩:=DF (p:=p) (fun{i x} h=>(hla (i:=i) h).2) hx hjx
   dsimp only at q1 q2 q3 q4 q5 q6
   rw[BE hx hy]at q5
   rw[vF hx]at q6
   have hcl:=Cn (j:=j) hx
   have hcl2:=eW (aO (L.take i))
   have hcl3:=eW (x.2.take j)
   have hcl4:(aO (L.take i)).length≤(aO L).length:=by omega
   have hcl5:(x.2.take j).length≤2500:=by have:=hlc x (List.mem_of_getElem? hx);rw[List.length_take];omega
   have hcl6:aG (x.2.take (j+1))=aG (x.2.take j)++cM y.fal.fag:=by rw[ck hy,cr,iB]
   rw[hcl6,List.length_append]at q6
   have hS0:(bN p 0 (L.take i)).length=i:=by rw[iV,List.length_take];omega
   rcases Nat.eq_zero_or_pos j with rfl|hj0
   ·obtain⟨hcode,g,ln,hf1,hf2,hf3,hf4⟩:=hPI.head rfl
    have hnm:bm p x.1=ln.fab:=by rw[bm,hf1];dsimp only;rw[hf3]
    rw[tY]
    have hz0:aG (x.2.take 0)=[]:=by simp[aG]
    rw[hz0]at q6 hcl hoff
    rw[List.length_nil]at hcl hoff
    generalize fm L i 0=C at *
    generalize bN p 0 (L.take i)=S0 at *
    generalize cM y.fal.fag=EB at *
    generalize aG (aO (L.take i))=C0 at *
    have hix:IntKind.i64.wrap (((S0.map Ge.tr++[[Tr.str ln.fab,Tr.int .i64 y.fau,Tr.int .i64 0]]).length:Int) - 1)=(i:Int):=by
     rw[List.length_append,List.length_map,hS0];simp only[List.length_cons,List.length_nil];rw[IntWalk.i64_in _ (by omega)];omega
    have hil:i < (S0.map Ge.tr++[[Tr.str ln.fab,Tr.int .i64 y.fau,Tr.int .i64 0]]).length:=by
     rw[List.length_append,List.length_map,hS0];simp
    have hig:(S0.map Ge.tr++[[Tr.str ln.fab,Tr.int .i64 y.fau,Tr.int .i64 0]])[i]?=some [Tr.str ln.fab,Tr.int .i64 y.fau,Tr.int .i64 0]:=by
     rw[List.getElem?_append_right (by rw[List.length_map,hS0];exact Nat.le_refl _),List.length_map,hS0];simp
    have fin:∀(KK:List (List Tr)),KK=(S0.map Ge.tr++[[Tr.str ln.fab,Tr.int .i64 y.fau,Tr.int .i64 0]]).set i [Tr.str ln.fab,Tr.int .i64 y.fau,Tr.int .i64 (IntKind.i64.wrap (((C++EB).length:Int) - y.fau))]→KK=(iQ p L i' j').map Ge.tr:=fun KK h=>by
     rw[h,q6,hnm,List.set_append_right _ _ (by rw[List.length_map,hS0];exact Nat.le_refl _),List.length_map,hS0,Nat.sub_self,List.map_append,List.length_append,IntWalk.i64_in _ (by omega)]
     simp only[List.set_cons_zero,List.map_cons,List.map_nil,Ge.tr]
     congr 6 <;> (simp only[List.length_nil];omega)
    rcases hcode with hcode|hcode
    all_goals(
     repeat' ((conv=>whnf);first|apply Wx|apply W6|apply oi|(apply fi<;>intro h)|refine⟨_,rfl,hkm,?_⟩|refine⟨_,hgm,?_⟩|refine cl hE ?_|refine⟨g,ln.tr,hf2,ab hf3,?_⟩|refine⟨_,hix,hil,?_⟩|refine⟨_,hig,?_⟩|refine⟨_,rfl,?_⟩|exact rfl)
     all_goals try exact⟨KP⟩
     all_goals try exact KK
     all_goals try exact⟨by omega⟩
     all_goals try exact⟨⟨by simp only[List.length_nil,List.length_cons,List.length_map,hS0] <;> omega,by simp only[List.length_nil,List.length_cons,List.length_map,hS0] <;> omega⟩⟩
     all_goals(
      conv=>whnf
      refine⟨⟨(i',j'),q1,q2,q3⟩,?_,KD⟩
      repeat' ((conv=>whnf);first|apply Wx|apply W6|apply oi|(apply fi<;>intro h)|refine⟨_,rfl,?_⟩|exact rfl)
      all_goals try exact⟨KP⟩
      all_goals try exact⟨KW⟩
      all_goals try exact⟨by rw[q5]⟩
      all_goals try exact⟨fin _ rfl⟩
      all_goals exact⟨congrArg (Tr.int _) (by dsimp only;rw[IntWalk.i64_in _ (by omega)];omega)⟩))
   ·obtain⟨j,rfl⟩:∃j0,j=j0+1:=⟨j - 1,by omega⟩
    obtain⟨hcode,m,ln,hf2,hf3,hf4⟩:=hPI.body hj0
    rw[vF hx]
    generalize fm L i (j+1)=C at *
    generalize bN p 0 (L.take i)=S0 at *
    generalize cM y.fal.fag=EB at *
    generalize aG (aO (L.take i))=C0 at *
    generalize aG (x.2.take (j+1))=C1 at *
    have hix:IntKind.i64.wrap ((((S0++[(⟨bm p x.1,(C0.length:Int),(C1.length:Int)⟩:Ge)]).map Ge.tr).length:Int) - 1)=(i:Int):=by
     rw[List.length_map,List.length_append,hS0];simp only[List.length_cons,List.length_nil];rw[IntWalk.i64_in _ (by omega)];omega
    have hil:i < ((S0++[(⟨bm p x.1,(C0.length:Int),(C1.length:Int)⟩:Ge)]).map Ge.tr).length:=by
     rw[List.length_map,List.length_append,hS0];simp
    have hig:((S0++[(⟨bm p x.1,(C0.length:Int),(C1.length:Int)⟩:Ge)]).map Ge.tr)[i]?=some [Tr.str (bm p x.1),Tr.int .i64 (C0.length:Int),Tr.int .i64 (C1.length:Int)]:=by
     rw[List.getElem?_map,List.getElem?_append_right (by rw[hS0];exact Nat.le_refl _),hS0];simp[Ge.tr]
    have fin:∀(KK:List (List Tr)),KK=((S0++[(⟨bm p x.1,(C0.length:Int),(C1.length:Int)⟩:Ge)]).map Ge.tr).set i [Tr.str (bm p x.1),Tr.int .i64 (C0.length:Int),Tr.int .i64 (IntKind.i64.wrap (((C++EB).length:Int) - (C0.length:Int)))]→KK=(iQ p L i' j').map Ge.tr:=fun KK h=>by
     rw[h,q6,List.map_append,List.set_append_right _ _ (by rw[List.length_map,hS0];exact Nat.le_refl _),List.length_map,hS0,Nat.sub_self,List.map_append,List.length_append,IntWalk.i64_in _ (by omega)]
     simp only[List.set_cons_zero,List.map_cons,List.map_nil,Ge.tr]
     congr 6;omega
    repeat' ((conv=>whnf);first|apply Wx|apply W6|apply oi|(apply fi<;>intro h)|refine⟨_,rfl,hkm,?_⟩|refine⟨_,hgm,?_⟩|refine cl hE ?_|refine⟨m,ln.tr,hf2,ab hf3,?_⟩|refine⟨_,hix,hil,?_⟩|refine⟨_,hig,?_⟩|refine⟨_,rfl,?_⟩|exact rfl)
    all_goals try exact⟨KP⟩
    all_goals try exact KK
    all_goals try exact⟨by omega⟩
    all_goals(
     conv=>whnf
     refine⟨⟨(i',j'),q1,q2,q3⟩,?_,KD⟩
     repeat' ((conv=>whnf);first|apply Wx|apply W6|apply oi|(apply fi<;>intro h)|refine⟨_,rfl,?_⟩|exact rfl)
     all_goals try exact⟨KP⟩
     all_goals try exact⟨KW⟩
     all_goals try exact⟨by rw[q5]⟩
     all_goals try exact⟨fin _ rfl⟩
     all_goals exact⟨congrArg (Tr.int _) (by dsimp only;rw[IntWalk.i64_in _ (by omega)];omega)⟩)
  ·have hil:i=L.length:=by omega
   subst hil
   have hj0:=he rfl
   subst hj0
   rw[BI,Cq,List.take_of_length_le (Nat.le_refl _)]
   repeat' ((conv=>whnf);first|apply Wx|apply W6|apply oi|(apply fi<;>intro h)|refine⟨_,rfl,?_⟩|exact rfl)
   all_goals try exact⟨KP⟩
   all_goals try(exfalso;simp only[List.length_map,decide_eq_true_eq]at h;omega)
 ·have hcf:aB p b image=⟨[],[]⟩:=by rw[aB,if_neg hc]
  have hpf:fG p b image=[]:=by rw[fG,if_neg hc]
  rw[hcf]
  rw[hpf]at hP
  repeat' ((conv=>whnf);first|apply Wx|apply W6|apply oi|(apply fi<;>intro h)|refine cl hP ?_|refine⟨_,rfl,?_⟩|exact rfl)
  all_goals try exact⟨KP⟩
  conv=>whnf
  refine⟨Unit,fun _=>⟨[(0,vP p),(6,.r (.c (.ptr (6,0,0) 0))),(7,.r (.c (.ptr (7,0,0) 0))),(8,.r (.c (.own (15,0,0)))),(9,tI .i64 0)],[((6,0,0),some (.box [.t (.str []),.nils 0])),((7,0,0),some (.box [.t (.str []),.own (7,0,1)])),((7,0,1),some (.arr true 3 [])),((15,0,0),some (.arr true 8 []))],[15,7,6]⟩,fun _=>0,(),?_,?_⟩
  ·skip
   repeat' ((conv=>whnf);first|apply Wx|apply W6|apply oi|(apply fi<;>intro h)|refine⟨_,rfl,?_⟩|exact rfl)
   all_goals try exact⟨KP⟩
  intro _
  repeat' ((conv=>whnf);first|apply Wx|apply W6|apply oi|(apply fi<;>intro h)|refine⟨_,rfl,?_⟩|exact rfl)
  all_goals try exact⟨KP⟩
  all_goals try(exfalso;simp at h;done)
theorem xk {p:List FX}(hs:ay 1048576 (.lst 4 (p.map FX.tr)))(f:Nat):(bm p f).length≤1048576:=by
 unfold bm
 split
 ·split
  ·rename_i g _ y hy
   have:=aA hs (List.mem_of_getElem? hy)
   simp only[FX.tr,aw,ay]at this
   omega
  ·simp
 ·simp
theorem pA {p:List FX}(hs:ay 1048576 (.lst 4 (p.map FX.tr))):∀(L:List (Nat×List Ga)) (at0:Int) (x:Ge),x∈bN p at0 L→x.fab.length≤1048576
 | [],_,_,h=>by cases h
 |(f,l)::L,at0,x,h=>by
  rw[bN]at h
  rcases List.mem_cons.1 h with rfl|h
  ·exact xk hs f
  ·exact pA hs L _ x h
theorem lN {p:List FX}{b:FO}{image:Int}(hs:ay 1048576 (.lst 4 (p.map FX.tr))):aw 1048576 (aB p b image).tr:=by
 rw[aB]
 split
 ·rename_i hc
  obtain⟨h1,h2,h3⟩:=hc
  obtain⟨h6,_⟩:=gA h1
  have hll:=jO p b image (an p).length 0 0
  have hal:=uf fun x (hx:x∈cu p b image (an p).length 0 0)=>(jI hs hx).1
  have hcl:=eW (aO (cu p b image (an p).length 0 0))
  have hal2:=Nat.mul_le_mul_left 2500 (show(cu p b image (an p).length 0 0).length≤6 by omega)
  refine⟨by simp only[ay];omega,?_,trivial⟩
  exact vL (by rw[iV];omega) fun x hx=>by
   have:=pA hs _ _ x hx
   simp only[Ge.tr,aw,ay]
   exact⟨by omega,trivial,trivial,trivial⟩
 ·simp[FU.tr,aw,ay,dz]
abbrev FM (x:Int×Int):Res:= .tup [.c (.t (.int .i64 x.1)),.c (.t (.int .i64 x.2))]
theorem pT (i0 i1:FU)(b0 b1 e:Int)(es:List Int)(hb0:0≤b0∧b0≤1000000)(hb1:0≤b1∧b1≤1000000)(hl0:i0.fac.length≤1048576)(hl1:i1.fac.length≤1048576):Sim.Spec Tryz.prog 135 [.agg (Gd.mk [i0,i1] [b0,b1] es).tr,tvI e] (FM (mU i0 i1 b0 b1 e)):=by
 refine aj hΓ ao Tryz.func135 rfl (by decide) rfl ?_
 have h2:([i0.tr,i1.tr]:List (List Tr)).length=2:=rfl
 generalize hR:mU i0 i1 b0 b1 e=R
 repeat' ((conv=>whnf);first|refine Or.inl ?_|apply oi|(apply fi<;>intro h)|refine⟨_,rfl,?_⟩|exact rfl)
 all_goals try exact⟨KO⟩
 conv=>whnf
 refine⟨{k:Nat // k≤2∧(1≤k→¬(b0≤e∧e < b0+i0.fac.length))∧(2≤k→¬(b1≤e∧e < b1+i1.fac.length))},fun k=>⟨[(1,tI .i64 e),(2,.r (.c (.ptr (2,0,0) 0))),(6,tI .i64 (k.1:Int))],[((2,0,0),some (.box (ta i0 i1 b0 b1 es)))],[2]⟩,fun k=>2 - k.1,⟨0,by omega,by omega,by omega⟩,?_,?_⟩
 ·skip
  repeat' ((conv=>whnf);first|refine Or.inl ?_|apply oi|(apply fi<;>intro h)|refine⟨_,rfl,?_⟩|exact rfl)
  all_goals try exact⟨KO⟩
 intro⟨k,hk,hk1,hk2⟩
 dsimp only
 by_cases hlt:k < 2
 ·obtain⟨i,b,hi,hb,hbb,hll,hyes,hno⟩:∃(i:FU) (b:Int),([i0.tr,i1.tr]:List (List Tr))[k]?=some i.tr∧([aa b0,aa b1]:List (List Tr))[k]?=some (aa b)∧(0≤b∧b≤1000000)∧i.fac.length≤1048576∧
    (b≤e∧e < b+i.fac.length→R=((k:Int),e - b))∧(¬(b≤e∧e < b+i.fac.length)→(1≤k+1→¬(b0≤e∧e < b0+i0.fac.length))∧(2≤k+1→¬(b1≤e∧e < b1+i1.fac.length))):=by
   have:k=0∨k=1:=by omega
   rcases this with rfl|rfl
   ·exact⟨i0,b0,rfl,rfl,hb0,hl0,fun h=>by rw[←hR,mU,if_pos h];rfl,fun h=>⟨fun _=>h,fun h2=>by omega⟩⟩
   ·exact⟨i1,b1,rfl,rfl,hb1,hl1,fun h=>by rw[←hR,mU,if_neg (hk1 (by omega)),if_pos h];rfl,fun h=>⟨fun _=>hk1 (by omega),fun _=>h⟩⟩
  by_cases hin:b≤e∧e < b+i.fac.length
  ·have hRR:=hyes hin
   have hws:IntKind.i64.wrap (e - b)=e - b:=IntWalk.i64_in _ (by omega)
   have hw3:IntKind.i64.wrap (b+(i.fac.length:Int))=b+i.fac.length:=IntWalk.i64_in _ (by omega)
   subst hRR
   repeat' ((conv=>whnf);first|refine Or.inl ?_|apply oi|(apply fi<;>intro h)|refine⟨k,i.tr,rfl,hi,?_⟩|refine⟨k,aa b,rfl,hb,?_⟩|refine⟨_,rfl,?_⟩|exact rfl)
   all_goals try exact⟨KO⟩
   all_goals first
    |(exfalso;have h':=of_decide_eq_false h;(try rw[hw3]at h');(try rw[h2]at h');omega)
    |(refine⟨congrArg (Tr.int _) ?_⟩;rw[hws])
  ·have hw3:IntKind.i64.wrap (b+(i.fac.length:Int))=b+i.fac.length:=IntWalk.i64_in _ (by omega)
   repeat' ((conv=>whnf);first|refine Or.inl ?_|apply oi|(apply fi<;>intro h)|refine⟨k,i.tr,rfl,hi,?_⟩|refine⟨k,aa b,rfl,hb,?_⟩|refine⟨_,rfl,?_⟩|exact rfl)
   all_goals try exact⟨KO⟩
   all_goals try(exfalso;first|(have h':=of_decide_eq_false h;rw[h2]at h';omega)|(rename_i a1;have c1:=of_decide_eq_true a1;have c2:=of_decide_eq_true h;rw[hw3]at c2;exact hin ⟨c1,c2⟩))
   all_goals conv=>whnf
   all_goals refine⟨⟨k+1,by omega,hno hin⟩,?_,KD⟩
   repeat' ((conv=>whnf);first|refine Or.inl ?_|apply oi|(apply fi<;>intro h)|refine⟨_,rfl,?_⟩|exact rfl)
   all_goals try exact⟨KO⟩
   all_goals exact⟨by dsimp only;rw[IntWalk.i64_in _ (by omega)];rfl⟩
 ·have hk2':k=2:=by omega
  subst hk2'
  have hRR:R=(-1,-1):=by rw[←hR,mU,if_neg (hk1 (by omega)),if_neg (hk2 (by omega))]
  subst hRR
  repeat' ((conv=>whnf);first|refine Or.inl ?_|apply oi|(apply fi<;>intro h)|refine⟨_,rfl,?_⟩|exact rfl)
  all_goals try exact⟨KO⟩
theorem rD {s:Gd}:(∃i0 i1 b0 b1,s=⟨[i0,i1],[b0,b1],s.faq⟩)∨(gg s=false∧¬(s.fam.length=2∧s.fao.length=2)):=by
 obtain⟨im,bs,es⟩:=s
 match im,bs with
 | [i0,i1],[b0,b1]=>exact .inl ⟨i0,i1,b0,b1,rfl⟩
 | [],_=>exact .inr ⟨rfl,by simp⟩
 | [_],_=>exact .inr ⟨rfl,by simp⟩
 | _::_::_::_,_=>exact .inr ⟨rfl,by simp⟩
 | [_,_],[]=>exact .inr ⟨rfl,by simp⟩
 | [_,_],[_]=>exact .inr ⟨rfl,by simp⟩
 | [_,_],_::_::_::_=>exact .inr ⟨rfl,by simp⟩
theorem tA (s:Gd)(hs:aw 1048576 s.tr):Sim.Spec Tryz.prog 89 [.agg s.tr] (rB (gg s)):=by
 rcases rD (s:=s)with⟨i0,i1,b0,b1,h⟩|⟨h,hn⟩
 ·rw[h]at hs ⊢
  exact rG i0 i1 b0 b1 s.faq hs
 ·rw[h]
  have l1:(s.fam.map FU.tr).length=s.fam.length:=by simp
  have l2:(s.fao.map aa).length=s.fao.length:=by simp
  refine aj hΓ ao Tryz.func89 rfl (by decide) rfl ?_
  repeat' ((conv=>whnf);first|refine Or.inl ?_|apply oi|(apply fi<;>intro h)|refine ci (aE _ _ _) (ai rfl (ai rfl (ai rfl trivial))) ?_|refine⟨_,rfl,?_⟩|exact rfl)
  all_goals try exact⟨KO⟩
  all_goals(exfalso;apply hn;(simp_all) <;> (constructor <;> omega))
theorem rO (i0 i1:FU)(b0 b1:Int)(es:List Int)(hs:aw 1048576 (Gd.mk [i0,i1] [b0,b1] es).tr):Sim.Spec Tryz.prog 65 [.agg (Gd.mk [i0,i1] [b0,b1] es).tr] (rB (mf i0 i1 b0 b1 es)):=by
 refine aj hΓ ao Tryz.func65 rfl (by decide) rfl ?_
 have hlen:(es.map aa).length=es.length:=by simp
 have hE:=bd es.length 1 6
 unfold mf
 cases hw:af es.length 1 6 with
 | false=>
  rw[hw]at hE
  repeat' ((conv=>whnf);first|refine Or.inl ?_|apply oi|(apply fi<;>intro h)|refine ci hE (ai KW (ai rfl (ai rfl trivial))) ?_|refine⟨_,rfl,?_⟩|exact rfl)
  all_goals try exact⟨KO⟩
  all_goals(exfalso;simp at h;done)
 | true=>
  rw[hw]at hE
  repeat' ((conv=>whnf);first|refine Or.inl ?_|apply oi|(apply fi<;>intro h)|refine ci hE (ai KW (ai rfl (ai rfl trivial))) ?_|refine⟨_,rfl,?_⟩|exact rfl)
  all_goals try exact⟨KO⟩
  all_goals try(exfalso;simp at h;done)
  have hsp:=hs
  simp only[Gd.tr,aw]at hsp
  have hsI:=hsp.1
  have hi0:aw 1048576 i0.tr:=aA hsI (by simp)
  have hi1:aw 1048576 i1.tr:=aA hsI (by simp)
  have hc0:i0.fac.length≤1048576:=by have:=hi0;simp only[FU.tr,aw,ay]at this;omega
  have hc1:i1.fac.length≤1048576:=by have:=hi1;simp only[FU.tr,aw,ay]at this;omega
  have hsy0:i0.fae.length≤1048576:=by have:=hi0;simp only[FU.tr,aw]at this;exact aI this.2.1
  have hsy1:i1.fae.length≤1048576:=by have:=hi1;simp only[FU.tr,aw]at this;exact aI this.2.1
  have hel:es.length≤1048576:=aI hsp.2.2.1
  rw[Bool.true_and]
  generalize hR:(bo i0 && (af b0 1 1000000 && (bo i1 && (af b1 1 1000000 && (!(fI i0 i1 b0 b1) && es.all fun e=>bA i0 b0 e || bA i1 b1 e)))))=R
  conv=>whnf
  refine⟨{k:Nat // k≤2∧(1≤k→bo i0=true∧af b0 1 1000000=true)∧(2≤k→bo i1=true∧af b1 1 1000000=true)},fun k=>⟨[(1,.r (.c (.ptr (1,0,0) 0))),(3,tI .i64 (k.1:Int))],[((1,0,0),some (.box (ta i0 i1 b0 b1 es)))],[1]⟩,fun k=>2 - k.1,⟨0,by omega,by omega,by omega⟩,?_,?_⟩
  ·skip
   repeat' ((conv=>whnf);first|refine Or.inl ?_|apply oi|(apply fi<;>intro h)|refine⟨_,rfl,?_⟩|exact rfl)
   all_goals try exact⟨KO⟩
  intro⟨k,hk,hk1,hk2⟩
  dsimp only
  by_cases hlt:k < 2
  ·obtain⟨i,b,hi,hb,hsi,hn1,hn2,hyes⟩:∃(i:FU) (b:Int),([i0.tr,i1.tr]:List (List Tr))[k]?=some i.tr∧([aa b0,aa b1]:List (List Tr))[k]?=some (aa b)∧aw 1048576 i.tr∧
     (bo i=false→R=false)∧(af b 1 1000000=false→R=false)∧(bo i=true→af b 1 1000000=true→(1≤k+1→bo i0=true∧af b0 1 1000000=true)∧(2≤k+1→bo i1=true∧af b1 1 1000000=true)):=by
    have:k=0∨k=1:=by omega
    rcases this with rfl|rfl
    ·exact⟨i0,b0,rfl,rfl,hi0,fun h=>by rw[←hR,h];rfl,fun h=>by rw[←hR,h];simp,fun h h'=>⟨fun _=>⟨h,h'⟩,fun h2=>by omega⟩⟩
    ·exact⟨i1,b1,rfl,rfl,hi1,fun h=>by rw[←hR,h];simp,fun h=>by rw[←hR,h];simp,fun h h'=>⟨fun _=>hk1 (by omega),fun _=>⟨h,h'⟩⟩⟩
   have hI:=uJ i hsi
   have hB:=bd b 1 1000000
   cases hio:bo i with
   | false=>
    rw[hio]at hI
    rw[hn1 hio]
    repeat' ((conv=>whnf);first|refine Or.inl ?_|apply oi|(apply fi<;>intro h)|refine⟨k,i.tr,rfl,hi,?_⟩|refine ci hI (ai (ai rfl (ai rfl trivial)) trivial) ?_|refine⟨_,rfl,?_⟩|exact rfl)
    all_goals try exact⟨KO⟩
    all_goals(exfalso;first|(have h':=of_decide_eq_false h;omega)|(simp at h;done))
   | true=>
    rw[hio]at hI
    cases hbo:af b 1 1000000 with
    | false=>
     rw[hbo]at hB
     rw[hn2 hbo]
     repeat' ((conv=>whnf);first|refine Or.inl ?_|apply oi|(apply fi<;>intro h)|refine⟨k,i.tr,rfl,hi,?_⟩|refine⟨k,aa b,rfl,hb,?_⟩|refine ci hI (ai (ai rfl (ai rfl trivial)) trivial) ?_|refine ci hB (ai rfl (ai rfl (ai rfl trivial))) ?_|refine⟨_,rfl,?_⟩|exact rfl)
     all_goals try exact⟨KO⟩
     all_goals(exfalso;first|(have h':=of_decide_eq_false h;omega)|(simp at h;done))
    | true=>
     rw[hbo]at hB
     repeat' ((conv=>whnf);first|refine Or.inl ?_|apply oi|(apply fi<;>intro h)|refine⟨k,i.tr,rfl,hi,?_⟩|refine⟨k,aa b,rfl,hb,?_⟩|refine ci hI (ai (ai rfl (ai rfl trivial)) trivial) ?_|refine ci hB (ai rfl (ai rfl (ai rfl trivial))) ?_|refine⟨_,rfl,?_⟩|exact rfl)
     all_goals try exact⟨KO⟩
     all_goals try(exfalso;first|(have h':=of_decide_eq_false h;omega)|(simp at h;done))
     conv=>whnf
     refine⟨⟨k+1,by omega,hyes hio hbo⟩,?_,KD⟩
     repeat' ((conv=>whnf);first|refine Or.inl ?_|apply oi|(apply fi<;>intro h)|refine⟨_,rfl,?_⟩|exact rfl)
     all_goals try exact⟨KO⟩
     all_goals exact⟨by dsimp only;rw[IntWalk.i64_in _ (by omega)];rfl⟩
  ·have hk2':k=2:=by omega
   subst hk2'
   obtain⟨g0,w0⟩:=hk1 (by omega)
   obtain⟨g1,w1⟩:=hk2 (by omega)
   have v0:=within_iff.1 w0
   have v1:=within_iff.1 w1
   rw[g0,g1,w0,w1,Bool.true_and,Bool.true_and,Bool.true_and,Bool.true_and]at hR
   have x0:IntKind.i64.wrap (b1+(i1.fac.length:Int))=b1+i1.fac.length:=IntWalk.i64_in _ (by omega)
   have x1:IntKind.i64.wrap (b0+(i0.fac.length:Int))=b0+i0.fac.length:=IntWalk.i64_in _ (by omega)
   cases ho:fI i0 i1 b0 b1 with
   | true=>
    rw[ho]at hR
    rw[fI,Bool.and_eq_true,Bool.and_eq_true,Bool.and_eq_true,decide_eq_true_eq,decide_eq_true_eq,decide_eq_true_eq,decide_eq_true_eq]at ho
    obtain⟨o1,o2,o3,o4⟩:=ho
    subst hR
    repeat' ((conv=>whnf);first|refine Or.inl ?_|apply oi|(apply fi<;>intro h)|refine⟨0,_,rfl,rfl,?_⟩|refine⟨1,_,rfl,rfl,?_⟩|refine⟨_,rfl,?_⟩|exact rfl)
    all_goals try exact⟨KO⟩
    all_goals(exfalso;first|(have h':=of_decide_eq_false h;(try rw[x0]at h');(try rw[x1]at h');omega)|(have h':=of_decide_eq_true h;omega))
   | false=>
    rw[ho,Bool.not_false,Bool.true_and]at hR
    have hno:¬(0 < i0.fac.length∧0 < i1.fac.length∧b0 < b1+i1.fac.length∧b1 < b0+i0.fac.length):=by
     intro⟨a,b,c,d⟩
     rw[fI,decide_eq_true a,decide_eq_true b,decide_eq_true c,decide_eq_true d]at ho
     cases ho
    have m0:=dB (imageOk_iff.1 g0).2 (by omega)
    have m1:=dB (imageOk_iff.1 g1).2 (by omega)
    have l0:=(imageOk_iff.1 g0).1
    have l1:=(imageOk_iff.1 g1).1
    repeat' ((conv=>whnf);first|refine Or.inl ?_|apply oi|(apply fi<;>intro h)|refine⟨0,_,rfl,rfl,?_⟩|refine⟨1,_,rfl,rfl,?_⟩|refine⟨_,rfl,?_⟩|exact rfl)
    all_goals try exact⟨KO⟩
    all_goals try(
     exfalso
     rename_i a1 a2 a3
     have c1:=of_decide_eq_true a1
     have c2:=of_decide_eq_true a2
     have c3:=of_decide_eq_true a3
     have c4:=of_decide_eq_true h
     rw[x0]at c3
     rw[x1]at c4
     exact hno ⟨by omega,by omega,c3,c4⟩)
    all_goals(
     conv=>whnf
     refine⟨{j:Nat // j≤es.length∧((es.drop j).all fun e=>bA i0 b0 e || bA i1 b1 e)=R},fun j=>⟨[(1,.r (.c (.ptr (1,0,0) 0))),(6,tI .i64 (j.1:Int))],[((1,0,0),some (.box (ta i0 i1 b0 b1 es)))],[1]⟩,fun j=>es.length - j.1,⟨0,by omega,hR⟩,?_,?_⟩
     ·skip
      repeat' ((conv=>whnf);first|refine Or.inl ?_|apply oi|(apply fi<;>intro h)|refine⟨_,rfl,?_⟩|exact rfl)
      all_goals try exact⟨KO⟩
     intro⟨j,hj,hr⟩
     dsimp only
     by_cases hjl:j < es.length
     ·obtain⟨e,he⟩:=ae hjl
      have hLoc:=pT i0 i1 b0 b1 e es (by omega) (by omega) hc0 hc1
      rw[cV he,List.all_cons,←zZ g0 g1 ho,zP]at hr
      by_cases c0:b0≤e∧e < b0+i0.fac.length
      ·have hl2:mU i0 i1 b0 b1 e=(0,e - b0):=by rw[mU,if_pos c0]
       rw[hl2]at hLoc hr
       rw[if_pos rfl]at hr
       have hS:=lg i0 (e - b0) hsy0
       have hrg:=ma i0.fae (e - b0)
       dsimp only at hr
       rw[mJ]at hr
       generalize dX i0.fae (e - b0)=K at *
       rcases hrg with rfl|⟨q0,q1⟩
       ·rw[show decide ((0:Int)≤-1)=false from rfl,Bool.false_and,Bool.false_and]at hr
        subst hr
        repeat' ((conv=>whnf);first|refine Or.inl ?_|apply oi|(apply fi<;>intro h)|refine⟨j,aa e,rfl,ab he,?_⟩|refine ci hLoc (ai (ai rfl (ai rfl (ai rfl trivial))) (ai rfl trivial)) ?_|refine⟨0,i0.tr,rfl,rfl,?_⟩|refine ci hS (ai (ai rfl (ai rfl trivial)) (ai rfl trivial)) ?_|refine⟨_,rfl,?_⟩|exact rfl)
        all_goals try exact⟨KO⟩
        all_goals(exfalso;first|(have h':=of_decide_eq_false h;rw[hlen]at h';omega)|(simp at h;done)|(have h':=of_decide_eq_true h;omega))
       ·obtain⟨n,rfl⟩:=Int.eq_ofNat_of_zero_le q0
        obtain⟨x,hx⟩:=ae (l:=i0.fae) (k:=n) (by omega)
        rw[Int.toNat_natCast,hx,decide_eq_true q0,Bool.true_and]at hr
        dsimp only at hr
        cases hxe:(x.fah==e - b0)with
        | false=>
         rw[hxe,Bool.false_and]at hr
         subst hr
         repeat' ((conv=>whnf);first|refine Or.inl ?_|apply oi|(apply fi<;>intro h)|refine⟨j,aa e,rfl,ab he,?_⟩|refine ci hLoc (ai (ai rfl (ai rfl (ai rfl trivial))) (ai rfl trivial)) ?_|refine⟨0,i0.tr,rfl,rfl,?_⟩|refine ci hS (ai (ai rfl (ai rfl trivial)) (ai rfl trivial)) ?_|refine⟨n,x.tr,rfl,ab hx,?_⟩|refine⟨_,rfl,?_⟩|exact rfl)
         all_goals try exact⟨KO⟩
         all_goals(exfalso;first|(have h':=of_decide_eq_false h;rw[hlen]at h';omega)|(have h':=of_decide_eq_true h;omega)|(simp only[bne,hxe]at h;simp at h;done))
        | true=>
         rw[hxe,Bool.true_and]at hr
         repeat' ((conv=>whnf);first|refine Or.inl ?_|apply oi|(apply fi<;>intro h)|refine⟨j,aa e,rfl,ab he,?_⟩|refine ci hLoc (ai (ai rfl (ai rfl (ai rfl trivial))) (ai rfl trivial)) ?_|refine⟨0,i0.tr,rfl,rfl,?_⟩|refine ci hS (ai (ai rfl (ai rfl trivial)) (ai rfl trivial)) ?_|refine⟨n,x.tr,rfl,ab hx,?_⟩|refine⟨_,rfl,?_⟩|exact rfl)
         all_goals try exact⟨KO⟩
         all_goals try(exfalso;first|(have h':=of_decide_eq_false h;rw[hlen]at h';omega)|(have h':=of_decide_eq_true h;omega)|(simp only[bne,hxe]at h;simp at h;done))
         conv=>whnf
         refine⟨⟨j+1,by omega,hr⟩,?_,KD⟩
         repeat' ((conv=>whnf);first|refine Or.inl ?_|apply oi|(apply fi<;>intro h)|refine⟨_,rfl,?_⟩|exact rfl)
         all_goals try exact⟨KO⟩
         all_goals exact⟨by dsimp only;rw[IntWalk.i64_in _ (by omega)];rfl⟩
      ·by_cases c1:b1≤e∧e < b1+i1.fac.length
       ·have hl2:mU i0 i1 b0 b1 e=(1,e - b1):=by rw[mU,if_neg c0,if_pos c1]
        rw[hl2]at hLoc hr
        rw[if_neg (by simp),if_pos rfl]at hr
        have hS:=lg i1 (e - b1) hsy1
        have hrg:=ma i1.fae (e - b1)
        dsimp only at hr
        rw[mJ]at hr
        generalize dX i1.fae (e - b1)=K at *
        rcases hrg with rfl|⟨q0,q1⟩
        ·rw[show decide ((0:Int)≤-1)=false from rfl,Bool.false_and,Bool.false_and]at hr
         subst hr
         repeat' ((conv=>whnf);first|refine Or.inl ?_|apply oi|(apply fi<;>intro h)|refine⟨j,aa e,rfl,ab he,?_⟩|refine ci hLoc (ai (ai rfl (ai rfl (ai rfl trivial))) (ai rfl trivial)) ?_|refine⟨1,i1.tr,rfl,rfl,?_⟩|refine ci hS (ai (ai rfl (ai rfl trivial)) (ai rfl trivial)) ?_|refine⟨_,rfl,?_⟩|exact rfl)
         all_goals try exact⟨KO⟩
         all_goals(exfalso;first|(have h':=of_decide_eq_false h;rw[hlen]at h';omega)|(simp at h;done)|(have h':=of_decide_eq_true h;omega))
        ·obtain⟨n,rfl⟩:=Int.eq_ofNat_of_zero_le q0
         obtain⟨x,hx⟩:=ae (l:=i1.fae) (k:=n) (by omega)
         rw[Int.toNat_natCast,hx,decide_eq_true q0,Bool.true_and]at hr
         dsimp only at hr
         cases hxe:(x.fah==e - b1)with
         | false=>
          rw[hxe,Bool.false_and]at hr
          subst hr
          repeat' ((conv=>whnf);first|refine Or.inl ?_|apply oi|(apply fi<;>intro h)|refine⟨j,aa e,rfl,ab he,?_⟩|refine ci hLoc (ai (ai rfl (ai rfl (ai rfl trivial))) (ai rfl trivial)) ?_|refine⟨1,i1.tr,rfl,rfl,?_⟩|refine ci hS (ai (ai rfl (ai rfl trivial)) (ai rfl trivial)) ?_|refine⟨n,x.tr,rfl,ab hx,?_⟩|refine⟨_,rfl,?_⟩|exact rfl)
          all_goals try exact⟨KO⟩
          all_goals(exfalso;first|(have h':=of_decide_eq_false h;rw[hlen]at h';omega)|(have h':=of_decide_eq_true h;omega)|(simp only[bne,hxe]at h;simp at h;done))
         | true=>
          rw[hxe,Bool.true_and]at hr
          repeat' ((conv=>whnf);first|refine Or.inl ?_|apply oi|(apply fi<;>intro h)|refine⟨j,aa e,rfl,ab he,?_⟩|refine ci hLoc (ai (ai rfl (ai rfl (ai rfl trivial))) (ai rfl trivial)) ?_|refine⟨1,i1.tr,rfl,rfl,?_⟩|refine ci hS (ai (ai rfl (ai rfl trivial)) (ai rfl trivial)) ?_|refine⟨n,x.tr,rfl,ab hx,?_⟩|refine⟨_,rfl,?_⟩|exact rfl)
          all_goals try exact⟨KO⟩
          all_goals try(exfalso;first|(have h':=of_decide_eq_false h;rw[hlen]at h';omega)|(have h':=of_decide_eq_true h;omega)|(simp only[bne,hxe]at h;simp at h;done))
          conv=>whnf
          refine⟨⟨j+1,by omega,hr⟩,?_,KD⟩
          repeat' ((conv=>whnf);first|refine Or.inl ?_|apply oi|(apply fi<;>intro h)|refine⟨_,rfl,?_⟩|exact rfl)
          all_goals try exact⟨KO⟩
          all_goals exact⟨by dsimp only;rw[IntWalk.i64_in _ (by omega)];rfl⟩
       ·have hl2:mU i0 i1 b0 b1 e=(-1,-1):=by rw[mU,if_neg c0,if_neg c1]
        rw[hl2]at hLoc hr
        rw[if_neg (by simp),if_neg (by simp),Bool.false_and]at hr
        subst hr
        repeat' ((conv=>whnf);first|refine Or.inl ?_|apply oi|(apply fi<;>intro h)|refine⟨j,aa e,rfl,ab he,?_⟩|refine ci hLoc (ai (ai rfl (ai rfl (ai rfl trivial))) (ai rfl trivial)) ?_|refine⟨_,rfl,?_⟩|exact rfl)
        all_goals try exact⟨KO⟩
        all_goals(exfalso;first|(have h':=of_decide_eq_false h;rw[hlen]at h';omega)|(simp at h;done))
     ·have hge:es.length≤j:=by omega
      rw[List.drop_eq_nil_of_le hge,List.all_nil]at hr
      subst hr
      repeat' ((conv=>whnf);first|refine Or.inl ?_|apply oi|(apply fi<;>intro h)|refine⟨_,rfl,?_⟩|exact rfl)
      all_goals try exact⟨KO⟩
      all_goals(exfalso;have h':=of_decide_eq_true h;rw[hlen]at h';omega))
theorem tN (s:Gd)(hs:aw 1048576 s.tr):Sim.Spec Tryz.prog 65 [.agg s.tr] (rB (gg s)):=by
 rcases rD (s:=s)with⟨i0,i1,b0,b1,h⟩|⟨h,hn⟩
 ·rw[h]at hs ⊢
  exact rO i0 i1 b0 b1 s.faq hs
 ·rw[h]
  have l1:(s.fam.map FU.tr).length=s.fam.length:=by simp
  have l2:(s.fao.map aa).length=s.fao.length:=by simp
  refine aj hΓ ao Tryz.func65 rfl (by decide) rfl ?_
  repeat' ((conv=>whnf);first|refine Or.inl ?_|apply oi|(apply fi<;>intro h)|refine ci (bd _ _ _) (ai rfl (ai rfl (ai rfl trivial))) ?_|refine⟨_,rfl,?_⟩|exact rfl)
  all_goals try exact⟨KO⟩
  all_goals(exfalso;apply hn;(simp_all) <;> (constructor <;> omega))
theorem gf {p:List FX}{b:FO}{image:Int}(h6:(an p).length≤6):(aB p b image).fae.length≤6:=by
 unfold aB
 split
 ·dsimp only
  rw[iV]
  have:=jO p b image (an p).length 0 0
  omega
 ·simp
theorem nD {F:Nat→List Int}(h:∀f,(F f).length≤12):∀n,(dA F n).length≤12 * n
 | 0=>by simp[dA]
 | n+1=>by have:=nD h n;have:=h n;rw[dA,List.length_append];omega
theorem nQ {p:List FX}{b:FO}(hs:ay 1048576 (.lst 4 (p.map FX.tr)))(h6:(an p).length≤6){first second:Int}:aw 1048576 (eL p b first second).tr:=by
 have a0:=lN (b:=b) (image:=0) hs
 have a1:=lN (b:=b) (image:=1) hs
 have hi:∀ns:List Int,ns.length≤1048576→ay 1048576 (.lst 1 (ns.map aa)):=fun ns hn=>vL (by omega) fun x hx=>by simp[aa,aw,ay]
 refine⟨?_,hi _ (by simp[eL]),hi _ (by simp[eL,entries];omega),trivial⟩
 simp only[eL]
 rw[ay]
 exact⟨by simp,a0,a1,trivial⟩
theorem pY (p:List FX)(b:FO)(first second:Int)(hs:ay 1048576 (.lst 4 (p.map FX.tr))):Sim.Spec Tryz.prog 34 [tvP p,.agg b.tr,tvI first,tvI second] (.tup [.agg ((oSp (dQ p b first second)).tr.map zh),.c (.t (.bool (dQ p b first second).isSome))]):=by
 refine aJ hΓ ao Tryz.func34 rfl (by decide) rfl ?_
 have hP:=eA p hs
 have hB:=iL b
 cases h1:az p with
 | false=>
  rw[h1]at hP
  rw[show dQ p b first second=none by rw[dQ,if_neg (by rw[h1];simp)]]
  repeat' ((conv=>whnf);first|apply Wx|apply W6|apply oi|(apply fi<;>intro h)|refine cl hP ?_|refine cl hB ?_|refine⟨_,rfl,?_⟩|exact rfl)
  all_goals try exact⟨KP⟩
  all_goals try exact KX
 | true=>
  rw[h1]at hP
  cases h2:aU b with
  | false=>
   rw[h2]at hB
   rw[show dQ p b first second=none by rw[dQ,if_neg (by rw[h2];simp)]]
   repeat' ((conv=>whnf);first|apply Wx|apply W6|apply oi|(apply fi<;>intro h)|refine cl hP ?_|refine cl hB ?_|refine⟨_,rfl,?_⟩|exact rfl)
   all_goals try exact⟨KP⟩
   all_goals try exact KX
  | true=>
   rw[h2]at hB
   obtain⟨h6,h60⟩:=gA h1
   have hA0:=gx p b 0 hs
   have hA1:=gx p b 1 hs
   have gF:=cv p (by omega)
   have hfl:((an p).map fun n:Nat=>aa n).length=(an p).length:=by simp
   have hsp:=tN (eL p b first second) (nQ hs h6)
   repeat' ((conv=>whnf);first|(with_reducible apply W1;fail_if_success (with_reducible show Wo _ _ _ _ (Code.region 4 _ _) _ _))|(with_reducible first|apply W2|apply W3|apply W4|apply W5|apply W6|apply W7|apply W8|apply W9)|apply aZ|apply oi|(apply fi<;>intro h)|refine cl hP ?_|refine cl hB ?_|refine cl hA0 ?_|refine cl hA1 ?_|refine⟨_,rfl,?_⟩|exact rfl)
   all_goals try exact⟨KP⟩
   all_goals try exact KX
   all_goals try exact⟨dr _ (by intro x c hc sz rs e;subst e;simp[Ge.tr]at hc)⟩
   have hS0:(aB p b 0).fae.length≤6:=gf h6
   have hS1:(aB p b 1).fae.length≤6:=gf h6
   have hE:∀f,f < (an p).length→rU p b (aB p b 0) (aB p b 1) first second f=[kx p b first second f]:=fun f hf=>EH h1 h2 hf first second
   have hall:dA (rU p b (aB p b 0) (aB p b 1) first second) (an p).length=entries p b first second:=qH hE
   have hld:dQ p b first second=if gg (eL p b first second)=true then some (eL p b first second)else none:=by
    rw[dQ]
    by_cases hso:gg (eL p b first second)=true
    ·rw[if_pos hso,if_pos ⟨h1,h2,hso⟩]
    ·rw[if_neg hso,if_neg fun h=>hso h.2.2]
   have hcand:(eL p b first second).tr=[.lst 2 [(aB p b 0).tr,(aB p b 1).tr],.lst 1 [aa first,aa second],.lst 1 ((entries p b first second).map aa)]:=rfl
   rw[hld]
   generalize eL p b first second=cd at *
   generalize aB p b 0=i0 at *
   generalize aB p b 1=i1 at *
   have hEl:∀f,(rU p b i0 i1 first second f).length≤12:=fun f=>by
    unfold rU
    split
    ·have:=iz (bm p f) second i1.fae;omega
    ·have:=iz (bm p f) first i0.fae;omega
   have hEt:=nD hEl
   conv=>whnf
   refine pn ⟨[(0,vP p),(5,.r (.c (.ptr (5,0,0) 0))),(8,.r (.c (.ptr (8,0,0) 0))),(10,.r (.c (.ptr (10,0,0) 0)))],[((5,0,0),some (.box (b.tr.map .t))),((8,0,0),some (.box [.nils 0,.nils 0,.nils 0])),((10,0,0),some (.box [.own (10,0,1),.own (10,0,2),.own (10,0,3)])),((10,0,1),some (.arr true 2 [i0.tr,i1.tr])),((10,0,2),some (.arr true 1 [aa first,aa second])),((10,0,3),some (.arr true 1 []))],[10,8,5]⟩ ?_ ?_
   ·skip
    repeat' ((conv=>whnf);first|apply Wx|apply W6|apply oi|(apply fi<;>intro h)|refine⟨_,rfl,?_⟩|exact rfl)
    all_goals try exact⟨KP⟩
   repeat' ((conv=>whnf);first|apply Wx|apply W6|apply oi|(apply fi<;>intro h)|refine⟨_,rfl,?_⟩|exact rfl)
   all_goals try exact⟨KP⟩
   conv=>whnf
   refine⟨{f:Nat // f≤(an p).length},fun q=>⟨[(0,vP p),(5,.r (.c (.ptr (5,0,0) 0))),(8,.r (.c (.ptr (8,0,0) 0))),(10,.r (.c (.ptr (10,0,0) 0))),(11,tI .i64 (q.1:Int))],[((5,0,0),some (.box (b.tr.map .t))),((8,0,0),some (.box [.nils 0,.nils 0,.nils 0])),((10,0,0),some (.box [.own (10,0,1),.own (10,0,2),.own (10,0,3)])),((10,0,1),some (.arr true 2 [i0.tr,i1.tr])),((10,0,2),some (.arr true 1 [aa first,aa second])),((10,0,3),some (.arr true 1 ((dA (rU p b i0 i1 first second) q.1).map aa)))],[10,8,5]⟩,fun q=>(an p).length - q.1,⟨0,by omega⟩,?_,?_⟩
   ·skip
    repeat' ((conv=>whnf);first|apply Wx|apply W6|apply oi|(apply fi<;>intro h)|refine⟨_,rfl,?_⟩|exact rfl)
    all_goals try exact⟨KP⟩
   intro⟨f,hf⟩
   dsimp only
   have hef:=hEt f
   by_cases hlt:f < (an p).length
   ·obtain⟨g,hg⟩:=ae hlt
    obtain⟨ln,hln,_,hnm,_⟩:=pI h1 hg
    obtain⟨j,hj,hj1⟩:∃j:Nat,iJ b f=(j:Int)∧j≤1:=by
     rcases tn b f with e|e
     ·exact⟨0,by rw[e];rfl,by omega⟩
     ·exact⟨1,by rw[e];rfl,by omega⟩
    obtain⟨im,base,him,hbase,hes,hsy⟩:∃(im:FU) (base:Int),[i0.tr,i1.tr][j]?=some im.tr∧[aa first,aa second][j]?=some (aa base)∧rU p b i0 i1 first second f=eE ln.fab base im.fae∧im.fae.length≤6:=by
     rcases(show j=0∨j=1 by omega)with rfl|rfl
     ·exact⟨i0,first,rfl,rfl,by rw[rU,hj,if_neg (show ¬((0:Nat):Int)=1 by decide),hnm],hS0⟩
     ·exact⟨i1,second,rfl,rfl,by rw[rU,hj,if_pos (show((1:Nat):Int)=1 from rfl),hnm],hS1⟩
    have hand:=Bb ⟨f,by omega⟩
    dsimp only at hand
    have hjl:j < [i0.tr,i1.tr].length:=by simp;omega
    have hjb:j < [aa first,aa second].length:=by simp;omega
    have hfr:f < ((an p).map fun n:Nat=>aa n).length:=by omega
    have hfg:((an p).map fun n:Nat=>aa n)[f]?=some (aa (g:Int)):=by rw[List.getElem?_map,hg];rfl
    have hsl:(im.fae.map Ge.tr).length=im.fae.length:=by simp
    repeat' ((conv=>whnf);first|(with_reducible apply W1;fail_if_success (with_reducible show Wo _ _ _ _ (Code.seq (Code.region 8 _ _) _) _ _))|(with_reducible first|apply W2|apply W3|apply W4|apply W5|apply W6|apply W7|apply W8|apply W9)|apply aZ|apply oi|(apply fi<;>intro h)|refine cl gF ?_|refine⟨_,rfl,?_⟩|exact rfl)
    all_goals try exact⟨KP⟩
    all_goals try exact KX
    conv=>whnf
    refine ip Unit (fun _=>⟨[(0,vP p),(5,.r (.c (.ptr (5,0,0) 0))),(8,.r (.c (.ptr (8,0,0) 0))),(10,.r (.c (.ptr (10,0,0) 0))),(11,tI .i64 (f:Int)),(12,tI .i64 (j:Int))],[((5,0,0),some (.box (b.tr.map .t))),((8,0,0),some (.box [.nils 0,.nils 0,.nils 0])),((10,0,0),some (.box [.own (10,0,1),.own (10,0,2),.own (10,0,3)])),((10,0,1),some (.arr true 2 [i0.tr,i1.tr])),((10,0,2),some (.arr true 1 [aa first,aa second])),((10,0,3),some (.arr true 1 ((dA (rU p b i0 i1 first second) f).map aa)))],[10,8,5]⟩) ?_ ?_
    ·have hj2:=hj
     unfold iJ at hj2
     cases hsp2:b.fav with
     | true=>
      rw[hsp2,if_pos rfl]at hj2
      rw[hj2]at hand
      repeat' ((conv=>whnf);first|apply Wx|apply W6|apply oi|(apply fi<;>intro h)|refine⟨_,rfl,?_⟩|exact rfl)
      all_goals try exact⟨KP⟩
      all_goals(conv=>whnf)
      all_goals try(exfalso;rw[hsp2]at h;cases h;done)
      refine⟨(),?_⟩
      repeat' ((conv=>whnf);first|apply Wx|apply W6|apply oi|(apply fi<;>intro h)|refine⟨_,rfl,?_⟩|exact rfl)
      all_goals try exact⟨KP⟩
      all_goals exact⟨congrArg (Tr.int _) hand⟩
     | false=>
      rw[hsp2,if_neg (by simp)]at hj2
      repeat' ((conv=>whnf);first|apply Wx|apply W6|apply oi|(apply fi<;>intro h)|refine⟨_,rfl,?_⟩|exact rfl)
      all_goals try exact⟨KP⟩
      all_goals(conv=>whnf)
      all_goals try(exfalso;rw[hsp2]at h;cases h;done)
      refine⟨(),?_⟩
      repeat' ((conv=>whnf);first|apply Wx|apply W6|apply oi|(apply fi<;>intro h)|refine⟨_,rfl,?_⟩|exact rfl)
      all_goals try exact⟨KP⟩
      all_goals exact⟨congrArg (Tr.int _) hj2⟩
    intro _
    dsimp only
    repeat' ((conv=>whnf);first|apply Wx|apply W6|apply oi|(apply fi<;>intro h)|refine⟨_,rfl,?_⟩|exact rfl)
    all_goals try exact⟨KP⟩
    conv=>whnf
    refine⟨{k:Nat // k≤im.fae.length},fun q=>⟨[(0,vP p),(5,.r (.c (.ptr (5,0,0) 0))),(8,.r (.c (.ptr (8,0,0) 0))),(10,.r (.c (.ptr (10,0,0) 0))),(11,tI .i64 (f:Int)),(12,tI .i64 (j:Int)),(13,tI .i64 (q.1:Int))],[((5,0,0),some (.box (b.tr.map .t))),((8,0,0),some (.box [.nils 0,.nils 0,.nils 0])),((10,0,0),some (.box [.own (10,0,1),.own (10,0,2),.own (10,0,3)])),((10,0,1),some (.arr true 2 [i0.tr,i1.tr])),((10,0,2),some (.arr true 1 [aa first,aa second])),((10,0,3),some (.arr true 1 ((dA (rU p b i0 i1 first second) f++eE ln.fab base (im.fae.take q.1)).map aa)))],[10,8,5]⟩,fun q=>im.fae.length - q.1,⟨0,by omega⟩,?_,?_⟩
    ·skip
     repeat' ((conv=>whnf);first|apply Wx|apply W6|apply oi|(apply fi<;>intro h)|refine⟨_,rfl,?_⟩|exact rfl)
     all_goals try exact⟨KP⟩
     all_goals try exact⟨by simp[yV]⟩
    intro⟨k,hk⟩
    dsimp only
    by_cases hkl:k < im.fae.length
    ·obtain⟨y,hy⟩:=ae hkl
     have hks:k < (im.fae.map Ge.tr).length:=by omega
     have hyt:(im.fae.map Ge.tr)[k]?=some y.tr:=ab hy
     have hht:=vp (nm:=ln.fab) (b:=base) hy
     have hhl:=iz ln.fab base (im.fae.take k)
     rw[List.length_take]at hhl
     cases hq:(y.fab==ln.fab)with
     | true=>
      rw[hq,if_pos rfl]at hht
      repeat' ((conv=>whnf);first|apply Wx|apply W6|apply oi|(apply fi<;>intro h)|refine cl gF ?_|refine⟨j,rfl,hjl,?_⟩|refine⟨_,him,?_⟩|refine⟨k,y.tr,rfl,hyt,?_⟩|refine⟨f,rfl,hfr,?_⟩|refine⟨_,hfg,?_⟩|refine⟨g,ln.tr,rfl,ab hln,?_⟩|refine⟨j,rfl,hjb,?_⟩|refine⟨_,hbase,?_⟩|refine⟨_,rfl,?_⟩|exact rfl)
      all_goals try exact⟨KP⟩
      all_goals try exact KX
      all_goals try(exfalso;rw[hq]at h;cases h;done)
      all_goals try exact⟨⟨by simp <;> omega,by simp <;> omega⟩⟩
      conv=>whnf
      refine⟨⟨k+1,by omega⟩,?_,KD⟩
      repeat' ((conv=>whnf);first|apply Wx|apply W6|apply oi|(apply fi<;>intro h)|refine⟨_,rfl,?_⟩|exact rfl)
      all_goals try exact⟨KP⟩
      all_goals try exact⟨KW⟩
      all_goals exact⟨by dsimp only;rw[hht];simp[List.append_assoc,aa]⟩
     | false=>
      rw[hq,if_neg (by simp)]at hht
      repeat' ((conv=>whnf);first|apply Wx|apply W6|apply oi|(apply fi<;>intro h)|refine cl gF ?_|refine⟨j,rfl,hjl,?_⟩|refine⟨_,him,?_⟩|refine⟨k,y.tr,rfl,hyt,?_⟩|refine⟨f,rfl,hfr,?_⟩|refine⟨_,hfg,?_⟩|refine⟨g,ln.tr,rfl,ab hln,?_⟩|refine⟨j,rfl,hjb,?_⟩|refine⟨_,hbase,?_⟩|refine⟨_,rfl,?_⟩|exact rfl)
      all_goals try exact⟨KP⟩
      all_goals try exact KX
      all_goals try(exfalso;rw[hq]at h;cases h;done)
      conv=>whnf
      refine⟨⟨k+1,by omega⟩,?_,KD⟩
      repeat' ((conv=>whnf);first|apply Wx|apply W6|apply oi|(apply fi<;>intro h)|refine⟨_,rfl,?_⟩|exact rfl)
      all_goals try exact⟨KP⟩
      all_goals try exact⟨KW⟩
      all_goals exact⟨by dsimp only;rw[hht,List.append_nil]⟩
    ·obtain rfl:k=im.fae.length:=by omega
     rw[List.take_of_length_le (Nat.le_refl _),←hes]
     repeat' ((conv=>whnf);first|apply Wx|apply W6|apply oi|(apply fi<;>intro h)|refine⟨j,rfl,hjl,?_⟩|refine⟨_,him,?_⟩|refine⟨_,rfl,?_⟩|exact rfl)
     all_goals try exact⟨KP⟩
     all_goals try exact KX
     conv=>whnf
     refine⟨⟨f+1,by omega⟩,?_,KD⟩
     repeat' ((conv=>whnf);first|apply Wx|apply W6|apply oi|(apply fi<;>intro h)|refine⟨_,rfl,?_⟩|exact rfl)
     all_goals try exact⟨KP⟩
     all_goals try exact⟨KW⟩
   ·obtain rfl:f=(an p).length:=by omega
    rw[hall]
    cases hso:gg cd with
    | true=>
     rw[hso]at hsp
     rw[if_pos rfl]
     rw[hcand]at hsp
     simp only[oSp,hcand]
     repeat' ((conv=>whnf);first|apply Wx|apply W6|apply oi|(apply fi<;>intro h)|refine cl gF ?_|refine cl hsp ?_|refine⟨_,rfl,?_⟩|exact rfl)
     all_goals try exact⟨KP⟩
     all_goals try exact KX
    | false=>
     rw[hso]at hsp
     rw[if_neg (by simp)]
     rw[hcand]at hsp
     repeat' ((conv=>whnf);first|apply Wx|apply W6|apply oi|(apply fi<;>intro h)|refine cl gF ?_|refine cl hsp ?_|refine⟨_,rfl,?_⟩|exact rfl)
     all_goals try exact⟨KP⟩
     all_goals try exact KX
abbrev vIt (l:List FW):AV:= .r (.c (.t (.lst 7 (l.map FW.tr))))
theorem lj (l:List FW)(at0:Int)(hl:l.length≤2500)(h0:0≤at0∧at0≤200000)(hj:xC l)(hc:∀x∈l,x.far.length≤1000):bx Tryz.prog 158 [vIt l,tI .i64 at0] [] (.r (.c (.own (1,0,0)))) [((1,0,0),.dar 8 (ah ((cJ l at0).map Ga.tr)) none)]:=by
 refine aD hΓ ao Tryz.func158 rfl (by decide) rfl rfl ?_
 have hlen:(l.map FW.tr).length=l.length:=by simp
 have hsl:=lA at0 l
 have hle:=fun k (h:k≤l.length)=>eY (at0:=at0) h
 generalize hS:bT at0 l=S at *
 have hS0:atL S 0=at0:=by rw[←hS];exact fF at0 l
 have hsu:=fun k x (h:l[k]?=some x)=>eh (at0:=at0) h
 rw[hS]at hsu
 repeat' ((conv=>whnf);first|apply Wx|apply W6|apply oi|(apply fi<;>intro h)|refine⟨_,rfl,?_⟩|exact rfl)
 all_goals try exact⟨KP⟩
 conv=>whnf
 refine⟨{k:Nat // k≤l.length},fun k=>⟨[(0,vIt l),(15,vIt l),(16,tI .i64 ((l.map FW.tr).length:Int)),(17,tI .i64 (k.1:Int)),(7,tI .i64 (atL S k.1)),(6,.r (.c (.own (13,0,0)))),(5,.r (.c (.own (12,0,0))))],[((13,0,0),some (.arr true 1 ((S.take k.1).map aa))),((12,0,0),some (.arr true 8 []))],[13,12,0]⟩,fun k=>l.length - k.1,⟨0,by omega⟩,?_,?_⟩
 ·skip
  repeat' ((conv=>whnf);first|apply Wx|apply W6|apply oi|(apply fi<;>intro h)|refine⟨_,rfl,?_⟩|exact rfl)
  all_goals try exact⟨KP⟩
  all_goals try exact⟨by rw[hS0]⟩
 intro⟨k,hk⟩
 dsimp only
 have hlk:=hle k hk
 by_cases hlt:k < l.length
 ·obtain⟨x,hx⟩:=ae hlt
  have hz:=fT x.fag.fac
  have ho:=gl x.fag.fac
  have hs1:=hsu k x hx
  have hg:S[k]?=some (atL S k):=mH (by omega)
  repeat' ((conv=>whnf);first|apply Wx|apply W6|apply oi|(apply fi<;>intro h)|refine⟨k,x.tr,rfl,ab hx,?_⟩|refine cl ho ?_|refine⟨_,rfl,?_⟩|exact rfl)
  all_goals try exact⟨KP⟩
  all_goals try exact KX
  all_goals try exact⟨⟨by simp <;> omega,by simp <;> omega⟩⟩
  conv=>whnf
  refine⟨⟨k+1,by omega⟩,?_,KD⟩
  repeat' ((conv=>whnf);first|apply Wx|apply W6|apply oi|(apply fi<;>intro h)|refine⟨_,rfl,?_⟩|exact rfl)
  all_goals try exact⟨KP⟩
  all_goals try exact⟨KW⟩
  all_goals try exact⟨by rw[ck hg,List.map_append];rfl⟩
  all_goals try exact⟨congrArg (Tr.int .i64) (by rw[hs1,IntWalk.i64_in _ (by omega)])⟩
 ·have hkl:k=l.length:=by omega
  subst hkl
  have hg:S[l.length]?=some (atL S l.length):=mH (by omega)
  repeat' ((conv=>whnf);first|apply Wx|apply W6|apply oi|(apply fi<;>intro h)|refine⟨_,rfl,?_⟩|exact rfl)
  all_goals try exact⟨KP⟩
  all_goals try exact KX
  all_goals try exact⟨⟨by simp <;> omega,by simp <;> omega⟩⟩
  conv=>whnf
  refine⟨{k:Nat // k≤l.length},fun k=>⟨[(0,vIt l),(36,vIt l),(37,tI .i64 ((l.map FW.tr).length:Int)),(38,tI .i64 (k.1:Int)),(6,.r (.c (.own (35,0,0)))),(5,.r (.c (.own (12,0,0))))],[((35,0,0),some (.arr true 1 (S.map aa))),((12,0,0),some (.dar 8 (ah (((cJ l at0).take k.1).map Ga.tr)) none))],[35,12,0]⟩,fun k=>l.length - k.1,⟨0,by omega⟩,?_,?_⟩
  ·skip
   repeat' ((conv=>whnf);first|apply Wx|apply W6|apply oi|(apply fi<;>intro h)|refine⟨_,rfl,?_⟩|exact rfl)
   all_goals try exact⟨KP⟩
   all_goals exact⟨by rw[show [[Tr.int .i64 (atL S l.length)]]=[atL S l.length].map aa from rfl,←List.map_append,←ck hg,List.take_of_length_le (by omega)]⟩
  intro⟨k,hk⟩
  dsimp only
  have hfl:=dc l at0
  have hdl:(ah (((cJ l at0).take k).map Ga.tr)).length=k:=by rw[aR,List.length_map,List.length_take];omega
  have hml:(S.map aa).length=l.length+1:=by rw[List.length_map];exact hsl
  have mg:∀j,j≤l.length→(S.map aa)[j]?=some (aa (atL S j)):=fun j hj=>by rw[List.getElem?_map,mH (by omega)];rfl
  by_cases hlt:k < l.length
  ·obtain⟨x,hx⟩:=ae hlt
   have hxc:=hc x (List.mem_of_getElem? hx)
   have hcl:(x.far.map aa).length=x.far.length:=by simp
   have hpg:=dP (at0:=at0) hx
   rw[hS]at hpg
   have hw1:IntKind.i64.wrap ((k:Int)+1)=((k+1:Nat):Int):=by rw[IntWalk.i64_in _ (by omega)];rfl
   have hk0:k < (S.map aa).length:=by omega
   have hk1:k+1 < (S.map aa).length:=by omega
   have m0:=mg k (by omega)
   have m1:=mg (k+1) (by omega)
   have b1:=hle (k+1) (by omega)
   cases hjx:lI x with
   | true=>
    obtain⟨ja,jb⟩:=hj x (List.mem_of_getElem? hx) hjx
    have ha:x.fag.fak=((x.fag.fak.toNat:Nat):Int):=(Int.toNat_of_nonneg ja).symm
    have hal:x.fag.fak.toNat < (S.map aa).length:=by omega
    have m2:=mg x.fag.fak.toNat (by omega)
    have b2:=hle x.fag.fak.toNat (by omega)
    have hji:dZ S k x=so x (IntKind.i64.wrap (atL S x.fag.fak.toNat - atL S (k+1))):=by rw[dZ,if_pos hjx,IntWalk.i64_in _ (by omega)]
    rw[fc]at hjx
    repeat' ((conv=>whnf);first|apply Wx|apply W6|apply oi|(apply fi<;>intro h)|refine⟨k,x.tr,rfl,ab hx,?_⟩|refine⟨k,rfl,hk0,?_⟩|refine⟨k+1,hw1,hk1,?_⟩|refine⟨_,ha,hal,?_⟩|refine⟨_,m0,?_⟩|refine⟨_,m1,?_⟩|refine⟨_,m2,?_⟩|refine⟨_,rfl,?_⟩|exact rfl)
    all_goals try exact⟨KP⟩
    all_goals try exact KX
    all_goals try exact KK
    all_goals try exact⟨⟨by simp only[List.length_nil,List.length_cons,hcl,hdl] <;> omega,by simp only[List.length_nil,List.length_cons,hcl,hdl] <;> omega⟩⟩
    all_goals try exact⟨fj _⟩
    all_goals(
     conv=>whnf
     refine⟨⟨k+1,by omega⟩,?_,KD⟩
     repeat' ((conv=>whnf);first|apply Wx|apply W6|apply oi|(apply fi<;>intro h)|refine⟨_,rfl,?_⟩|exact rfl)
     all_goals try exact⟨KP⟩
     all_goals try exact⟨KW⟩
     all_goals try exact⟨by rw[ck hpg,hji,List.map_append,cC];rfl⟩)
   | false=>
    have hji:dZ S k x=x:=by rw[dZ,if_neg (by rw[hjx];simp)]
    have hjn:¬(x.fag.fac=10∨x.fag.fac=11):=by rw[←fc,hjx];simp
    repeat' ((conv=>whnf);first|apply Wx|apply W6|apply oi|(apply fi<;>intro h)|refine⟨k,x.tr,rfl,ab hx,?_⟩|refine⟨k,rfl,hk0,?_⟩|refine⟨_,m0,?_⟩|refine⟨_,rfl,?_⟩|exact rfl)
    all_goals try exact⟨KP⟩
    all_goals try exact KX
    all_goals try exact KK
    all_goals try exact⟨⟨by simp only[List.length_nil,List.length_cons,hcl,hdl] <;> omega,by simp only[List.length_nil,List.length_cons,hcl,hdl] <;> omega⟩⟩
    all_goals try exact⟨fj _⟩
    all_goals(
     conv=>whnf
     refine⟨⟨k+1,by omega⟩,?_,KD⟩
     repeat' ((conv=>whnf);first|apply Wx|apply W6|apply oi|(apply fi<;>intro h)|refine⟨_,rfl,?_⟩|exact rfl)
     all_goals try exact⟨KP⟩
     all_goals try exact⟨KW⟩
     all_goals try exact⟨by rw[ck hpg,hji,List.map_append,cC];rfl⟩)
  ·have hkl:k=l.length:=by omega
   subst hkl
   repeat' ((conv=>whnf);first|apply Wx|apply W6|apply oi|(apply fi<;>intro h)|refine⟨_,rfl,?_⟩|exact rfl)
   all_goals try exact⟨KP⟩
   all_goals try exact KX
   all_goals exact⟨by rw[List.take_of_length_le (by omega)]⟩
def oV (p:List FX)(k:Nat)(l:List Int):List Int:=
 let l1:=match endAt p k with|some e=>l.set e k|none=>l
 match elseAt p k with|some e=>l1.set e k|none=>l1
def jF (p:List FX):Nat→List Int
 | 0=>List.replicate p.length 0
 | n+1=>oV p n (jF p n)
theorem oN (p:List FX):∀n,(jF p n).length=p.length
 | 0=>by simp[jF]
 | n+1=>by
  rw[jF,oV]
  have:=oN p n
  cases endAt p n <;> cases elseAt p n <;> simp[this]
theorem yC {p:List FX}{i k:Nat}(h:endAt p i=some k∨elseAt p i=some k)(hk:k < p.length):∀n,i < n→(jF p n)[k]?=some (i:Int)
 | 0,hn=>by omega
 | n+1,hn=>by
  have hl:=oN p n
  rw[jF,oV]
  by_cases hin:i=n
  ·subst hin
   rcases h with h|h
   ·rw[h]
    dsimp only
    cases he:elseAt p i with
    | none=>dsimp only;rw[List.getElem?_set_self (by omega)]
    | some m=>
     dsimp only
     by_cases hm:m=k
     ·subst hm;rw[List.getElem?_set_self (by simp;omega)]
     ·rw[List.getElem?_set_ne hm,List.getElem?_set_self (by omega)]
   ·rw[h]
    dsimp only
    rw[List.getElem?_set_self (by cases endAt p i <;> simp <;> omega)]
  ·have ih:=yC h hk n (by omega)
   have own:∀m,(endAt p n=some m∨elseAt p n=some m)→m≠k:=by
    intro m hm e
    subst e
    have h1:aF p m=i:=by rcases h with h|h;exact ig h;exact oQ h
    have h2:aF p m=n:=by rcases hm with h|h;exact ig h;exact oQ h
    exact hin (h1.symm.trans h2)
   have key:((match endAt p n with|some e=>(jF p n).set e (n:Int)|none=>jF p n):List Int)[k]?=some (i:Int):=by
    cases he:endAt p n with
    | none=>exact ih
    | some m=>dsimp only;rw[List.getElem?_set_ne (own m (.inl he))];exact ih
   cases he:elseAt p n with
   | none=>exact key
   | some m=>dsimp only;rw[List.getElem?_set_ne (own m (.inr he))];exact key
theorem vb (p:List FX)(h60:p.length≤60):Sim.Spec Tryz.prog 267 [tvP p] (rL 1 ((jF p p.length).map aa)):=by
 refine aJ hΓ ao Tryz.func267 rfl (by decide) rfl ?_
 have hpl:(p.map FX.tr).length=p.length:=by simp
 have hm1:(((p.map FX.tr).length:Nat):Int)=(p.length:Int):=by rw[hpl]
 have hm2:p.length≤9223372036854775807:=by omega
 have hm3:p.length * 8≤140737488355328:=by omega
 repeat' ((conv=>whnf);first|apply Wx|apply W6|apply oi|(apply fi<;>intro h)|refine⟨p.length,hm1,hm1,hm2,hm3,?_⟩|refine⟨_,rfl,?_⟩|exact rfl)
 all_goals try exact⟨KP⟩
 conv=>whnf
 refine⟨{k:Nat // k≤p.length},fun q=>⟨[(0,vP p),(3,.r (.c (.own (3,0,0)))),(11,tI .i64 ((p.map FX.tr).length:Int)),(12,tI .i64 (q.1:Int))],[((3,0,0),some (.arr true 1 ((jF p q.1).map aa)))],[3]⟩,fun q=>p.length - q.1,⟨0,by omega⟩,?_,?_⟩
 ·skip
  repeat' ((conv=>whnf);first|apply Wx|apply W6|apply oi|(apply fi<;>intro h)|refine⟨_,rfl,?_⟩|exact rfl)
  all_goals try exact⟨KP⟩
  all_goals exact⟨by simp[jF,aa]⟩
 intro⟨k,hk⟩
 dsimp only at hk ⊢
 by_cases hlt:k < p.length
 ·have gE:=cH p (k:Int) (by omega)
  have gL:=ng p (k:Int) (by omega)
  have hol:=oN p k
  have hml:((jF p k).map aa).length=p.length:=by rw[List.length_map,hol]
  rw[bb]at gE
  rw[fg]at gL
  have hst:jF p (k+1)=oV p k (jF p k):=rfl
  have bh:∀{l:List Int} {e:Nat},e < l.length→∃v,(l.map aa)[e]?=some (aa v):=fun{l e} he=>⟨l[e],by rw[List.getElem?_map,List.getElem?_eq_getElem he];rfl⟩
  have hset:∀(l:List Int) (e:Nat),(l.map aa).set e [.int .i64 (k:Int)]=(l.set e (k:Int)).map aa:=fun l e=>by simp[List.map_set,aa]
  rw[oV]at hst
  cases he:endAt p k with
  | none=>
   rw[he]at gE hst
   cases hl:elseAt p k with
   | none=>
    rw[hl]at gL hst
    dsimp only at hst
    repeat' ((conv=>whnf);first|apply Wx|apply W6|apply oi|(apply fi<;>intro h)|refine cl gE ?_|refine cl gL ?_|refine⟨_,rfl,?_⟩|exact rfl)
    all_goals try exact⟨KP⟩
    all_goals try exact KX
    all_goals try(exfalso;simp[cp]at h;done)
    conv=>whnf
    refine⟨⟨k+1,by omega⟩,?_,KD⟩
    repeat' ((conv=>whnf);first|apply Wx|apply W6|apply oi|(apply fi<;>intro h)|refine⟨_,rfl,?_⟩|exact rfl)
    all_goals try exact⟨KP⟩
    all_goals try exact⟨KW⟩
    all_goals exact⟨by dsimp only;rw[hst]⟩
   | some m=>obtain⟨_,_,_,_,h,_⟩:=aW hl;rw[he]at h;cases h
  | some e=>
   obtain⟨_,_,_,_,_,hel⟩:=aC he
   have hel2:e < ((jF p k).map aa).length:=by omega
   obtain⟨v,hv⟩:=bh (l:=jF p k) (e:=e) (by omega)
   rw[he]at gE hst
   cases hl:elseAt p k with
   | none=>
    rw[hl]at gL hst
    dsimp only at hst
    repeat' ((conv=>whnf);first|apply Wx|apply W6|apply oi|(apply fi<;>intro h)|refine cl gE ?_|refine cl gL ?_|refine⟨e,rfl,hel2,?_⟩|refine⟨_,hv,?_⟩|refine⟨_,rfl,?_⟩|exact rfl)
    all_goals try exact⟨KP⟩
    all_goals try exact KX
    all_goals try(exfalso;simp[cp]at h;done)
    all_goals try(exfalso;rename_i h0;simp[cp]at h0;done)
    conv=>whnf
    refine⟨⟨k+1,by omega⟩,?_,KD⟩
    repeat' ((conv=>whnf);first|apply Wx|apply W6|apply oi|(apply fi<;>intro h)|refine⟨_,rfl,?_⟩|exact rfl)
    all_goals try exact⟨KP⟩
    all_goals try exact⟨KW⟩
    all_goals exact⟨by dsimp only;rw[hst,hset]⟩
   | some m=>
    obtain⟨_,_,_,_,_,_,hmm,z,hz,_⟩:=aW hl
    have hml2:=aL hz
    have hml3:m < (((jF p k).set e (k:Int)).map aa).length:=by simp;omega
    obtain⟨v2,hv2⟩:=bh (l:=(jF p k).set e (k:Int)) (e:=m) (by simp;omega)
    rw[←hset]at hml3 hv2
    rw[hl]at gL hst
    dsimp only at hst
    repeat' ((conv=>whnf);first|apply Wx|apply W6|apply oi|(apply fi<;>intro h)|refine cl gE ?_|refine cl gL ?_|refine⟨e,rfl,hel2,?_⟩|refine⟨_,hv,?_⟩|refine⟨m,rfl,hml3,?_⟩|refine⟨_,hv2,?_⟩|refine⟨_,rfl,?_⟩|exact rfl)
    all_goals try exact⟨KP⟩
    all_goals try exact KX
    all_goals try(exfalso;simp[cp]at h;done)
    all_goals try(exfalso;rename_i h0;simp[cp]at h0;done)
    conv=>whnf
    refine⟨⟨k+1,by omega⟩,?_,KD⟩
    repeat' ((conv=>whnf);first|apply Wx|apply W6|apply oi|(apply fi<;>intro h)|refine⟨_,rfl,?_⟩|exact rfl)
    all_goals try exact⟨KP⟩
    all_goals try exact⟨KW⟩
    all_goals exact⟨by dsimp only;rw[hst,hset,hset]⟩
 ·have hke:k=p.length:=by omega
  subst hke
  repeat' ((conv=>whnf);first|apply Wx|apply W6|apply oi|(apply fi<;>intro h)|refine⟨_,rfl,?_⟩|exact rfl)
  all_goals try exact⟨KP⟩
  all_goals try exact KX
theorem iO (b:FO):Sim.Spec Tryz.prog 78 [.agg b.tr] (rB (aU b)):=by
 refine aJ hΓ ao Tryz.func78 rfl (by decide) rfl ?_
 have h1:=aE b.fat 0 63
 have h2:=aE b.faj 0 3
 unfold aU
 generalize af b.fat 0 63=x at *
 generalize af b.faj 0 3=y at *
 cases x
 ·skip
  repeat' ((conv=>whnf);first|apply Wx|apply W6|apply oi|(apply fi<;>intro h)|refine cl h1 ?_|refine cl h2 ?_|refine⟨_,rfl,?_⟩|exact rfl)
  all_goals try exact⟨KP⟩
  all_goals try exact KX
 ·cases y
  ·skip
   repeat' ((conv=>whnf);first|apply Wx|apply W6|apply oi|(apply fi<;>intro h)|refine cl h1 ?_|refine cl h2 ?_|refine⟨_,rfl,?_⟩|exact rfl)
   all_goals try exact⟨KP⟩
   all_goals try exact KX
  ·skip
   repeat' ((conv=>whnf);first|apply Wx|apply W6|apply oi|(apply fi<;>intro h)|refine cl h1 ?_|refine cl h2 ?_|refine⟨_,rfl,?_⟩|exact rfl)
   all_goals try exact⟨KP⟩
   all_goals try exact KX
abbrev sD (a:Ex):List Tr:=[.lst 3 (a.toks.map Gf.tr)]
theorem nl:∀(n:Nat) (e:Ex),e.toks.length≤n→∀(l:List Gf) (p:Nat),l.length≤1048576→dq l→e.ok→fK l p e→Sim.Spec Tryz.prog 266 [tvL 3 (l.map Gf.tr),tvI p] (rL 3 (e.fold.toks.map Gf.tr))
 | 0,e,hn,_,_,_,_,_,_=>by have:=e.toks_pos;omega
 | n+1,.node t es,hn,l,p,hl,hsh,ho,hs=>by
  refine aJ hΓ ao Tryz.func266 rfl (by decide) rfl ?_
  have hlen:(l.map Gf.tr).length=l.length:=by simp
  have hle:=fk hs
  obtain⟨ht,hsa⟩:=fR hs
  have hO:=li l p t es hl hsh ho hs
  have hpl:((fv (p+1) es).map nR).length=es.length:=by rw[List.length_map,oy]
  rw[Ex.toks,List.length_cons]at hn hle
  rw[Ex.fold]
  have hfe:=mE es
  obtain⟨e1,e2⟩:=pi ho.1
  have hel:es.length=ar t:=ho.2.1
  repeat' ((conv=>whnf);first|apply Wx|apply W6|apply oi|(apply fi<;>intro h)|refine cl hO ?_|refine⟨p,t.tr,rfl,ab ht,?_⟩|refine⟨_,rfl,?_⟩|exact rfl)
  all_goals try exact⟨KP⟩
  conv=>whnf
  refine⟨{j:Nat // j≤es.length},fun q=>⟨[(0,.r (.c (.t (.lst 3 (l.map Gf.tr))))),(1,tI .i64 (p:Int)),(5,.r (.c (.ptr (5,0,0) 0))),(6,.r (.c (.own (21,0,1)))),(7,.r (.c (.own (21,0,2)))),(21,.r (.c (.own (21,0,0)))),(22,tI .i64 (((fv (p+1) es).map nR).length:Int)),(23,tI .i64 (q.1:Int))],
   [((5,0,0),some (.box (t.tr.map .t))),((21,0,1),some (.arr false 3 ((t::ak (aV (es.take q.1))).map Gf.tr))),((21,0,2),some (.arr false 1 ((aV (es.take q.1)).map sD))),((21,0,0),some (.arr true 1 ((fv (p+1) es).map nR)))],[21,5]⟩,fun q=>es.length - q.1,⟨0,by omega⟩,?_,?_⟩
  ·skip
   repeat' ((conv=>whnf);first|apply Wx|apply W6|apply oi|(apply fi<;>intro h)|refine⟨_,rfl,?_⟩|exact rfl)
   all_goals try exact⟨KP⟩
   all_goals first|exact⟨by simp[aV,ak];rfl⟩|exact⟨by simp[aV]⟩
  intro⟨j,hj⟩
  dsimp only at hj ⊢
  by_cases hlt:j < es.length
  ·obtain⟨a,ha⟩:=ae hlt
   obtain⟨q,hq,hqs⟩:=sF hsa ha
   have hal:=iD ha
   have hR:=nl n a (by omega) l q hl hsh (jZ ho.2.2 ha) hqs
   have hjl:j < ((fv (p+1) es).map nR).length:=by rw[hpl];exact hlt
   have hfa:=a.fold_le
   have hft:=cP (aV es) j
   rw[ml]at hft
   have hfl1:((t::ak (aV (es.take j))).map Gf.tr).length=1+(ak (aV (es.take j))).length:=by simp;omega
   have hfl2:(a.fold.toks.map Gf.tr).length=a.fold.toks.length:=by simp
   repeat' ((conv=>whnf);first|(with_reducible apply W1;fail_if_success (with_reducible show Wo _ _ _ _ (Code.region 8 _ _) _ _))|(with_reducible first|apply W2|apply W3|apply W4|apply W5|apply W6|apply W7|apply W8|apply W9)|apply aZ|apply oi|(apply fi<;>intro h)|refine cl hR ?_|refine⟨j,rfl,hjl,?_⟩|refine⟨(nR q),(ab hq),?_⟩|refine⟨_,rfl,?_⟩|exact rfl)
   all_goals try exact⟨KP⟩
   all_goals try exact KX
   conv=>whnf
   refine iE ⟨[(0,.r (.c (.t (.lst 3 (l.map Gf.tr))))),(1,tI .i64 (p:Int)),(5,.r (.c (.ptr (5,0,0) 0))),(6,.r (.c (.own (21,0,1)))),(7,.r (.c (.own (21,0,2)))),(10,.r (.c (.t (.lst 3 (a.fold.toks.map Gf.tr))))),(21,.r (.c (.own (21,0,0)))),(22,tI .i64 (((fv (p+1) es).map nR).length:Int)),(23,tI .i64 (j:Int))],
    [((5,0,0),some (.box (t.tr.map .t))),((21,0,1),some (.arr false 3 ((t::ak (aV (es.take j))).map Gf.tr))),((21,0,2),some (.arr false 1 ((aV (es.take j)).map sD))),((21,0,0),some (.arr true 1 ((fv (p+1) es).map nR)))],_⟩ ?_ ?_ rfl ?_
   ·refine⟨.inl rfl,.inl rfl,.inl rfl,.inl rfl,.inl rfl,.inr (.inl ⟨_,_,rfl,rfl,.inr (.inr ⟨_,rfl,rfl,?_⟩)⟩),.inl rfl,.inl rfl,.inl rfl,trivial⟩
    intro q hq;simp only[AC.ids,List.mem_cons,List.not_mem_nil,or_false]at hq;subst hq;rfl
   ·exact⟨.inr (.inl rfl),.inr (.inl rfl),.inr (.inl rfl),.inr (.inl rfl),trivial⟩
   have hfl4:((aV (es.take j)).map sD).length=j:=by rw[List.length_map,iM,List.length_take];omega
   repeat' ((conv=>whnf);first|apply Wx|apply W6|apply oi|(apply fi<;>intro h)|refine⟨_,rfl,?_⟩|exact rfl)
   all_goals try exact⟨KP⟩
   all_goals try exact⟨⟨by rw[hfl4];simp <;> omega,by rw[hfl4];simp <;> omega⟩⟩
   all_goals try exact⟨⟨by rw[hfl1,hfl2];(try dsimp only);omega,by rw[hfl1,hfl2];(try dsimp only);omega⟩⟩
   conv=>whnf
   refine⟨⟨j+1,by omega⟩,?_,KD⟩
   repeat' ((conv=>whnf);first|apply Wx|apply W6|apply oi|(apply fi<;>intro h)|refine⟨_,rfl,?_⟩|exact rfl)
   all_goals try exact⟨KP⟩
   all_goals try exact⟨KW⟩
   all_goals first|exact⟨by rw[kP ha,eK,kq];simp⟩|exact⟨by rw[kP ha];simp⟩
  ·have hje:j=es.length:=by omega
   subst hje
   rw[List.take_length]
   have hB:=aE t.faa 2 6
   have hFl:=iM es
   have hout:((t::ak (aV es)).map Gf.tr).length=1+(ak (aV es)).length:=by simp;omega
   generalize aV es=F at *
   cases hk:af t.faa 2 6 with
   | false=>
    rw[hk]at hB
    rw[ky (.inr hk),Ex.toks]
    repeat' ((conv=>whnf);first|apply Wx|apply W6|apply oi|(apply fi<;>intro h)|refine cl hB ?_|refine⟨_,rfl,?_⟩|exact rfl)
    all_goals try exact⟨KP⟩
    all_goals try exact KX
    all_goals exact⟨⟨rfl,bQ _⟩⟩
   | true=>
    rw[hk]at hB
    by_cases h2:(ak F).length=2
    ·obtain⟨f1,f2,rfl⟩:=DD (hFl.trans (hel.trans (Dn ho.1 hk)))
     rw[ak,kq,List.length_append]at h2
     have p1:=f1.toks_pos
     have p2:=f2.toks_pos
     obtain⟨a,rfl⟩:=sw (f:=f1) (by omega)
     obtain⟨b,rfl⟩:=sw (f:=f2) (by omega)
     have e3:t::ak [Ex.node a [],Ex.node b []]=[t,a,b]:=by simp[ak,Ex.toks]
     have e4:(Ex.node t [Ex.node a [],Ex.node b []]).toks=[t,a,b]:=by rw[Ex.toks];exact e3
     have e6:([Ex.node a [],Ex.node b []].map sD)=[[.lst 3 [a.tr]],[.lst 3 [b.tr]]]:=by simp[Ex.toks,ak]
     rw[e3,e6]
     have h1l:1 < ([t,a,b].map Gf.tr).length:=by simp
     have h2l:2 < ([t,a,b].map Gf.tr).length:=by simp
     have h0l:0 < [[Tr.lst 3 [a.tr]],[Tr.lst 3 [b.tr]]].length:=by simp
     have hAp:=wB t.faa a.fai b.fai
     have hB2:=aE (cN t.faa a.fai b.fai) 0 999
     rw[yG]
     by_cases hc:Cy t a b
     ·rw[if_pos hc]
      obtain⟨_,c1,c2,c3⟩:=hc
      rw[c3]at hB2
      have e5:(wC (cN t.faa a.fai b.fai)).toks=[⟨0,cN t.faa a.fai b.fai,[]⟩]:=by simp[wC,Ex.toks,ak]
      rw[e5]
      generalize cN t.faa a.fai b.fai=ap at *
      repeat' ((conv=>whnf);first|apply Wx|apply W6|apply oi|(apply fi<;>intro h)|refine cl hB ?_|refine⟨0,rfl,h0l,?_⟩|refine⟨[Tr.lst 3 [a.tr]],rfl,?_⟩|refine⟨1,rfl,h1l,?_⟩|refine⟨2,rfl,h2l,?_⟩|refine⟨a.tr,rfl,?_⟩|refine⟨b.tr,rfl,?_⟩|refine cl hAp ?_|refine cl hB2 ?_|refine⟨_,rfl,?_⟩|exact rfl)
      all_goals try exact⟨KP⟩
      all_goals try exact KX
      all_goals try(exfalso;simp_all;done)
     ·rw[if_neg hc,e4]
      have hc2:∀w,af (cN t.faa a.fai b.fai) 0 999=w→a.faa=0→b.faa=0→w=true→False:=fun w h1 h2 h3 h4=>hc ⟨hk,h2,h3,h1.trans h4⟩
      cases hw:af (cN t.faa a.fai b.fai) 0 999 with
      | true=>
       rw[hw]at hB2
       have hc3:=hc2 true hw
       generalize cN t.faa a.fai b.fai=ap at *
       repeat' ((conv=>whnf);first|apply Wx|apply W6|apply oi|(apply fi<;>intro h)|refine cl hB ?_|refine⟨0,rfl,h0l,?_⟩|refine⟨[Tr.lst 3 [a.tr]],rfl,?_⟩|refine⟨1,rfl,h1l,?_⟩|refine⟨2,rfl,h2l,?_⟩|refine⟨a.tr,rfl,?_⟩|refine⟨b.tr,rfl,?_⟩|refine cl hAp ?_|refine cl hB2 ?_|refine⟨_,rfl,?_⟩|exact rfl)
       all_goals try exact⟨KP⟩
       all_goals try exact KX
       all_goals try exact⟨⟨rfl,bQ _⟩⟩
       all_goals try(exfalso;simp_all;done)
      | false=>
       rw[hw]at hB2
       generalize cN t.faa a.fai b.fai=ap at *
       repeat' ((conv=>whnf);first|apply Wx|apply W6|apply oi|(apply fi<;>intro h)|refine cl hB ?_|refine⟨0,rfl,h0l,?_⟩|refine⟨[Tr.lst 3 [a.tr]],rfl,?_⟩|refine⟨1,rfl,h1l,?_⟩|refine⟨2,rfl,h2l,?_⟩|refine⟨a.tr,rfl,?_⟩|refine⟨b.tr,rfl,?_⟩|refine cl hAp ?_|refine cl hB2 ?_|refine⟨_,rfl,?_⟩|exact rfl)
       all_goals try exact⟨KP⟩
       all_goals try exact KX
       all_goals try exact⟨⟨rfl,bQ _⟩⟩
       all_goals try(exfalso;simp_all;done)
    ·rw[ky (.inl h2),Ex.toks]
     repeat' ((conv=>whnf);first|apply Wx|apply W6|apply oi|(apply fi<;>intro h)|refine cl hB ?_|refine⟨_,rfl,?_⟩|exact rfl)
     all_goals try exact⟨KP⟩
     all_goals try exact KX
     all_goals try exact⟨⟨rfl,bQ _⟩⟩
     all_goals try(exfalso;rw[hout]at *;simp at *;omega)
theorem rV (l:List Gf)(hl:l.length≤1048576)(hn:dq l):Sim.Spec Tryz.prog 250 [tvL 3 (l.map Gf.tr)] (rL 3 ((jY l).map Gf.tr)):=by
 refine aJ hΓ ao Tryz.func250 rfl (by decide) rfl ?_
 have hE:=nd l hl hn
 cases h:bi l with
 | false=>
  rw[h]at hE
  rw[px h]
  repeat' ((conv=>whnf);first|apply Wx|apply W6|apply oi|(apply fi<;>intro h)|refine cl hE ?_|refine⟨_,rfl,?_⟩|exact rfl)
  all_goals try exact⟨KP⟩
  all_goals try exact KX
 | true=>
  rw[h]at hE
  obtain⟨e,h1,h2,h3⟩:=pO h
  have hF:=nl e.toks.length e (Nat.le_refl _) l 0 hl hn h1 ⟨[],by rw[List.drop_zero,List.append_nil];exact h2⟩
  rw[h3]
  generalize e.fold.toks=r at *
  repeat' ((conv=>whnf);first|apply Wx|apply W6|apply oi|(apply fi<;>intro h)|refine cl hE ?_|refine cl hF ?_|refine⟨_,rfl,?_⟩|exact rfl)
  all_goals try exact⟨KP⟩
  all_goals try exact KX
theorem rK (x:FX)(hs:aw 1048576 x.tr):Sim.Spec Tryz.prog 249 [.agg x.tr] (.r (.agg (x.tr.map zh))):=by
 refine aJ hΓ ao Tryz.func249 rfl (by decide) rfl ?_
 obtain⟨h1,h2,h3,h4,h5⟩:=cD hs
 repeat' ((conv=>whnf);first|apply Wx|apply W6|apply oi|(apply fi<;>intro h)|refine⟨_,rfl,?_⟩|exact rfl)
 all_goals try exact⟨KP⟩
 all_goals try exact⟨⟨by simp <;> omega,by simp <;> omega⟩⟩
 all_goals try exact⟨⟨rfl,fd _⟩⟩
 all_goals try exact⟨⟨rfl,bQ _⟩⟩
theorem nX (l:List FX)(hs:ay 1048576 (.lst 4 (l.map FX.tr))):Sim.Spec Tryz.prog 218 [tvP l] (rL 4 ((dg l).map FX.tr)):=by
 refine aJ hΓ ao Tryz.func218 rfl (by decide) rfl ?_
 have hl:=aI hs
 have hP:=eu l hs
 have hlen:(l.map FX.tr).length=l.length:=by simp
 cases hpo:az l with
 | false=>
  rw[hpo]at hP
  have:dg l=[]:=by rw[dg,if_neg (by simp[hpo])]
  rw[this]
  repeat' ((conv=>whnf);first|apply Wx|apply W6|apply oi|(apply fi<;>intro h)|refine cl hP ?_|refine⟨_,rfl,?_⟩|exact rfl)
  all_goals try exact⟨KP⟩
  all_goals try exact KX
 | true=>
  rw[hpo]at hP
  have:dg l=l.map aN:=by rw[dg,if_pos hpo]
  rw[this]
  repeat' ((conv=>whnf);first|apply Wx|apply W6|apply oi|(apply fi<;>intro h)|refine cl hP ?_|refine⟨_,rfl,?_⟩|exact rfl)
  all_goals try exact⟨KP⟩
  all_goals try exact KX
  conv=>whnf
  refine⟨{k:Nat // k≤l.length},fun q=>⟨[(0,vP l),(3,.r (.c (.own (10,0,0)))),(11,vP l),(12,tI .i64 ((l.map FX.tr).length:Int)),(13,tI .i64 (q.1:Int))],[((10,0,0),some (.dar 4 (ah (((l.take q.1).map aN).map FX.tr)) none))],[10]⟩,fun q=>l.length - q.1,⟨0,by omega⟩,?_,?_⟩
  ·skip
   repeat' ((conv=>whnf);first|apply Wx|apply W6|apply oi|(apply fi<;>intro h)|refine⟨_,rfl,?_⟩|exact rfl)
   all_goals try exact⟨KP⟩
  intro⟨k,hk⟩
  dsimp only at hk ⊢
  have hdl:(ah (((l.take k).map aN).map FX.tr)).length=k:=by rw[aR,List.length_map,List.length_map,List.length_take];omega
  by_cases hlt:k < l.length
  ·obtain⟨x,hx⟩:=ae hlt
   have hsx:=aA hs (List.mem_of_getElem? hx)
   obtain⟨h1,h2,h3,h4,h5⟩:=cD hsx
   have hF:=rV x.fad h4 (fun y hy=>by have:=h5 y hy;omega)
   have hC:=rK x hsx
   have hel3:(x.fad.map Gf.tr).length=x.fad.length:=by simp
   have htk:=sK aN l k x hx
   by_cases hpos:0 < x.fad.length
   ·have hfl:aN x=⟨x.faa,x.fab,x.faf,jY x.fad⟩:=by rw[aN,if_pos hpos]
    repeat' ((conv=>whnf);first|apply Wx|apply W6|apply oi|(apply fi<;>intro h)|refine⟨k,x.tr,rfl,ab hx,?_⟩|refine cl hC ?_|refine cl hF ?_|refine⟨_,rfl,?_⟩|exact rfl)
    all_goals try exact⟨KP⟩
    all_goals try exact KX
    all_goals try exact⟨bQ _⟩
    all_goals try exact⟨fd _⟩
    all_goals try exact⟨⟨by rw[hdl];(try dsimp only);simp <;> omega,by rw[hdl];(try dsimp only);simp <;> omega⟩⟩
    all_goals try(exfalso;have h':=of_decide_eq_false h;rw[hel3]at h';omega)
    conv=>whnf
    refine⟨⟨k+1,by omega⟩,?_,KD⟩
    repeat' ((conv=>whnf);first|apply Wx|apply W6|apply oi|(apply fi<;>intro h)|refine⟨_,rfl,?_⟩|exact rfl)
    all_goals try exact⟨KP⟩
    all_goals try exact⟨KW⟩
    all_goals(refine⟨?_⟩;dsimp only;rw[htk,hfl];simp[ah,FX.tr])
   ·have hfl:aN x=x:=by rw[aN,if_neg hpos]
    repeat' ((conv=>whnf);first|apply Wx|apply W6|apply oi|(apply fi<;>intro h)|refine⟨k,x.tr,rfl,ab hx,?_⟩|refine cl hC ?_|refine⟨_,rfl,?_⟩|exact rfl)
    all_goals try exact⟨KP⟩
    all_goals try exact KX
    all_goals try exact⟨bQ _⟩
    all_goals try exact⟨fd _⟩
    all_goals try exact⟨⟨by rw[hdl];(try dsimp only);simp <;> omega,by rw[hdl];(try dsimp only);simp <;> omega⟩⟩
    all_goals try(exfalso;have h':=of_decide_eq_true h;rw[hel3]at h';omega)
    conv=>whnf
    refine⟨⟨k+1,by omega⟩,?_,KD⟩
    repeat' ((conv=>whnf);first|apply Wx|apply W6|apply oi|(apply fi<;>intro h)|refine⟨_,rfl,?_⟩|exact rfl)
    all_goals try exact⟨KP⟩
    all_goals try exact⟨KW⟩
    all_goals(refine⟨?_⟩;dsimp only;rw[htk,hfl];simp[ah,FX.tr])
  ·have hke:k=l.length:=by omega
   subst hke
   rw[List.take_length]
   repeat' ((conv=>whnf);first|apply Wx|apply W6|apply oi|(apply fi<;>intro h)|refine⟨_,rfl,?_⟩|exact rfl)
   all_goals try exact⟨KP⟩
   all_goals try exact KX
def ze (x:FW):FW:=⟨x.fag,x.fan,false,x.far,x.fas,x.faw⟩
def jo (pend:List Nat)(i:Nat)(x:FW):FW:=if pend.contains i=true then ze x else x
def oI (pend:List Nat):Nat→List FW→List FW
 | _,[]=>[]
 | i,x::l=>jo pend i x::oI pend (i+1) l
def clr (pend:List Nat)(l:List FW):List FW:=oI pend 0 l
theorem xO (pend:List Nat):∀(l:List FW) (i:Nat),(oI pend i l).length=l.length
 | [],_=>rfl
 | x::l,i=>by rw[oI,List.length_cons,List.length_cons,xO pend l]
theorem mA (pend:List Nat)(l:List FW):(clr pend l).length=l.length:=xO pend l 0
theorem xY (pend:List Nat):∀(l:List FW) (i j:Nat),(oI pend i l)[j]?=(l[j]?).map (jo pend (i+j))
 | [],i,j=>by simp[oI]
 | x::l,i,0=>by simp[oI]
 | x::l,i,j+1=>by
  rw[oI,List.getElem?_cons_succ,xY pend l,List.getElem?_cons_succ,show i+1+j=i+(j+1) by omega]
theorem eS (pend:List Nat)(l:List FW)(j:Nat):(clr pend l)[j]?=(l[j]?).map (jo pend j):=by
 rw[clr,xY,Nat.zero_add]
theorem rh (pend:List Nat):∀(a b:List FW) (i:Nat),oI pend i (a++b)=oI pend i a++oI pend (i+a.length) b
 | [],b,i=>by simp[oI]
 | x::a,b,i=>by
  rw[List.cons_append,oI,oI,rh pend a b,List.cons_append,List.length_cons,show i+1+a.length=i+(a.length+1) by omega]
theorem CD (pend:List Nat)(l:List FW)(x:FW):clr pend (l++[x])=clr pend l++[jo pend l.length x]:=by
 rw[clr,rh,Nat.zero_add]
 rfl
theorem Ds {x:FW}(h:x.fah=false):ze x=x:=by
 obtain⟨a,b,c,d,e,f⟩:=x
 simp only at h
 subst h
 rfl
theorem El (pend:List Nat)(l:List FW)(j:Nat)(x:FW):clr pend (l.set j x)=(clr pend l).set j (jo pend j x):=by
 apply List.ext_getElem?
 intro i
 rw[eS,List.getElem?_set,List.getElem?_set,mA,eS]
 by_cases h:j=i
 ·subst h
  rw[if_pos rfl,if_pos rfl]
  split <;> rfl
 ·rw[if_neg h,if_neg h]
theorem nW (pend:List Nat)(l:List FW)(j v:Int):clr pend (bK l j v)=bK (clr pend l) j v:=by
 unfold bK
 split
 ·rw[eS]
  cases hx:l[j.toNat]? with
  | none=>rfl
  | some x=>
   dsimp only[Option.map_some]
   rw[El]
   congr 1
   unfold jo
   split <;> rfl
 ·rfl
theorem wN (l:List FW):clr [] l=l:=by
 apply List.ext_getElem?
 intro i
 rw[eS]
 cases l[i]? <;> rfl
def Beg (b:Nat)(s:Gs):Prop:=b≤s.items.length∧(s.start=true↔s.items.length=b)
theorem Beg.emit {b:Nat}{s:Gs}(h:Beg b s)(C:Cx)(d code arg line:Int)(chain:List Int):Beg b (au C s d code arg line chain):=by
 obtain⟨h1,h2⟩:=h
 refine⟨by simp only[au,List.length_append,List.length_cons,List.length_nil];omega,?_⟩
 simp only[au,List.length_append,List.length_cons,List.length_nil]
 exact⟨fun h=>(by cases h),fun h=>by omega⟩
theorem Beg.off {b:Nat}{s s':Gs}(h:Beg b s)(h1:s.items.length < s'.items.length)(h2:s'.start=false):Beg b s':=by
 have:=h.1
 exact⟨by omega,by rw[h2];exact⟨fun h=>(by cases h),fun h=>by omega⟩⟩
theorem lB {b:Nat}{C:Cx}(y:Sc)(chain:List Int)(line:Int):∀(n:Nat) (d:Int) (s:Gs),Beg b s→Beg b (cz C y chain line n d s)
 | 0,d,s,h=>h
 | n+1,d,s,h=>by rw[cz];exact lB y chain line n (d - 1) _ (h.emit ..)
theorem om {b:Nat}{C:Cx}(y:Sc)(chain:List Int)(line d:Int):∀(n i:Nat) (s:Gs),Beg b s→Beg b (cT C y chain line d n i s)
 | 0,i,s,h=>h
 | n+1,i,s,h=>by rw[cT];exact om y chain line d n (i+1) _ ((h.emit ..).emit ..)
theorem uC {C:Cx}{x:Sc}{k:Nat}{last:Bool}{d:Int}{L:Ls}(h:L.g.start=false∨(x.outer=true∨last=false)):(aP C x k last d L).g.start=false:=by
 unfold aP
 split
 ·split <;> rfl
 ·split
  ·rename_i h1 h2
   rcases h with h|h|h
   ·exact h
   ·exact absurd h h1
   ·rw[h2]at h;cases h
  ·rfl
theorem vu {C:Cx}{rep:Sc→List Nat→Nat→Nat→Int→Gs→Gs}{x:Sc}{ins:List Nat}{base:Int}{k:Nat}{ln:FX}{L:Ls}(h:L.g.start=false):(dn C rep x ins base k ln L).g.start=false:=by
 unfold dn
 split
 ·rfl
 ·split
  ·split
   ·exact uC (.inl rfl)
   ·split
    ·rfl
    ·exact h
  ·dsimp only
   split
   ·rfl
   ·split
    ·rfl
    ·split
     ·exact uC (.inr (.inr rfl))
     ·rfl
theorem Cj {C:Cx}{x:Sc}{k:Nat}{ln:FX}{L:Ls}(h:L.g.start=false):(aS C x k ln L).g.start=false:=by
 unfold aS
 split <;> exact h
theorem yl {C:Cx}{rep:Sc→List Nat→Nat→Nat→Int→Gs→Gs}{x:Sc}{ins:List Nat}{base:Int}:∀(n k:Nat) (L:Ls),L.g.start=false→(jw C rep x ins base n k L).g.start=false
 | 0,k,L,h=>h
 | n+1,k,L,h=>by
  rw[jw]
  split
  ·exact yl n (k+1) _ (Cj (vu h))
  ·exact h
theorem ue {C:Cx}{rep:Sc→List Nat→Nat→Nat→Int→Gs→Gs}{x:Sc}{ins:List Nat}{base:Int}{s:Gs}(h:s.start=false):(aQ C rep x ins base s).1.start=false:=yl _ _ _ h
theorem nY {b:Nat}{C:Cx}{x:Sc}{line:Nat}{d:Int}{s:Gs}(h:Beg b s):Beg b (bO C x line d s)∧(bO C x line d s).start=false:=by
 unfold bO
 split
 ·exact⟨h.emit ..,rfl⟩
 ·rename_i hn;exact⟨h,by simpa using hn⟩
theorem yh {C:Cx}(hC:CxOk C):∀(lev:Nat) {x:Sc} {ins:List Nat} {b:Nat} (line g:Nat) (d:Int) (s:Gs),ScOk C x ins→bz C g→bU C ins g s.items.length=true→Beg b s→Beg b (aT C lev x ins line g d s)
 | 0,x,ins,b,line,g,d,s,hx,hg,hr,h=>h
 | lev+1,x,ins,b,line,g,d,s,hx,hg,hr,h=>by
  have hy:=kv hC hx line hg
  have h1:Beg b (dK C x line g d s):=by
   unfold dK
   exact om _ _ _ _ _ _ _ (lB _ _ _ _ _ _ ⟨h.1,h.2⟩)
  obtain⟨h2,h3⟩:=nY (C:=C) (x:=x) (line:=line) (d:=d - argsN C.p g) h1
  have hG:=gr (lev:=lev) (rep:=aT C lev) (fun line g d s hg hr=>cK hC lev line g d s hy hg hr) hC hy (d - argsN C.p g) (bO C x line (d - argsN C.p g) (dK C x line g d s))
  have hoff:=ue (C:=C) (rep:=aT C lev) (x:=bC C x line g) (ins:=ins++[g]) (base:=d - argsN C.p g) h3
  show Beg b (go C (aQ C (aT C lev)) x ins line g d s)
  unfold go
  have hb:=h2.2
  rw[h3]at hb
  have hne:(bO C x line (d - argsN C.p g) (dK C x line g d s)).items.length≠b:=fun e=>by have:=hb.2 e;cases this
  have hle:=h2.1
  have hge:=hG.ge
  refine⟨by dsimp only;rw[fa];omega,?_⟩
  dsimp only
  rw[fa,hoff]
  exact⟨fun h=>(by cases h),fun h=>by omega⟩
section
variable {C:Cx} {x:Sc} {ins:List Nat} {rep:Sc→List Nat→Nat→Nat→Int→Gs→Gs} {line b:Nat}
theorem CR (hrep:∀g d s,bz C g→bU C ins g s.items.length=true→Beg b s→Beg b (rep x ins line g d s))(t:Gf)(d:Int){s:Gs}(h:Beg b s):Beg b (iZ C rep x ins line t d s):=by
 unfold iZ
 split
 ·exact h.emit ..
 ·split
  ·exact h.emit ..
  ·split
   ·split
    ·rename_i g hg
     split
     ·rename_i hr
      obtain⟨_,ln,h1,h2,_⟩:=fe hg
      exact hrep g d s ⟨ln,h1,h2⟩ hr h
     ·exact h.emit ..
    ·exact h
   ·exact h.emit ..
mutual
theorem Dy (hrep:∀g d s,bz C g→bU C ins g s.items.length=true→Beg b s→Beg b (rep x ins line g d s)):∀(e:Ex) (d:Int) {s:Gs},Beg b s→Beg b (dJ C rep x ins line e d s)
 | .node t es,d,s,h=>by
  rw[dJ]
  exact CR hrep t _ (mv hrep es d h)
theorem mv (hrep:∀g d s,bz C g→bU C ins g s.items.length=true→Beg b s→Beg b (rep x ins line g d s)):∀(es:List Ex) (d:Int) {s:Gs},Beg b s→Beg b (da C rep x ins line es d s)
 | [],d,s,h=>h
 | a::es,d,s,h=>by
  rw[da]
  exact mv hrep es (d+1) (Dy hrep a d h)
end
end
def Keep (s s':Gs):Prop:=∀(j:Nat) (it:FW),s.items[j]?=some it→∃it',s'.items[j]?=some it'∧it'.fah=it.fah
theorem Keep.refl (s:Gs):Keep s s:=fun _ it h=>⟨it,h,rfl⟩
theorem Keep.trans {a b c:Gs}(h:Keep a b)(h':Keep b c):Keep a c:=fun j it hj=>by
 obtain⟨it1,h1,e1⟩:=h j it hj
 obtain⟨it2,h2,e2⟩:=h' j it1 h1
 exact⟨it2,h2,e2.trans e1⟩
theorem Keep.emit (C:Cx)(s:Gs)(d code arg line:Int)(chain:List Int):Keep s (au C s d code arg line chain):=fun j it hj=>by
 refine⟨it,?_,rfl⟩
 show(s.items++_)[j]?=_
 rw[List.getElem?_append_left (aL hj)]
 exact hj
theorem mj {l:List FW}{j v:Int}{i:Nat}{it:FW}(h:l[i]?=some it):∃it',(bK l j v)[i]?=some it'∧it'.fah=it.fah:=by
 unfold bK
 split
 ·split
  ·rename_i x hx
   by_cases hij:j.toNat=i
   ·subst hij
    rw[hx]at h
    injection h with h
    subst h
    exact⟨_,List.getElem?_set_self (aL hx),rfl⟩
   ·exact⟨it,by rw[List.getElem?_set_ne hij];exact h,rfl⟩
  ·exact⟨it,h,rfl⟩
 ·exact⟨it,h,rfl⟩
theorem lx {v:Int}:∀{js:List Int} {l:List FW} {i:Nat} {it:FW},l[i]?=some it→∃it',(cn l v js)[i]?=some it'∧it'.fah=it.fah
 | [],l,i,it,h=>⟨it,h,rfl⟩
 | j::js,l,i,it,h=>by
  obtain⟨it1,h1,e1⟩:=mj (j:=j) (v:=v) h
  obtain⟨it2,h2,e2⟩:=lx (v:=v) (js:=js) h1
  exact⟨it2,by rw[cn];exact h2,e2.trans e1⟩
theorem pD {C:Cx}(y:Sc)(chain:List Int)(line:Int):∀(n:Nat) (d:Int) (s:Gs),Keep s (cz C y chain line n d s)
 | 0,d,s=>Keep.refl s
 | n+1,d,s=>by rw[cz];exact(Keep.emit C s d _ _ _ _).trans (pD y chain line n (d - 1) _)
theorem rn {C:Cx}(y:Sc)(chain:List Int)(line d:Int):∀(n i:Nat) (s:Gs),Keep s (cT C y chain line d n i s)
 | 0,i,s=>Keep.refl s
 | n+1,i,s=>by rw[cT];exact((Keep.emit C s d _ _ _ _).trans (Keep.emit C _ (d+1) _ _ _ _)).trans (rn y chain line d n (i+1) _)
theorem qY {C:Cx}{x:Sc}(k:Nat)(last:Bool)(d:Int)(L:Ls):Keep L.g (aP C x k last d L).g:=by
 unfold aP
 split
 ·split
  ·exact Keep.emit _ _ _ _ _ _ _
  ·exact Keep.emit _ _ _ _ _ _ _
 ·split
  ·exact Keep.refl _
  ·exact Keep.emit _ _ _ _ _ _ _
section
variable {C:Cx} {rep:Sc→List Nat→Nat→Nat→Int→Gs→Gs}
theorem BG (hrep:∀x ins line g d s,Keep s (rep x ins line g d s))(x:Sc)(ins:List Nat)(line:Nat)(t:Gf)(d:Int)(s:Gs):Keep s (iZ C rep x ins line t d s):=by
 unfold iZ
 repeat' split
 all_goals first|exact Keep.emit _ _ _ _ _ _ _|exact hrep _ _ _ _ _ _|exact Keep.refl _
mutual
theorem wn (hrep:∀x ins line g d s,Keep s (rep x ins line g d s))(x:Sc)(ins:List Nat)(line:Nat):∀(e:Ex) (d:Int) (s:Gs),Keep s (dJ C rep x ins line e d s)
 | .node t es,d,s=>by rw[dJ];exact(tC hrep x ins line es d s).trans (BG hrep x ins line t _ _)
theorem tC (hrep:∀x ins line g d s,Keep s (rep x ins line g d s))(x:Sc)(ins:List Nat)(line:Nat):∀(es:List Ex) (d:Int) (s:Gs),Keep s (da C rep x ins line es d s)
 | [],d,s=>Keep.refl s
 | a::es,d,s=>by rw[da];exact(wn hrep x ins line a d s).trans (tC hrep x ins line es (d+1) _)
end
theorem Ab (hrep:∀x ins line g d s,Keep s (rep x ins line g d s))(x:Sc)(ins:List Nat)(base:Int)(k:Nat)(ln:FX)(L:Ls):Keep L.g (dn C rep x ins base k ln L).g:=by
 unfold dn
 split
 ·intro j it hj
  obtain⟨it1,h1,e1⟩:=Keep.emit C L.g base 10 0 k x.chain j it hj
  obtain⟨it2,h2,e2⟩:=mj (j:=atL L.pos (aF C.p k)) (v:=((au C L.g base 10 0 k x.chain).items.length:Int)) h1
  exact⟨it2,h2,e2.trans e1⟩
 ·split
  ·split
   ·exact(Keep.emit C L.g base 0 0 k x.chain).trans (qY k true (base+1) {L with g:=au C L.g base 0 0 k x.chain})
   ·split
    ·exact Keep.emit _ _ _ _ _ _ _
    ·exact Keep.refl _
  ·have h20:Keep L.g (dJ C rep x ins k (exL ln.fad) base ⟨L.g.items,L.g.most,true⟩):=fun j it hj=>wn hrep x ins k (exL ln.fad) base ⟨L.g.items,L.g.most,true⟩ j it hj
   dsimp only
   split
   ·exact h20.trans (Keep.emit _ _ _ _ _ _ _)
   ·split
    ·exact h20.trans (Keep.emit _ _ _ _ _ _ _)
    ·split
     ·exact h20.trans (qY k false (base+1) {L with g:=dJ C rep x ins k (exL ln.fad) base ⟨L.g.items,L.g.most,true⟩,heads:=L.heads.set k L.g.items.length})
     ·exact h20.trans (Keep.emit _ _ _ _ _ _ _)
theorem zz (x:Sc)(k:Nat)(ln:FX)(L:Ls):Keep L.g (aS C x k ln L).g:=by
 unfold aS
 split
 ·exact fun j it hj=>mj hj
 ·exact Keep.refl _
theorem qs (hrep:∀x ins line g d s,Keep s (rep x ins line g d s))(x:Sc)(ins:List Nat)(base:Int):∀(n k:Nat) (L:Ls),Keep L.g (jw C rep x ins base n k L).g
 | 0,k,L=>Keep.refl _
 | n+1,k,L=>by
  rw[jw]
  split
  ·rename_i ln _
   exact((Ab hrep x ins base k ln L).trans (zz x k ln _)).trans (qs hrep x ins base n (k+1) _)
  ·exact Keep.refl _
end
theorem vM {C:Cx}:∀(lev:Nat) (x:Sc) (ins:List Nat) (line g:Nat) (d:Int) (s:Gs),Keep s (aT C lev x ins line g d s)
 | 0,x,ins,line,g,d,s=>Keep.refl s
 | lev+1,x,ins,line,g,d,s=>by
  show Keep s (go C (aQ C (aT C lev)) x ins line g d s)
  unfold go
  have h1:Keep s (dK C x line g d s):=by
   unfold dK
   exact fun j it hj=>((pD _ _ _ _ _ _).trans (rn _ _ _ _ _ _ _)) j it hj
  have h2:Keep (dK C x line g d s) (bO C x line (d - argsN C.p g) (dK C x line g d s)):=by
   unfold bO
   split
   ·exact Keep.emit _ _ _ _ _ _ _
   ·exact Keep.refl _
  have h3:Keep (bO C x line (d - argsN C.p g) (dK C x line g d s)) (aQ C (aT C lev) (bC C x line g) (ins++[g]) (d - argsN C.p g) (bO C x line (d - argsN C.p g) (dK C x line g d s))).1:=qs (fun x ins line g d s=>vM lev x ins line g d s) _ _ _ _ _ (ce C _)
  intro j it hj
  obtain⟨it1,k1,e1⟩:=((h1.trans h2).trans h3) j it hj
  obtain⟨it2,k2,e2⟩:=lx (v:=((aQ C (aT C lev) (bC C x line g) (ins++[g]) (d - argsN C.p g) (bO C x line (d - argsN C.p g) (dK C x line g d s))).1.items.length:Int)) (js:=(aQ C (aT C lev) (bC C x line g) (ins++[g]) (d - argsN C.p g) (bO C x line (d - argsN C.p g) (dK C x line g d s))).2) k1
  exact⟨it2,k2,e2.trans e1⟩
def Mark (b:Nat)(s:Gs):Prop:=(s.start=true∧s.items.length=b)∨∃it,s.items[b]?=some it∧it.fah=true
theorem Mark.keep {b:Nat}{s s':Gs}(h:∃it,s.items[b]?=some it∧it.fah=true)(hk:Keep s s'):∃it,s'.items[b]?=some it∧it.fah=true:=by
 obtain⟨it,h1,h2⟩:=h
 obtain⟨it',h3,h4⟩:=hk b it h1
 exact⟨it',h3,h4.trans h2⟩
theorem Mark.emit {b:Nat}{s:Gs}(h:Mark b s)(C:Cx)(d code arg line:Int)(chain:List Int):Mark b (au C s d code arg line chain):=by
 rcases h with⟨h1,h2⟩|h
 ·refine .inr ⟨kQ C s d code arg line chain,?_,h1⟩
  show(s.items++[_])[b]?=_
  rw[←h2]
  simp
 ·exact .inr (Mark.keep h (Keep.emit _ _ _ _ _ _ _))
theorem oE {b:Nat}{C:Cx}(y:Sc)(chain:List Int)(line:Int):∀(n:Nat) (d:Int) (s:Gs),Mark b s→Mark b (cz C y chain line n d s)
 | 0,d,s,h=>h
 | n+1,d,s,h=>by rw[cz];exact oE y chain line n (d - 1) _ (h.emit ..)
theorem qQ {b:Nat}{C:Cx}(y:Sc)(chain:List Int)(line d:Int):∀(n i:Nat) (s:Gs),Mark b s→Mark b (cT C y chain line d n i s)
 | 0,i,s,h=>h
 | n+1,i,s,h=>by rw[cT];exact qQ y chain line d n (i+1) _ ((h.emit ..).emit ..)
theorem BZ {C:Cx}:∀(lev:Nat) {b:Nat} (x:Sc) (ins:List Nat) (line g:Nat) (d:Int) (s:Gs),Mark b s→Mark b (aT C lev x ins line g d s)
 | 0,b,x,ins,line,g,d,s,h=>h
 | lev+1,b,x,ins,line,g,d,s,h=>by
  show Mark b (go C (aQ C (aT C lev)) x ins line g d s)
  unfold go
  have h1:Mark b (dK C x line g d s):=by
   unfold dK
   exact qQ _ _ _ _ _ _ _ (oE _ _ _ _ _ _ h)
  have h2:∃it,(bO C x line (d - argsN C.p g) (dK C x line g d s)).items[b]?=some it∧it.fah=true:=by
   unfold bO
   split
   ·rcases Mark.emit h1 C (d - argsN C.p g) 15 0 line x.chain with⟨k,_⟩|k
    ·cases k
    ·exact k
   ·rename_i hn
    rcases h1 with⟨k,_⟩|k
    ·exact absurd k hn
    ·exact k
  have h3:=Mark.keep h2 (qs (C:=C) (rep:=aT C lev) (fun x ins line g d s=>vM lev x ins line g d s) (bC C x line g) (ins++[g]) (d - argsN C.p g) (jV C.p g - g) (g+1) (ce C _))
  obtain⟨it,k1,k2⟩:=h3
  obtain⟨it2,k3,e2⟩:=lx (v:=((aQ C (aT C lev) (bC C x line g) (ins++[g]) (d - argsN C.p g) (bO C x line (d - argsN C.p g) (dK C x line g d s))).1.items.length:Int)) (js:=(aQ C (aT C lev) (bC C x line g) (ins++[g]) (d - argsN C.p g) (bO C x line (d - argsN C.p g) (dK C x line g d s))).2) k1
  exact .inr ⟨it2,k3,e2.trans k2⟩
section
variable {C:Cx} {rep:Sc→List Nat→Nat→Nat→Int→Gs→Gs} {b:Nat}
theorem BB (hrep:∀x ins line g d s,Mark b s→Mark b (rep x ins line g d s))(x:Sc)(ins:List Nat)(line:Nat)(t:Gf)(d:Int)(s:Gs)(h:Mark b s):Mark b (iZ C rep x ins line t d s):=by
 unfold iZ
 repeat' split
 all_goals first|exact Mark.emit h ..|exact hrep _ _ _ _ _ _ h|exact h
mutual
theorem ws (hrep:∀x ins line g d s,Mark b s→Mark b (rep x ins line g d s))(x:Sc)(ins:List Nat)(line:Nat):∀(e:Ex) (d:Int) (s:Gs),Mark b s→Mark b (dJ C rep x ins line e d s)
 | .node t es,d,s,h=>by rw[dJ];exact BB hrep x ins line t _ _ (tz hrep x ins line es d s h)
theorem tz (hrep:∀x ins line g d s,Mark b s→Mark b (rep x ins line g d s))(x:Sc)(ins:List Nat)(line:Nat):∀(es:List Ex) (d:Int) (s:Gs),Mark b s→Mark b (da C rep x ins line es d s)
 | [],d,s,h=>h
 | a::es,d,s,h=>by rw[da];exact tz hrep x ins line es (d+1) _ (ws hrep x ins line a d s h)
end
end
theorem Cz {C:Cx}{lev:Nat}{x:Sc}{ins:List Nat}{line g:Nat}{d:Int}{s:Gs}{b:Nat}(h:Beg b s):(aT C (lev+1) x ins line g d s).start=false:=by
 show(go C (aQ C (aT C lev)) x ins line g d s).start=false
 unfold go
 have h1:Beg b (dK C x line g d s):=by
  unfold dK
  exact om _ _ _ _ _ _ _ (lB _ _ _ _ _ _ ⟨h.1,h.2⟩)
 exact ue (nY (C:=C) (x:=x) (line:=line) (d:=d - argsN C.p g) h1).2
end Go.Proofs.YtoglejgmjeojoaaGreat
namespace Go.Proofs.YtoglejgmjeojoaaGreat
open Go.Sim
set_option maxRecDepth 100000
set_option maxHeartbeats 4000000
structure Ib where
 f:Int
 e:Int
 locals:List (List UInt8)
 args:Int
 first:Int
 chain:List Int
 base:Int
abbrev ibB (q:Ib)(j:Sim.Id):AO:= .box [.t (.int .i64 q.f),.t (.int .i64 q.e),.t (.lst 1 (q.locals.map ag)),.t (.int .i64 q.args),.t (.int .i64 q.first),.t (.lst 1 (q.chain.map aa)),.t (.int .i64 q.base),.own j]
abbrev uB (C:Cx)(s:Gs)(d:Int)(i1 i2:Sim.Id):AO:= .box [.t (.lst 4 (C.p.map FX.tr)),.t (.int .i64 C.b.fat),.t (.int .i64 C.b.faj),.t (.bool C.b.fax),.t (.bool C.b.fav),.t (.bool C.framed),.t (.int .i64 C.words),.t (.int .i64 s.most),.own i1,.t (.int .i64 d),.own i2]
abbrev kK (ins:List Nat):List (List Tr):=ins.map fun n:Nat=>aa (n:Int)
abbrev ic (i1 i2 j:Sim.Id)(C:Cx)(pd:List Nat)(s:Gs)(d:Int)(ins:List Nat)(q:Ib)(lv:List Int):List (Sim.Id×AO):=
 [((0,0,0),uB C s d i1 i2),(i1,.dar 7 (itR (clr pd s.items)) none),(i2,.arr false 1 (kK ins)),((0,1,0),ibB q j),(j,.arr false 1 (lv.map aa))]
abbrev ibP:AV:= .r (.c (.ptr (0,1,0) 0))
structure IbOk (C:Cx) (x:Sc) (q:Ib):Prop where
 chain:q.chain=x.chain
 first:q.first=x.first
 locals:q.locals=x.locals
 args:x.outer=true→q.args=C.args
 out:x.outer=true↔x.chain=[]
 zero:x.outer=true→x.first=0
theorem CB {C:Cx}{pd:List Nat}{s:Gs}{d code arg line:Int}{chain:List Int}(h:s.start=true→s.items.length∈pd):clr pd (au C s d code arg line chain).items=clr pd s.items++[ze (kQ C s d code arg line chain)]:=by
 show clr pd (s.items++[_])=_
 rw[CD]
 congr 2
 unfold jo
 cases hs:s.start with
 | true=>rw[if_pos (List.contains_iff_mem.2 (h hs))]
 | false=>
  split
  ·rfl
  ·exact(Ds (by show s.start=false;exact hs)).symm
theorem bv (pd:List Nat)(l:List FW):(itR (clr pd l)).length=l.length:=by rw[ij,mA]
theorem bD (C:Cx)(pd:List Nat)(s:Gs)(d:Int)(ins:List Nat)(q:Ib)(lv:List Int)(line code arg change:Int)(h1:bl s)(h2:q.chain.length≤100)(h3:s.start=true→s.items.length∈pd)(h4:-2000≤d∧d≤2000)(h5:-100≤change∧change≤1000):
  bx Tryz.prog 251 [cL,ibP,tI .i64 line,tI .i64 code,tI .i64 arg,tI .i64 change] (ic (0,0,1) (0,0,2) (0,1,1) C pd s d ins q lv) (.tup []) (ic (1,0,1) (0,0,2) (0,1,1) C pd (au C s d code arg line q.chain) (d+change) ins q lv):=by
 refine aD hΓ ao Tryz.func251 rfl (by decide) rfl rfl ?_
 unfold bl at h1
 have hlen:=bv pd s.items
 have hcl:(q.chain.map aa).length=q.chain.length:=by simp
 have hfl:=fj q.chain
 have hem:=CB (C:=C) (pd:=pd) (s:=s) (d:=d) (code:=code) (arg:=arg) (line:=line) (chain:=q.chain) h3
 repeat' ((conv=>whnf);first|apply Wx|apply W6|apply oi|(apply fi<;>intro h)|refine⟨_,rfl,?_⟩|exact rfl)
 all_goals try exact⟨KP⟩
 all_goals try exact⟨⟨by rw[hlen];(try dsimp only);omega,by rw[hlen];(try dsimp only);omega⟩⟩
 all_goals try exact⟨⟨by simp <;> omega,by simp <;> omega⟩⟩
 all_goals try exact⟨by simpa using hfl⟩
 all_goals try exact⟨KW⟩
 all_goals(refine⟨?_⟩;rw[hem,xS];(try rw[hlen]at *);congr 1;simp_all[kQ,FW.tr,ze])
theorem qU (C:Cx)(pd:List Nat)(s:Gs)(d:Int)(ins:List Nat)(q:Ib)(lv:List Int)(y:Sc)(line i:Int)(hy:y.outer=false)(hf:q.first=y.first)(h1:bl s)(h2:q.chain.length≤100)(h3:s.start=true→s.items.length∈pd)(h4:-1000≤d∧d≤2000)(h5:0≤y.first∧y.first≤1000)(h6:-2≤i∧i≤100):
  bx Tryz.prog 276 [cL,ibP,tI .i64 line,tI .i64 i] (ic (0,0,1) (0,0,2) (0,1,1) C pd s d ins q lv) (.tup []) (ic (1,0,1) (0,0,2) (0,1,1) C pd (dp C y s d i line q.chain) (d - 1) ins q lv):=by
 refine aD hΓ ao Tryz.func276 rfl (by decide) rfl rfl ?_
 have g1:=bD C pd s d ins q lv line (bZ C true) (cw C y d i) (-1) h1 h2 h3 (by omega) (by omega)
 have hy2:jJ C y i=false:=by unfold jJ;rw[hy];rfl
 have hy3:eG C y i=y.first+i:=by unfold eG;rw[if_neg (by simp[hy])]
 have e1:IntKind.i64.wrap (q.first+i)=y.first+i:=by rw[hf,IntWalk.i64_in _ (by omega)]
 unfold dp
 cases hfm:C.framed with
 | true=>
  have e2:bZ C true=2:=by unfold bZ;rw[if_pos hfm];rfl
  have e3:cw C y d i=IntKind.i64.wrap (-1 - IntKind.i64.wrap (q.first+i)):=by unfold cw;rw[if_pos hfm,if_neg (by simp[hy2]),hy3,e1,IntWalk.i64_in _ (by omega)]
  rw[e2,e3]at g1
  rw[e2,e3]
  repeat' ((conv=>whnf);first|apply Wx|apply W6|refine cg g1 ?_|apply oi|(apply fi<;>intro h)|refine⟨_,rfl,?_⟩|exact rfl)
  all_goals try exact⟨KP⟩
  all_goals try(exfalso;rw[hfm]at h;cases h;done)
  all_goals try exact⟨KW⟩
 | false=>
  have e2:bZ C true=4:=by unfold bZ;rw[if_neg (by simp[hfm])];rfl
  have e3:cw C y d i=IntKind.i64.wrap (IntKind.i64.wrap (d - 1) - IntKind.i64.wrap (q.first+i)):=by unfold cw;rw[if_neg (by simp[hfm]),if_neg (by simp[hy2]),hy3,e1];simp(disch:=omega)only[IntWalk.i64_in]
  rw[e2,e3]at g1
  rw[e2,e3]
  repeat' ((conv=>whnf);first|apply Wx|apply W6|refine cg g1 ?_|apply oi|(apply fi<;>intro h)|refine⟨_,rfl,?_⟩|exact rfl)
  all_goals try exact⟨KP⟩
  all_goals try(exfalso;rw[hfm]at h;cases h;done)
  all_goals try exact⟨KW⟩
theorem ni (C:Cx)(hC:CxOk C)(pd:List Nat)(s:Gs)(d:Int)(ins:List Nat)(q:Ib)(lv:List Int)(x:Sc)(hq:IbOk C x q)(line i chg:Int)(store:Bool)(hch:chg=if store=true then -1 else 1)(h1:bl s)(h2:x.chain.length≤100)(h3:s.start=true→s.items.length∈pd)(h4:-1000≤d∧d≤1999)(h5:0≤x.first∧x.first≤1000)(h6:-2≤i∧i≤100):
  bx Tryz.prog 269 [cL,ibP,tI .i64 line,tI .i64 i,tB store] (ic (0,0,1) (0,0,2) (0,1,1) C pd s d ins q lv) (.tup []) (ic (1,0,1) (0,0,2) (0,1,1) C pd (au C s d (bZ C store) (cw C x d i) line x.chain) (d+chg) ins q lv):=by
 refine aD hΓ ao Tryz.func269 rfl (by decide) rfl rfl ?_
 obtain⟨a1,a2⟩:=hC.args
 obtain⟨qf,qe,ql,qa,qi,qc,qb⟩:=q
 obtain⟨xf,xc,xl,xi,xo⟩:=x
 obtain⟨q1,q2,q3,q4,q5,q6⟩:=hq
 dsimp only at q1 q2 q3 q4 q5 q6 h2 h5
 subst q1;subst q2;subst q3
 have g1:=bD C pd s d ins ⟨qf,qe,ql,qa,qi,qc,qb⟩ lv line (bZ C store) (cw C ⟨xf,qc,ql,qi,xo⟩ d i) chg h1 h2 h3 (by omega) (by subst hch;split <;> omega)
 cases xo with
 | true=>
  have e1:qc=[]:=q5.1 rfl
  have e2:=q4 rfl
  have e3:=q6 rfl
  subst e1;subst e2;subst e3
  cases store
  all_goals cases hfm:C.framed
  all_goals skip
  ·skip
   repeat' ((conv=>whnf);first|apply Wx|apply W6|refine cg g1 ?_|apply oi|(apply fi<;>intro h)|refine⟨_,rfl,?_⟩|exact rfl)
   all_goals try exact⟨KP⟩
   all_goals try(exfalso;rw[hfm]at h;cases h;done)
   all_goals try exact K3
   all_goals try exact⟨congrArg (Tr.int .i64) (by(try subst hch);(try unfold bZ);(try unfold cw jJ eG);(try simp(disch:=omega)only[IntWalk.i64_in]);simp_all <;> omega)⟩
  ·skip
   repeat' ((conv=>whnf);first|apply Wx|apply W6|refine cg g1 ?_|apply oi|(apply fi<;>intro h)|refine⟨_,rfl,?_⟩|exact rfl)
   all_goals try exact⟨KP⟩
   all_goals try(exfalso;rw[hfm]at h;cases h;done)
   all_goals try exact K3
   all_goals try exact⟨congrArg (Tr.int .i64) (by(try subst hch);(try unfold bZ);(try unfold cw jJ eG);(try simp(disch:=omega)only[IntWalk.i64_in]);simp_all <;> omega)⟩
  ·skip
   repeat' ((conv=>whnf);first|apply Wx|apply W6|refine cg g1 ?_|apply oi|(apply fi<;>intro h)|refine⟨_,rfl,?_⟩|exact rfl)
   all_goals try exact⟨KP⟩
   all_goals try(exfalso;rw[hfm]at h;cases h;done)
   all_goals try exact K3
   all_goals try exact⟨congrArg (Tr.int .i64) (by(try subst hch);(try unfold bZ);(try unfold cw jJ eG);(try simp(disch:=omega)only[IntWalk.i64_in]);simp_all <;> omega)⟩
  ·skip
   repeat' ((conv=>whnf);first|apply Wx|apply W6|refine cg g1 ?_|apply oi|(apply fi<;>intro h)|refine⟨_,rfl,?_⟩|exact rfl)
   all_goals try exact⟨KP⟩
   all_goals try(exfalso;rw[hfm]at h;cases h;done)
   all_goals try exact K3
   all_goals try exact⟨congrArg (Tr.int .i64) (by(try subst hch);(try unfold bZ);(try unfold cw jJ eG);(try simp(disch:=omega)only[IntWalk.i64_in]);simp_all <;> omega)⟩
 | false=>
  have hne:qc≠[]:=fun e=>by have:=q5.2 e;cases this
  obtain⟨c,cs,rfl⟩:∃c cs,qc=c::cs:=by
   cases qc with
   | nil=>exact absurd rfl hne
   | cons c cs=>exact⟨c,cs,rfl⟩
  have hcl:(((c::cs).map aa).length:Int)=(cs.length:Int)+1:=by simp
  cases store
  all_goals cases hfm:C.framed
  all_goals skip
  ·skip
   repeat' ((conv=>whnf);first|apply Wx|apply W6|refine cg g1 ?_|apply oi|(apply fi<;>intro h)|refine⟨_,rfl,?_⟩|exact rfl)
   all_goals try exact⟨KP⟩
   all_goals try(exfalso;rw[hfm]at h;cases h;done)
   all_goals try exact K3
   all_goals try exact⟨congrArg (Tr.int .i64) (by(try subst hch);(try unfold bZ);(try unfold cw jJ eG);(try simp(disch:=omega)only[IntWalk.i64_in]);simp_all <;> omega)⟩
  ·skip
   repeat' ((conv=>whnf);first|apply Wx|apply W6|refine cg g1 ?_|apply oi|(apply fi<;>intro h)|refine⟨_,rfl,?_⟩|exact rfl)
   all_goals try exact⟨KP⟩
   all_goals try(exfalso;rw[hfm]at h;cases h;done)
   all_goals try exact K3
   all_goals try exact⟨congrArg (Tr.int .i64) (by(try subst hch);(try unfold bZ);(try unfold cw jJ eG);(try simp(disch:=omega)only[IntWalk.i64_in]);simp_all <;> omega)⟩
  ·skip
   repeat' ((conv=>whnf);first|apply Wx|apply W6|refine cg g1 ?_|apply oi|(apply fi<;>intro h)|refine⟨_,rfl,?_⟩|exact rfl)
   all_goals try exact⟨KP⟩
   all_goals try(exfalso;rw[hfm]at h;cases h;done)
   all_goals try exact K3
   all_goals try exact⟨congrArg (Tr.int .i64) (by(try subst hch);(try unfold bZ);(try unfold cw jJ eG);(try simp(disch:=omega)only[IntWalk.i64_in]);simp_all <;> omega)⟩
  ·skip
   repeat' ((conv=>whnf);first|apply Wx|apply W6|refine cg g1 ?_|apply oi|(apply fi<;>intro h)|refine⟨_,rfl,?_⟩|exact rfl)
   all_goals try exact⟨KP⟩
   all_goals try(exfalso;rw[hfm]at h;cases h;done)
   all_goals try exact K3
   all_goals try exact⟨congrArg (Tr.int .i64) (by(try subst hch);(try unfold bZ);(try unfold cw jJ eG);(try simp(disch:=omega)only[IntWalk.i64_in]);simp_all <;> omega)⟩
end Go.Proofs.YtoglejgmjeojoaaGreat
