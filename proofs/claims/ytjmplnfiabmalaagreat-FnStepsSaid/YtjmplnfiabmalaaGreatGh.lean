import Derived.Test.YtjmplnfiabmalaaGreatGg
namespace Go.Proofs.YtjmplnfiabmalaaGreat
open Go.Sim
set_option maxRecDepth 100000
set_option maxHeartbeats 4000000
theorem dh {code:List UInt8}:∀{l:List HW} {seen:List HW} {a:Nat},dP code seen a l=true→a≤code.length→∀x∈l,(a:Int)≤x.fam∧1≤x.fau∧x.fam+x.fau≤code.length
 | [],_,_,_,_,x,hx=>by cases hx
 | y::l,seen,a,h,ha,x,hx=>by
  rw[dP,Bool.and_eq_true,sI,Bool.and_eq_true,imgPre_iff]at h
  obtain⟨⟨⟨p1,p2,p3,_⟩,_⟩,h2⟩:=h
  rcases List.mem_cons.1 hx with rfl|hx
  ·omega
  ·have:=dh h2 (by omega) x hx
   omega
theorem tN {code:List UInt8}:∀{l:List HW} {seen:List HW} {a j k:Nat} {x:HW},dP code seen a l=true→a≤code.length→code.length≤1000000→l[k]?=some x→dN x.fam l j=((j+k:Nat):Int)
 | [],_,_,_,_,_,_,_,_,hx=>by simp at hx
 | y::l,seen,a,j,k,x,h,ha,hc,hx=>by
  have hall:=dh h ha
  rw[dP,Bool.and_eq_true,sI,Bool.and_eq_true,imgPre_iff]at h
  obtain⟨⟨⟨p1,p2,p3,_⟩,_⟩,h2⟩:=h
  rw[dN]
  match k,hx with
  | 0,hx=>
   rw[List.getElem?_cons_zero]at hx
   injection hx with hx
   subst hx
   have hh:fo y.fam y=true:=by
    unfold fo
    rw[Bool.and_eq_true,Bool.and_eq_true,Bool.and_eq_true,within_iff,within_iff,decide_eq_true_eq,decide_eq_true_eq]
    omega
   rw[if_pos hh]
   rfl
  | k+1,hx=>
   rw[List.getElem?_cons_succ]at hx
   have h3:=dh h2 (by omega) x (List.mem_of_getElem? hx)
   have hh:¬fo x.fam y=true:=by
    unfold fo
    rw[Bool.and_eq_true,Bool.and_eq_true,Bool.and_eq_true,within_iff,within_iff,decide_eq_true_eq,decide_eq_true_eq]
    omega
   rw[if_neg hh,tN h2 (by omega) hc hx]
   congr 1
   omega
def be (i:HM)(b e:Int):Bool:=i.fak.any fun x=>b+x.fam==e
def ep (i0 i1:HM)(b0 b1 e:Int):Int×Int:=
 if b0≤e∧e < b0+i0.fab.length then(0,e - b0)else if b1≤e∧e < b1+i1.fab.length then(1,e - b1)else(-1,-1)
def mj (i:HM)(off:Int):Bool:=decide (0≤dQ i.fak off) && (match i.fak[(dQ i.fak off).toNat]? with|some x=>x.fam==off|none=>false)
theorem imageOk_iff {i:HM}:ba i=true↔i.fab.length≤1000000∧dP i.fab [] 0 i.fak=true:=by
 rw[ba,Bool.and_eq_true,decide_eq_true_eq]
theorem qw {i:HM}(h:ba i=true){off:Int}:mj i off=true↔∃x∈i.fak,x.fam=off:=by
 obtain⟨hc,ho⟩:=imageOk_iff.1 h
 unfold mj
 constructor
 ·intro h1
  rw[Bool.and_eq_true]at h1
  split at h1
  ·rename_i x hx
   exact⟨x,List.mem_of_getElem? hx,by simpa using h1.2⟩
  ·cases h1.2
 ·rintro⟨x,hx,rfl⟩
  obtain⟨k,hk⟩:=List.mem_iff_getElem?.1 hx
  have:=tN (j:=0) ho (by omega) hc hk
  rw[Nat.zero_add]at this
  rw[dQ,this,Int.toNat_natCast,hk]
  simp
def AS (i0 i1:HM)(b0 b1 e:Int):Bool:=
 if(ep i0 i1 b0 b1 e).1=0 then mj i0 (ep i0 i1 b0 b1 e).2 else if(ep i0 i1 b0 b1 e).1=1 then mj i1 (ep i0 i1 b0 b1 e).2 else false
def cG (i0 i1:HM)(b0 b1:Int):Bool:=decide (0 < i0.fab.length) && (decide (0 < i1.fab.length) && (decide (b0 < b1+i1.fab.length) && decide (b1 < b0+i0.fab.length)))
theorem As {i0 i1:HM}{b0 b1 e:Int}(h0:ba i0=true)(h1:ba i1=true)(ho:cG i0 i1 b0 b1=false):AS i0 i1 b0 b1 e=(be i0 b0 e || be i1 b1 e):=by
 have hno:¬(0 < i0.fab.length∧0 < i1.fab.length∧b0 < b1+i1.fab.length∧b1 < b0+i0.fab.length):=by
  intro⟨a,b,c,d⟩
  rw[cG,decide_eq_true a,decide_eq_true b,decide_eq_true c,decide_eq_true d]at ho
  cases ho
 have m0:=dh (imageOk_iff.1 h0).2 (by omega)
 have m1:=dh (imageOk_iff.1 h1).2 (by omega)
 have e0:∀{i:HM} {b:Int},be i b e=true↔∃x∈i.fak,b+x.fam=e:=by
  intro i b
  rw[be,List.any_eq_true]
  simp only[beq_iff_eq]
 rw[Bool.eq_iff_iff,Bool.or_eq_true,e0,e0,AS,ep]
 by_cases c0:b0≤e∧e < b0+i0.fab.length
 ·rw[if_pos c0,if_pos rfl,qw h0]
  constructor
  ·rintro⟨x,hx,h⟩
   exact .inl ⟨x,hx,by dsimp only at h;omega⟩
  ·rintro(⟨x,hx,h⟩|⟨x,hx,h⟩)
   ·exact⟨x,hx,by dsimp only;omega⟩
   ·have:=m1 x hx
    exfalso;apply hno;omega
 ·rw[if_neg c0]
  by_cases c1:b1≤e∧e < b1+i1.fab.length
  ·rw[if_pos c1,if_neg (by simp),if_pos rfl,qw h1]
   constructor
   ·rintro⟨x,hx,h⟩
    exact .inr ⟨x,hx,by dsimp only at h;omega⟩
   ·rintro(⟨x,hx,h⟩|⟨x,hx,h⟩)
    ·have:=m0 x hx
     exfalso;apply c0;omega
    ·exact⟨x,hx,by dsimp only;omega⟩
  ·rw[if_neg c1,if_neg (by decide),if_neg (by decide)]
   constructor
   ·intro h;cases h
   ·rintro(⟨x,hx,h⟩|⟨x,hx,h⟩)
    ·have:=m0 x hx
     exfalso;apply c0;omega
    ·have:=m1 x hx
     exfalso;apply c1;omega
def eD (i0 i1:HM)(b0 b1:Int)(es:List Int):Bool:=
 ah es.length 1 6 && (ba i0 && (ah b0 1 1000000 && (ba i1 && (ah b1 1 1000000 && (!(cG i0 i1 b0 b1) && es.all fun e=>be i0 b0 e || be i1 b1 e)))))
def bp (s:HV):Bool:=match s.faA,s.faB with
 | [i0,i1],[b0,b1]=>eD i0 i1 b0 b1 s.faq
 | _,_=>false
abbrev qU (i0 i1:HM)(b0 b1:Int)(es:List Int):List AC:=[.t (.lst 2 [i0.tr,i1.tr]),.t (.lst 1 [aa b0,aa b1]),.t (.lst 1 (es.map aa))]
theorem uz (i0 i1:HM)(b0 b1 e:Int)(es:List Int)(h0:∀x∈i0.fak,0≤x.fam∧x.fam≤1000000)(h1:∀x∈i1.fak,0≤x.fam∧x.fam≤1000000)(hb0:0≤b0∧b0≤1000000)(hb1:0≤b1∧b1≤1000000)(hl0:i0.fak.length≤1048576)(hl1:i1.fak.length≤1048576):Sim.Spec Tryz.prog 102 [.agg (HV.mk [i0,i1] [b0,b1] es).tr,tvI e] (rB (be i0 b0 e || be i1 b1 e)):=by
 refine ao hΓ ay Tryz.func102 rfl (by decide) rfl ?_
 repeat' ((conv=>whnf);first|refine Or.inl ?_|apply oi|(apply fi<;>intro h)|refine⟨_,rfl,?_⟩|exact rfl)
 all_goals try exact⟨KO⟩
 conv=>whnf
 refine⟨{k:Nat // k≤2∧(1≤k→be i0 b0 e=false)∧(2≤k→be i1 b1 e=false)},fun k=>⟨[(1,tI .i64 e),(2,.r (.c (.ptr (2,0,0) 0))),(10,.r (.c (.t (.lst 2 [i0.tr,i1.tr])))),(11,tI .i64 2),(12,tI .i64 (k.1:Int))],[((2,0,0),some (.box (qU i0 i1 b0 b1 es)))],[2]⟩,fun k=>2 - k.1,⟨0,by omega,by omega,by omega⟩,?_,?_⟩
 ·skip
  repeat' ((conv=>whnf);first|refine Or.inl ?_|apply oi|(apply fi<;>intro h)|refine⟨_,rfl,?_⟩|exact rfl)
  all_goals try exact⟨KO⟩
 intro⟨k,hk,hk1,hk2⟩
 dsimp only
 by_cases hlt:k < 2
 ·obtain⟨i,b,hi,hb,hst,hbb,hll,hyes,hno⟩:∃(i:HM) (b:Int),([i0.tr,i1.tr]:List (List Tr))[k]?=some i.tr∧([aa b0,aa b1]:List (List Tr))[k]?=some (aa b)∧(∀x∈i.fak,0≤x.fam∧x.fam≤1000000)∧(0≤b∧b≤1000000)∧i.fak.length≤1048576∧
    (be i b e=true→(be i0 b0 e || be i1 b1 e)=true)∧(be i b e=false→(1≤k+1→be i0 b0 e=false)∧(2≤k+1→be i1 b1 e=false)):=by
   have:k=0∨k=1:=by omega
   rcases this with rfl|rfl
   ·exact⟨i0,b0,rfl,rfl,h0,hb0,hl0,fun h=>by rw[h];rfl,fun h=>⟨fun _=>h,fun h2=>by omega⟩⟩
   ·exact⟨i1,b1,rfl,rfl,h1,hb1,hl1,fun h=>by rw[h];simp,fun h=>⟨fun _=>hk1 (by omega),fun _=>h⟩⟩
  have hlen:(i.fak.map HW.tr).length=i.fak.length:=by simp
  repeat' ((conv=>whnf);first|refine Or.inl ?_|apply oi|(apply fi<;>intro h)|refine⟨k,i.tr,rfl,hi,?_⟩|refine⟨_,rfl,?_⟩|exact rfl)
  all_goals try exact⟨KO⟩
  all_goals try(exfalso;have h':=of_decide_eq_false h;omega)
  conv=>whnf
  refine⟨{j:Nat // j≤i.fak.length∧((i.fak.take j).any fun x=>b+x.fam==e)=false},fun j=>⟨[(1,tI .i64 e),(2,.r (.c (.ptr (2,0,0) 0))),(5,tI .i64 (k:Int)),(10,.r (.c (.t (.lst 2 [i0.tr,i1.tr])))),(11,tI .i64 2),(12,tI .i64 (k:Int)),(18,.r (.c (.t (.lst 3 (i.fak.map HW.tr))))),(19,tI .i64 ((i.fak.map HW.tr).length:Int)),(20,tI .i64 (j.1:Int))],[((2,0,0),some (.box (qU i0 i1 b0 b1 es)))],[2]⟩,fun j=>i.fak.length - j.1,⟨0,by omega,rfl⟩,?_,?_⟩
  ·skip
   repeat' ((conv=>whnf);first|refine Or.inl ?_|apply oi|(apply fi<;>intro h)|refine⟨_,rfl,?_⟩|exact rfl)
   all_goals try exact⟨KO⟩
  intro⟨j,hj,hr⟩
  dsimp only
  by_cases hjl:j < i.fak.length
  ·obtain⟨x,hx⟩:=ag hjl
   have hxm:=List.mem_of_getElem? hx
   have hxs:=hst x hxm
   have hw1:IntKind.i64.wrap (b+x.fam)=b+x.fam:=IntWalk.i64_in _ (by omega)
   have hnext:((i.fak.take (j+1)).any fun x=>b+x.fam==e)=(b+x.fam==e):=by
    obtain⟨hk',rfl⟩:=List.getElem?_eq_some_iff.1 hx
    rw[List.take_succ_eq_append_getElem hk',List.any_append,hr,Bool.false_or]
    simp
   cases hxe:(b+x.fam==e)with
   | true=>
    have hall:=hyes (by rw[be,List.any_eq_true];exact⟨x,hxm,hxe⟩)
    repeat' ((conv=>whnf);first|refine Or.inl ?_|apply oi|(apply fi<;>intro h)|refine⟨j,x.tr,rfl,ab hx,?_⟩|refine⟨k,aa b,rfl,hb,?_⟩|refine⟨_,rfl,?_⟩|exact rfl)
    all_goals try exact⟨KO⟩
    all_goals first
     |(exfalso;have h':=of_decide_eq_false h;rw[hlen]at h';omega)
     | exact⟨by rw[hall]⟩
     |(exfalso;rw[hw1,hxe]at h;simp at h;done)
   | false=>
    rw[hxe]at hnext
    repeat' ((conv=>whnf);first|refine Or.inl ?_|apply oi|(apply fi<;>intro h)|refine⟨j,x.tr,rfl,ab hx,?_⟩|refine⟨k,aa b,rfl,hb,?_⟩|refine⟨_,rfl,?_⟩|exact rfl)
    all_goals try exact⟨KO⟩
    all_goals try(exfalso;first|(have h':=of_decide_eq_false h;rw[hlen]at h';omega)|(rw[hw1,hxe]at h;simp at h;done))
    conv=>whnf
    refine⟨⟨j+1,by omega,hnext⟩,?_,KD⟩
    repeat' ((conv=>whnf);first|refine Or.inl ?_|apply oi|(apply fi<;>intro h)|refine⟨_,rfl,?_⟩|exact rfl)
    all_goals try exact⟨KO⟩
    all_goals exact⟨by dsimp only;rw[IntWalk.i64_in _ (by omega)];rfl⟩
  ·have hjn:i.fak.length≤j:=by omega
   rw[List.take_of_length_le hjn]at hr
   have hnx:=hno hr
   repeat' ((conv=>whnf);first|refine Or.inl ?_|apply oi|(apply fi<;>intro h)|refine⟨_,rfl,?_⟩|exact rfl)
   all_goals try exact⟨KO⟩
   all_goals try(exfalso;have h':=of_decide_eq_true h;rw[hlen]at h';omega)
   conv=>whnf
   refine⟨⟨k+1,by omega,hnx⟩,?_,KD⟩
   repeat' ((conv=>whnf);first|refine Or.inl ?_|apply oi|(apply fi<;>intro h)|refine⟨_,rfl,?_⟩|exact rfl)
   all_goals try exact⟨KO⟩
   all_goals exact⟨by dsimp only;rw[IntWalk.i64_in _ (by omega)];rfl⟩
 ·have hk2':k=2:=by omega
  subst hk2'
  repeat' ((conv=>whnf);first|refine Or.inl ?_|apply oi|(apply fi<;>intro h)|refine⟨_,rfl,?_⟩|exact rfl)
  all_goals try exact⟨KO⟩
  all_goals exact⟨by rw[hk1 (by omega),hk2 (by omega)];rfl⟩
theorem rH (i0 i1:HM)(b0 b1:Int)(es:List Int)(hs:aC 1048576 (HV.mk [i0,i1] [b0,b1] es).tr):Sim.Spec Tryz.prog 29 [.agg (HV.mk [i0,i1] [b0,b1] es).tr] (rB (eD i0 i1 b0 b1 es)):=by
 refine ao hΓ ay Tryz.func29 rfl (by decide) rfl ?_
 have hlen:(es.map aa).length=es.length:=by simp
 have hE:=bm es.length 1 6
 unfold eD
 cases hw:ah es.length 1 6 with
 | false=>
  rw[hw]at hE
  repeat' ((conv=>whnf);first|refine Or.inl ?_|apply oi|(apply fi<;>intro h)|refine ci hE (ai KW (ai rfl (ai rfl trivial))) ?_|refine⟨_,rfl,?_⟩|exact rfl)
  all_goals try exact⟨KO⟩
  all_goals(exfalso;simp at h;done)
 | true=>
  rw[hw]at hE
  repeat' ((conv=>whnf);first|refine Or.inl ?_|apply oi|(apply fi<;>intro h)|refine ci hE (ai KW (ai rfl (ai rfl trivial))) ?_|refine⟨_,rfl,?_⟩|exact rfl)
  all_goals try exact⟨KO⟩
  all_goals try(exfalso;simp at h;done)
  have hsp:=hs
  simp only[HV.tr,aC]at hsp
  have hsI:=hsp.1
  have hi0:aC 1048576 i0.tr:=bd hsI (by simp)
  have hi1:aC 1048576 i1.tr:=bd hsI (by simp)
  have hc0:i0.fab.length≤1048576:=by have:=hi0;simp only[HM.tr,aC,aA]at this;omega
  have hc1:i1.fab.length≤1048576:=by have:=hi1;simp only[HM.tr,aC,aA]at this;omega
  have hsy0:i0.fak.length≤1048576:=by have:=hi0;simp only[HM.tr,aC]at this;exact ce this.2.1
  have hsy1:i1.fak.length≤1048576:=by have:=hi1;simp only[HM.tr,aC]at this;exact ce this.2.1
  have hel:es.length≤1048576:=ce hsp.2.2.1
  rw[Bool.true_and]
  generalize hR:(ba i0 && (ah b0 1 1000000 && (ba i1 && (ah b1 1 1000000 && (!(cG i0 i1 b0 b1) && es.all fun e=>be i0 b0 e || be i1 b1 e)))))=R
  conv=>whnf
  refine⟨{k:Nat // k≤2∧(1≤k→ba i0=true∧ah b0 1 1000000=true)∧(2≤k→ba i1=true∧ah b1 1 1000000=true)},fun k=>⟨[(1,.r (.c (.ptr (1,0,0) 0))),(27,tI .i64 2),(28,tI .i64 (k.1:Int))],[((1,0,0),some (.box (qU i0 i1 b0 b1 es)))],[1]⟩,fun k=>2 - k.1,⟨0,by omega,by omega,by omega⟩,?_,?_⟩
  ·skip
   repeat' ((conv=>whnf);first|refine Or.inl ?_|apply oi|(apply fi<;>intro h)|refine⟨_,rfl,?_⟩|exact rfl)
   all_goals try exact⟨KO⟩
  intro⟨k,hk,hk1,hk2⟩
  dsimp only
  by_cases hlt:k < 2
  ·obtain⟨i,b,hi,hb,hsi,hn1,hn2,hyes⟩:∃(i:HM) (b:Int),([i0.tr,i1.tr]:List (List Tr))[k]?=some i.tr∧([aa b0,aa b1]:List (List Tr))[k]?=some (aa b)∧aC 1048576 i.tr∧
     (ba i=false→R=false)∧(ah b 1 1000000=false→R=false)∧(ba i=true→ah b 1 1000000=true→(1≤k+1→ba i0=true∧ah b0 1 1000000=true)∧(2≤k+1→ba i1=true∧ah b1 1 1000000=true)):=by
    have:k=0∨k=1:=by omega
    rcases this with rfl|rfl
    ·exact⟨i0,b0,rfl,rfl,hi0,fun h=>by rw[←hR,h];rfl,fun h=>by rw[←hR,h];simp,fun h h'=>⟨fun _=>⟨h,h'⟩,fun h2=>by omega⟩⟩
    ·exact⟨i1,b1,rfl,rfl,hi1,fun h=>by rw[←hR,h];simp,fun h=>by rw[←hR,h];simp,fun h h'=>⟨fun _=>hk1 (by omega),fun _=>⟨h,h'⟩⟩⟩
   have hI:=uH i hsi
   have hB:=bm b 1 1000000
   cases hio:ba i with
   | false=>
    rw[hio]at hI
    rw[hn1 hio]
    repeat' ((conv=>whnf);first|refine Or.inl ?_|apply oi|(apply fi<;>intro h)|refine⟨k,i.tr,rfl,hi,?_⟩|refine ci hI (ai (ai rfl (ai rfl trivial)) trivial) ?_|refine⟨_,rfl,?_⟩|exact rfl)
    all_goals try exact⟨KO⟩
    all_goals(exfalso;first|(have h':=of_decide_eq_false h;omega)|(simp at h;done))
   | true=>
    rw[hio]at hI
    cases hbo:ah b 1 1000000 with
    | false=>
     rw[hbo]at hB
     rw[hn2 hbo]
     repeat' ((conv=>whnf);first|refine Or.inl ?_|apply oi|(apply fi<;>intro h)|refine⟨k,i.tr,rfl,hi,?_⟩|refine⟨k,aa b,rfl,hb,?_⟩|refine ci hI (ai (ai rfl (ai rfl trivial)) trivial) ?_|refine ci hB (ai rfl (ai rfl (ai rfl trivial))) ?_|refine⟨_,rfl,?_⟩|exact rfl)
     all_goals try exact⟨KO⟩
     all_goals(exfalso;first|(have h':=of_decide_eq_false h;omega)|(simp at h;done))
    | true=>
     rw[hbo]at hB
     repeat' ((conv=>whnf);first|refine Or.inl ?_|apply oi|(apply fi<;>intro h)|refine⟨k,i.tr,rfl,hi,?_⟩|refine⟨k,aa b,rfl,hb,?_⟩|refine ci hI (ai (ai rfl (ai rfl trivial)) trivial) ?_|refine ci hB (ai rfl (ai rfl (ai rfl trivial))) ?_|refine⟨_,rfl,?_⟩|exact rfl)
     all_goals try exact⟨KO⟩
     all_goals try(exfalso;first|(have h':=of_decide_eq_false h;omega)|(simp at h;done))
     conv=>whnf
     refine⟨⟨k+1,by omega,hyes hio hbo⟩,?_,KD⟩
     repeat' ((conv=>whnf);first|refine Or.inl ?_|apply oi|(apply fi<;>intro h)|refine⟨_,rfl,?_⟩|exact rfl)
     all_goals try exact⟨KO⟩
     all_goals exact⟨by dsimp only;rw[IntWalk.i64_in _ (by omega)];rfl⟩
  ·have hk2':k=2:=by omega
   subst hk2'
   obtain⟨g0,w0⟩:=hk1 (by omega)
   obtain⟨g1,w1⟩:=hk2 (by omega)
   have v0:=within_iff.1 w0
   have v1:=within_iff.1 w1
   rw[g0,g1,w0,w1,Bool.true_and,Bool.true_and,Bool.true_and,Bool.true_and]at hR
   have x0:IntKind.i64.wrap (b1+(i1.fab.length:Int))=b1+i1.fab.length:=IntWalk.i64_in _ (by omega)
   have x1:IntKind.i64.wrap (b0+(i0.fab.length:Int))=b0+i0.fab.length:=IntWalk.i64_in _ (by omega)
   cases ho:cG i0 i1 b0 b1 with
   | true=>
    rw[ho]at hR
    rw[cG,Bool.and_eq_true,Bool.and_eq_true,Bool.and_eq_true,decide_eq_true_eq,decide_eq_true_eq,decide_eq_true_eq,decide_eq_true_eq]at ho
    obtain⟨o1,o2,o3,o4⟩:=ho
    subst hR
    repeat' ((conv=>whnf);first|refine Or.inl ?_|apply oi|(apply fi<;>intro h)|refine⟨0,_,rfl,rfl,?_⟩|refine⟨1,_,rfl,rfl,?_⟩|refine⟨_,rfl,?_⟩|exact rfl)
    all_goals try exact⟨KO⟩
    all_goals(exfalso;first|(have h':=of_decide_eq_false h;(try rw[x0]at h');(try rw[x1]at h');omega)|(have h':=of_decide_eq_true h;omega))
   | false=>
    rw[ho,Bool.not_false,Bool.true_and]at hR
    have hno:¬(0 < i0.fab.length∧0 < i1.fab.length∧b0 < b1+i1.fab.length∧b1 < b0+i0.fab.length):=by
     intro⟨a,b,c,d⟩
     rw[cG,decide_eq_true a,decide_eq_true b,decide_eq_true c,decide_eq_true d]at ho
     cases ho
    have m0:=dh (imageOk_iff.1 g0).2 (by omega)
    have m1:=dh (imageOk_iff.1 g1).2 (by omega)
    have l0:=(imageOk_iff.1 g0).1
    have l1:=(imageOk_iff.1 g1).1
    repeat' ((conv=>whnf);first|refine Or.inl ?_|apply oi|(apply fi<;>intro h)|refine⟨0,_,rfl,rfl,?_⟩|refine⟨1,_,rfl,rfl,?_⟩|refine⟨_,rfl,?_⟩|exact rfl)
    all_goals try exact⟨KO⟩
    all_goals try(
     exfalso
     rename_i a1 a2 a3
     have c1:=of_decide_eq_true a1
     have c2:=of_decide_eq_true a2
     have c3:=of_decide_eq_true a3
     have c4:=of_decide_eq_true h
     rw[x0]at c3
     rw[x1]at c4
     exact hno ⟨by omega,by omega,c3,c4⟩)
    all_goals(
     conv=>whnf
     refine⟨{j:Nat // j≤es.length∧((es.drop j).all fun e=>be i0 b0 e || be i1 b1 e)=R},fun j=>⟨[(1,.r (.c (.ptr (1,0,0) 0))),(93,.r (.c (.t (.lst 1 (es.map aa))))),(94,tI .i64 ((es.map aa).length:Int)),(95,tI .i64 (j.1:Int))],[((1,0,0),some (.box (qU i0 i1 b0 b1 es)))],[1]⟩,fun j=>es.length - j.1,⟨0,by omega,hR⟩,?_,?_⟩
     ·skip
      repeat' ((conv=>whnf);first|refine Or.inl ?_|apply oi|(apply fi<;>intro h)|refine⟨_,rfl,?_⟩|exact rfl)
      all_goals try exact⟨KO⟩
     intro⟨j,hj,hr⟩
     dsimp only
     by_cases hjl:j < es.length
     ·obtain⟨e,he⟩:=ag hjl
      have hEn:=uz i0 i1 b0 b1 e es (fun x hx=>by have:=m0 x hx;omega) (fun x hx=>by have:=m1 x hx;omega) (by omega) (by omega) hsy0 hsy1
      rw[cO he,List.all_cons]at hr
      cases hee:(be i0 b0 e || be i1 b1 e)with
      | false=>
       rw[hee]at hEn hr
       rw[Bool.false_and]at hr
       subst hr
       repeat' ((conv=>whnf);first|refine Or.inl ?_|apply oi|(apply fi<;>intro h)|refine⟨j,aa e,rfl,ab he,?_⟩|refine ci hEn (ai (ai rfl (ai rfl (ai rfl trivial))) (ai rfl trivial)) ?_|refine⟨_,rfl,?_⟩|exact rfl)
       all_goals try exact⟨KO⟩
       all_goals(exfalso;first|(have h':=of_decide_eq_false h;rw[hlen]at h';omega)|(simp at h;done))
      | true=>
       rw[hee]at hEn hr
       rw[Bool.true_and]at hr
       repeat' ((conv=>whnf);first|refine Or.inl ?_|apply oi|(apply fi<;>intro h)|refine⟨j,aa e,rfl,ab he,?_⟩|refine ci hEn (ai (ai rfl (ai rfl (ai rfl trivial))) (ai rfl trivial)) ?_|refine⟨_,rfl,?_⟩|exact rfl)
       all_goals try exact⟨KO⟩
       all_goals try(exfalso;first|(have h':=of_decide_eq_false h;rw[hlen]at h';omega)|(simp at h;done))
       conv=>whnf
       refine⟨⟨j+1,by omega,hr⟩,?_,KD⟩
       repeat' ((conv=>whnf);first|refine Or.inl ?_|apply oi|(apply fi<;>intro h)|refine⟨_,rfl,?_⟩|exact rfl)
       all_goals try exact⟨KO⟩
       all_goals exact⟨by dsimp only;rw[IntWalk.i64_in _ (by omega)];rfl⟩
     ·have hge:es.length≤j:=by omega
      rw[List.drop_eq_nil_of_le hge,List.all_nil]at hr
      subst hr
      repeat' ((conv=>whnf);first|refine Or.inl ?_|apply oi|(apply fi<;>intro h)|refine⟨_,rfl,?_⟩|exact rfl)
      all_goals try exact⟨KO⟩
      all_goals(exfalso;have h':=of_decide_eq_true h;rw[hlen]at h';omega))
theorem xA (a:Int)(k:Nat):((jy a k).toNat:Int)=(a / (2 ^ (8 * k))) % 256:=by
 unfold jy
 rw[Int.fdiv_eq_ediv_of_nonneg _ (Int.pow_nonneg (by decide))]
 generalize a / 2 ^ (8 * k)=z
 have h1:=Int.emod_nonneg z (show(256:Int)≠0 by decide)
 have h2:=Int.emod_lt_of_pos z (show(0:Int) < 256 by decide)
 simp
 omega
theorem uU (pre rest:List UInt8)(c:UInt8)(k:Nat)(m:List UInt8)(h:m[k]?=some c):bQ (pre++m++rest) (pre.length+k)=c.toNat:=by
 have hk:=bg h
 unfold bQ
 rw[List.append_assoc,List.getElem?_append_right (by omega),Nat.add_sub_cancel_left,List.getElem?_append_left hk,h]
theorem Ae {a:Int}{n k:Nat}(h:k < n):(gx a n)[k]?=some (jy a k):=by
 unfold gx
 rw[List.getElem?_map,List.getElem?_range h]
 rfl
theorem DI {c a:Int}(h:cU c a=true){s:List UInt8}{p:Nat}(hb:∀k,k < (aT c).1.toNat→bQ s (p+k)=(jy a k).toNat):iV c (aQ s p (aT c).1.toNat)=a:=by
 unfold cU at h
 rw[Bool.and_eq_true,within_iff,within_iff]at h
 obtain⟨_,ha⟩:=h
 have hd:∀k,k < (aT c).1.toNat→(bQ s (p+k):Int)=(a / (2 ^ (8 * k))) % 256:=fun k hk=>by rw[hb k hk,xA]
 have b0:0 < (aT c).1.toNat→((aQ s p 1:Nat):Int)=a % 256:=fun h=>by
  have d0:=hd 0 h
  rw[show(2:Int) ^ (8 * 0)=1 from rfl]at d0
  simp only[aQ,Nat.pow_zero,Nat.mul_one,Nat.zero_add]
  omega
 have b1:1 < (aT c).1.toNat→((aQ s p 2:Nat):Int)=a % 65536:=fun h=>by
  have d0:=b0 (by omega)
  have d1:=hd 1 h
  rw[show(2:Int) ^ (8 * 1)=256 from rfl]at d1
  rw[aQ,show(256:Nat) ^ 1=256 from rfl]
  omega
 have b2:2 < (aT c).1.toNat→((aQ s p 3:Nat):Int)=a % 16777216:=fun h=>by
  have d0:=b1 (by omega)
  have d1:=hd 2 h
  rw[show(2:Int) ^ (8 * 2)=65536 from rfl]at d1
  rw[aQ,show(256:Nat) ^ 2=65536 from rfl]
  omega
 have b3:3 < (aT c).1.toNat→((aQ s p 4:Nat):Int)=a % 4294967296:=fun h=>by
  have d0:=b2 (by omega)
  have d1:=hd 3 h
  rw[show(2:Int) ^ (8 * 3)=16777216 from rfl]at d1
  rw[aQ,show(256:Nat) ^ 3=16777216 from rfl]
  omega
 unfold iV
 rcases yw c with⟨e1,e2⟩|⟨e1,e2⟩|⟨e1,e2⟩|⟨e1,e2⟩|⟨e1,e2⟩
 ·rw[e1]at b3 ⊢
  rw[e2]at ha
  have b3:=b3 (by decide)
  have ha:-2147483648≤a∧a≤2147483647:=ha
  show(if(true:Bool)=true∧(2147483648:Nat)≤aQ s p 4 then((aQ s p 4:Nat):Int) - ((4294967296:Nat):Int)else((aQ s p 4:Nat):Int))=a
  split
  ·rename_i hc;have:=hc.2;omega
  ·rename_i hc;have:¬(2147483648≤aQ s p 4):=fun h=>hc ⟨rfl,h⟩;omega
 ·rw[e1]at b1 ⊢
  rw[e2]at ha
  have b1:=b1 (by decide)
  have ha:-32768≤a∧a≤32767:=ha
  show(if(true:Bool)=true∧(32768:Nat)≤aQ s p 2 then((aQ s p 2:Nat):Int) - ((65536:Nat):Int)else((aQ s p 2:Nat):Int))=a
  split
  ·rename_i hc;have:=hc.2;omega
  ·rename_i hc;have:¬(32768≤aQ s p 2):=fun h=>hc ⟨rfl,h⟩;omega
 ·rw[e1]at b1 ⊢
  rw[e2]at ha
  have b1:=b1 (by decide)
  have ha:0≤a∧a≤65535:=ha
  rw[if_neg (by simp)]
  show((aQ s p 2:Nat):Int)=a
  omega
 ·rw[e1]at b0 ⊢
  rw[e2]at ha
  have b0:=b0 (by decide)
  have ha:0≤a∧a≤255:=ha
  rw[if_neg (by simp)]
  show((aQ s p 1:Nat):Int)=a
  omega
 ·rw[e1]
  rw[e2]at ha
  have ha:0≤a∧a≤0:=ha
  rw[if_neg (by simp)]
  show((0:Nat):Int)=a
  omega
theorem qW {x:HR}(h:cU x.fab x.faf=true):aX x=UInt8.ofNat x.fab.toNat::gx x.faf (aT x.fab).1.toNat:=by rw[aX,if_pos h]
theorem vQ {x:HR}(h:cU x.fab x.faf=true)(pre rest:List UInt8):aU (pre++aX x++rest) (pre.length:Int)=some (x,(aK x.fab).toNat):=by
 have hc:0≤x.fab∧x.fab≤17:=by
  unfold cU at h
  rw[Bool.and_eq_true,within_iff,within_iff]at h
  exact h.1
 have hlen:=fg h
 have hle:=cY x.fab
 have hz:aK x.fab=(aT x.fab).1+1:=by rw[aK,if_pos (within_iff.2 hc)]
 have hb0:((bQ (pre++aX x++rest) pre.length:Nat):Int)=x.fab:=by
  have:=uU pre rest (UInt8.ofNat x.fab.toNat) 0 (aX x) (by rw[qW h];rfl)
  rw[Nat.add_zero]at this
  rw[this]
  simp
  omega
 have hbk:∀k,k < (aT x.fab).1.toNat→bQ (pre++aX x++rest) (pre.length+1+k)=(jy x.faf k).toNat:=fun k hk=>by
  have:=uU pre rest (jy x.faf k) (k+1) (aX x) (by rw[qW h,List.getElem?_cons_succ];exact Ae hk)
  rw[show pre.length+1+k=pre.length+(k+1) by omega]
  exact this
 have hav:=DI h hbk
 have hsl:(pre++aX x++rest).length=pre.length+(aX x).length+rest.length:=by simp;omega
 generalize pre++aX x++rest=s at *
 rw[aU,if_pos ⟨by omega,by omega⟩,Int.toNat_natCast,hb0,if_neg (by omega),hav]
theorem yx {l:List HS}(h:∀y∈l,cU y.fal.fad.fab y.fal.fad.faf=true){k:Nat}{y:HS}(hy:l[k]?=some y)(pre rest:List UInt8):aU (pre++aq l++rest) (((pre++aq (l.take k)).length:Nat):Int)=some (y.fal.fad,(aK y.fal.fad.fab).toNat):=by
 have e:l=l.take k++(y::l.drop (k+1)):=by rw[←cO hy,List.take_append_drop]
 have e2:aq l=aq (l.take k)++(aX y.fal.fad++aq (l.drop (k+1))):=by
  conv=>lhs;rw[e]
  rw[aO,show y::l.drop (k+1)=[y]++l.drop (k+1) from rfl,aO,eQ]
 have:=vQ (h y (List.mem_of_getElem? hy)) (pre++aq (l.take k)) (aq (l.drop (k+1))++rest)
 rw[e2]
 simpa [List.append_assoc]using this
theorem qQ:∀{l:List HS} (pre:List UInt8),(∀y∈l,cU y.fal.fad.fab y.fal.fad.faf=true)→lu (pre++aq l) ((pre++aq l).length - pre.length) pre.length=some (l.map fun y=>y.fal.fad)
 | [],pre,_=>by
  rw[show aq []=[] from rfl,List.append_nil]
  exact ul (Nat.le_refl _)
 | y::l,pre,h=>by
  have hy:=h y (by simp)
  have hlen:=fg hy
  have hle:=cY y.fal.fad.fab
  have hc:ah y.fal.fad.fab 0 17=true:=by
   unfold cU at hy
   rw[Bool.and_eq_true]at hy
   exact hy.1
  have hz:aK y.fal.fad.fab=(aT y.fal.fad.fab).1+1:=by rw[aK,if_pos hc]
  have e:aq (y::l)=aX y.fal.fad++aq l:=by rw[show y::l=[y]++l from rfl,aO,eQ]
  have ih:=qQ (l:=l) (pre++aX y.fal.fad) (fun z hz=>h z (by simp[hz]))
  have hd:=vQ hy pre (aq l)
  rw[List.append_assoc]at hd ih
  have hl2:(pre++(aX y.fal.fad++aq l)).length=pre.length+(aX y.fal.fad).length+(aq l).length:=by simp;omega
  have hl3:(pre++aX y.fal.fad).length=pre.length+(aK y.fal.fad.fab).toNat:=by rw[List.length_append];omega
  rw[e,qo (by omega),hd]
  dsimp only
  rw[hl3]at ih
  rw[ih]
  rfl
theorem yr {l:List HS}(h:∀y∈l,cU y.fal.fad.fab y.fal.fad.faf=true):(ec (aq l)).isSome=true:=by
 have:=qQ [] h
 rw[List.nil_append]at this
 have e:ec (aq l)=some (l.map fun y=>y.fal.fad):=by
  unfold ec
  simpa using this
 rw[e];rfl
theorem nZ:∀(l:List HP) (i:Nat),(funsF l i).Pairwise (· < ·)
 | [],_=>by rw[funsF];exact List.Pairwise.nil
 | x::l,i=>by
  have ih:=nZ l (i+1)
  rw[funsF]
  split
  ·refine List.pairwise_append.2 ⟨List.pairwise_singleton _ _,ih,fun a ha b hb=>?_⟩
   rw[List.mem_singleton]at ha
   have:=(si hb).1
   omega
  ·rw[List.nil_append];exact ih
theorem Es {p:List HP}{f g k:Nat}(hf:(aF p)[f]?=some k)(hg:(aF p)[g]?=some k):f=g:=by
 have hs:=List.pairwise_iff_getElem.1 (nZ p 0)
 obtain⟨h1,e1⟩:=List.getElem?_eq_some_iff.1 hf
 obtain⟨h2,e2⟩:=List.getElem?_eq_some_iff.1 hg
 rcases Nat.lt_trichotomy f g with h|h|h
 ·have:=hs f g h1 h2 h
  change(aF p)[f] < (aF p)[g]at this
  rw[e1,e2]at this
  omega
 ·exact h
 ·have:=hs g f h2 h1 h
  change(aF p)[g] < (aF p)[f]at this
  rw[e1,e2]at this
  omega
theorem nV {p:List HP}(h:ax p=true){f k:Nat}(hf:(aF p)[f]?=some k):∃y,p[k]?=some y∧y.faa=0∧bk p f=y.fac∧cy y.fac=true∧findN p 0 y.fac=some k:=by
 unfold ax at h
 simp only[Bool.and_eq_true,decide_eq_true_eq]at h
 obtain⟨_,_,h3,_,h5,_⟩:=h
 obtain⟨_,y,hy,h0⟩:=mi (List.mem_of_getElem? hf)
 have hl:=List.all_eq_true.1 h3 y (List.mem_of_getElem? hy)
 have hn:=List.all_eq_true.1 h5 k (List.mem_of_getElem? hf)
 refine⟨y,hy,h0,by rw[bk,hf];dsimp only;rw[hy],?_,?_⟩
 ·unfold dy at hl
  simp only[Bool.and_eq_true]at hl
  have:=hl.2.1
  rwa [if_pos (.inl h0)]at this
 ·unfold cr at hn
  rw[hy]at hn
  exact eq_of_beq hn
theorem xT {p:List HP}(h:ax p=true){f g:Nat}(hf:f < (aF p).length)(hg:g < (aF p).length)(he:bk p f=bk p g):f=g:=by
 obtain⟨k,hk⟩:=ag hf
 obtain⟨j,hj⟩:=ag hg
 obtain⟨_,_,_,e1,_,f1⟩:=nV h hk
 obtain⟨_,_,_,e2,_,f2⟩:=nV h hj
 rw[e1,e2]at he
 rw[he,f2]at f1
 injection f1 with f1
 subst f1
 exact Es hk hj
theorem sQ {p:List HP}:∀(L:List (Nat×List HS)) (pre post:List UInt8) (seen:List HW),
  (∀x∈L,0 < (aq x.2).length∧(∀y∈x.2,cU y.fal.fad.fab y.fal.fad.faf=true)∧cy (bk p x.1)=true)→L.Pairwise (fun x y=>bk p x.1≠bk p y.1)→(∀x∈L,∀y∈seen,y.fac≠bk p x.1)→post=[]→
  dP (pre++aq (aD L)++post) seen pre.length (bG p pre.length L)=true
 | [],pre,post,seen,_,_,_,hp=>by subst hp;simp[bG,dP,aD,aq]
 |(f,l)::L,pre,post,seen,h1,h2,h3,hp=>by
  subst hp
  obtain⟨q1,q2,q3⟩:=h1 (f,l) (by simp)
  dsimp only at q1 q2 q3
  have e:aq (aD ((f,l)::L))=aq l++aq (aD L):=by rw[show aD ((f,l)::L)=l++aD L by simp[aD],aO]
  rw[List.pairwise_cons]at h2
  rw[e,List.append_nil,bG,dP,Bool.and_eq_true]
  constructor
  ·unfold sI
   rw[Bool.and_eq_true,Bool.and_eq_true]
   refine⟨imgPre_iff.2 ⟨rfl,by dsimp only;omega,by dsimp only;simp;omega,q3⟩,?_,?_⟩
   ·rw[Bool.not_eq_true',ew,List.any_eq_false]
    intro y hy
    have:=h3 (f,l) (by simp) y hy
    simpa using this
   ·dsimp only
    rw[Int.toNat_natCast]
    have e2:((pre++(aq l++aq (aD L))).take (pre.length+(aq l).length)).drop pre.length=aq l:=by
     rw[←List.append_assoc,List.take_left' (by simp),List.drop_left]
    rw[e2]
    exact yr q2
  ·dsimp only
   rw[Int.toNat_natCast]
   have ih:=sQ L (pre++aq l) [] (seen++[⟨bk p f,(pre.length:Int),((aq l).length:Int)⟩]) (fun x hx=>h1 x (by simp[hx])) h2.2 (fun x hx y hy=>by
    rcases List.mem_append.1 hy with hy|hy
    ·exact h3 x (by simp[hx]) y hy
    ·rw[List.mem_singleton]at hy
     subst hy
     exact h2.1 x hx) rfl
   rw[List.append_nil,List.length_append,List.append_assoc]at ih
   simpa using ih
theorem jk {p:List HP}{b:HH}{image:Int}:∀(n f:Nat) (at0:Int),(cv p b image n f at0).Pairwise (fun x y=>x.1 < y.1)
 | 0,_,_=>by rw[cv];exact List.Pairwise.nil
 | n+1,f,at0=>by
  rw[lX]
  split
  ·refine List.pairwise_cons.2 ⟨fun y hy=>?_,jk n _ _⟩
   have:=(lq hy).1
   dsimp only
   omega
  ·exact jk n _ _
theorem eS {p:List HP}{b:HH}(hs:aA 1048576 (.lst 4 (p.map HP.tr)))(h1:ax p=true)(h2:aV b=true){image:Int}(h3:ah image 0 1=true):ba (aj p b image)=true∧(aj p b image).fab.length≤75000:=by
 rw[aj,if_pos ⟨h1,h2,h3⟩]
 obtain⟨h6,_⟩:=jO h1
 have hll:=jY p b image (aF p).length 0 0
 have hlc:=fun x (hx:x∈cv p b image (aF p).length 0 0)=>(jS hs hx).1
 have hlf:=fun x (hx:x∈cv p b image (aF p).length 0 0)=>(lq hx).2
 have hso:=jk (p:=p) (b:=b) (image:=image) (aF p).length 0 0
 have hat:∀x∈cv p b image (aF p).length 0 0,0 < x.2.length∧∀y∈x.2,cU y.fal.fad.fab y.fal.fad.faf=true:=fun x hx=>by
  obtain⟨i,hi⟩:=List.mem_iff_getElem?.1 hx
  have hl:=(mz hs h1 h2 (by omega) hi).2.2
  have ho:∀y∈x.2,cU y.fal.fad.fab y.fal.fad.faf=true:=fun y hy=>by
   obtain⟨j,hj⟩:=List.mem_iff_getElem?.1 hy
   exact(kJ hs h1 h2 hi hj).1.op
  exact⟨hl,ho⟩
 generalize cv p b image (aF p).length 0 0=L at *
 have hal:=pK hlc (Nat.le_refl L.length)
 rw[List.take_of_length_le (Nat.le_refl _)]at hal
 have hal2:=Nat.mul_le_mul_left 2500 (show L.length≤6 by omega)
 have hcl:=iB (aD L)
 refine⟨imageOk_iff.2 ⟨by dsimp only;omega,?_⟩,by dsimp only;omega⟩
 have:=sQ (p:=p) L [] [] [] (fun x hx=>?_) ?_ (fun x hx y hy=>by cases hy) rfl
 ·simpa using this
 ·obtain⟨q1,q2⟩:=hat x hx
  obtain⟨k,hk⟩:=ag (l:=aF p) (k:=x.1) (by have:=hlf x hx;omega)
  obtain⟨y,_,_,e,hn,_⟩:=nV h1 hk
  refine⟨?_,q2,by rw[e];exact hn⟩
  obtain⟨z,l',hz⟩:=List.exists_cons_of_length_pos q1
  rw[hz,show z::l'=[z]++l' from rfl,aO,eQ,List.length_append]
  have hop:=q2 z (by rw[hz];simp)
  have:=fg hop
  have h4:=cY z.fal.fad.fab
  have hc:ah z.fal.fad.fab 0 17=true:=by
   unfold cU at hop
   rw[Bool.and_eq_true]at hop
   exact hop.1
  rw[aK,if_pos hc]at this
  omega
 ·refine hso.imp_of_mem fun{x y} hx hy hlt he=>?_
  have:=xT h1 (by have:=hlf x hx;omega) (by have:=hlf y hy;omega) he
  omega
def jD (nm:List UInt8)(b:Int)(l:List HW):List Int:=(l.filter fun y=>y.fac==nm).map fun y=>IntKind.i64.wrap (b+y.fam)
theorem EX (nm:List UInt8)(b:Int):jD nm b []=[]:=rfl
theorem CE (nm:List UInt8)(b:Int)(l:List HW)(y:HW):jD nm b (l++[y])=jD nm b l++if(y.fac==nm)=true then [IntKind.i64.wrap (b+y.fam)]else []:=by
 unfold jD
 rw[List.filter_append,List.map_append]
 congr 1
 split
 ·rename_i h;simp[h]
 ·rename_i h;simp[h]
theorem Cn {nm:List UInt8}{b:Int}{l:List HW}{k:Nat}{y:HW}(h:l[k]?=some y):jD nm b (l.take (k+1))=jD nm b (l.take k)++if(y.fac==nm)=true then [IntKind.i64.wrap (b+y.fam)]else []:=by
 rw[dH h,CE]
theorem tc (nm:List UInt8)(b:Int)(l:List HW):(jD nm b l).length≤l.length:=by
 unfold jD
 rw[List.length_map]
 exact List.length_filter_le _ _
def fD (f:Nat):List (Nat×List HS)→Int→Option Int
 | [],_=>none
 | x::L,a=>if x.1=f then some a else fD f L (a+(aq x.2).length)
theorem vW {p:List HP}{nm:List UInt8}{b:Int}:∀(L:List (Nat×List HS)) (a:Int),(∀x∈L,bk p x.1≠nm)→jD nm b (bG p a L)=[]
 | [],_,_=>rfl
 |(g,l)::L,a,h=>by
  have h1:=h (g,l) (by simp)
  have ih:=vW (p:=p) (nm:=nm) (b:=b) L (a+(aq l).length) (fun x hx=>h x (by simp[hx]))
  unfold jD at ih ⊢
  rw[bG,List.filter_cons,if_neg (by simpa using h1)]
  exact ih
theorem wm {p:List HP}{b:Int}{f:Nat}:∀(L:List (Nat×List HS)) (a:Int),(∀x∈L,bk p x.1=bk p f→x.1=f)→L.Pairwise (fun x y=>x.1 < y.1)→
  jD (bk p f) b (bG p a L)=match fD f L a with|some s=>[IntKind.i64.wrap (b+s)]|none=>[]
 | [],_,_,_=>rfl
 |(g,l)::L,a,h,hs=>by
  rw[List.pairwise_cons]at hs
  rw[fD]
  by_cases hg:g=f
  ·subst hg
   rw[if_pos rfl]
   have hn:=vW (p:=p) (nm:=bk p g) (b:=b) L (a+(aq l).length) (fun x hx he=>by
    have h1:=h x (by simp[hx]) he
    have h2:=hs.1 x hx
    dsimp only at h2
    omega)
   unfold jD at hn ⊢
   rw[bG,List.filter_cons,if_pos (by simp),List.map_cons,hn]
  ·rw[if_neg hg]
   have ih:=wm (p:=p) (b:=b) (f:=f) L (a+(aq l).length) (fun x hx=>h x (by simp[hx])) hs.2
   rw[←ih]
   unfold jD
   rw[bG,List.filter_cons,if_neg]
   simp only[beq_iff_eq]
   exact fun he=>hg (h (g,l) (by simp) he)
theorem km {f:Nat}:∀{L:List (Nat×List HS)} {a:Int},(∃x∈L,x.1=f)→∃s,fD f L a=some s
 | [],_,⟨_,h,_⟩=>by cases h
 | x::L,a,⟨y,hy,he⟩=>by
  rw[fD]
  split
  ·exact⟨_,rfl⟩
  ·rename_i hx
   rcases List.mem_cons.1 hy with rfl|hy
   ·exact absurd he hx
   ·exact km ⟨y,hy,he⟩
theorem od {f:Nat}:∀{L:List (Nat×List HS)} {a:Int},(∀x∈L,x.1≠f)→fD f L a=none
 | [],_,_=>rfl
 | x::L,a,h=>by rw[fD,if_neg (h x (by simp)),od fun y hy=>h y (by simp[hy])]
theorem uh {f:Nat}:∀{L:List (Nat×List HS)} {a s:Int},fD f L a=some s→∃i x,L[i]?=some x∧x.1=f∧s=a+((aq (aD (L.take i))).length:Int)
 | [],_,_,h=>by rw[fD]at h;cases h
 | x::L,a,s,h=>by
  rw[fD]at h
  split at h
  ·injection h with h
   exact⟨0,x,rfl,by assumption,by subst h;simp[aD,aq]⟩
  ·obtain⟨i,y,h1,h2,h3⟩:=uh h
   refine⟨i+1,y,by simpa using h1,h2,?_⟩
   rw[List.take_succ_cons,show aD (x::L.take i)=x.2++aD (L.take i) by simp[aD],aO,List.length_append]
   omega
theorem imgL_mem {p:List HP}{b:HH}{image:Int}:∀{n f:Nat} {at0:Int} {g:Nat},(∃x∈cv p b image n f at0,x.1=g)↔(f≤g∧g < f+n∧qO b image g=true)
 | 0,f,at0,g=>by
  rw[cv]
  constructor
  ·rintro⟨x,h,_⟩;cases h
  ·rintro⟨h1,h2,_⟩;omega
 | n+1,f,at0,g=>by
  rw[lX]
  split
  ·rename_i hin
   constructor
   ·rintro⟨x,hx,he⟩
    rcases List.mem_cons.1 hx with rfl|hx
    ·dsimp only at he;subst he;exact⟨by omega,by omega,hin⟩
    ·have:=imgL_mem.1 ⟨x,hx,he⟩;exact⟨by omega,by omega,this.2.2⟩
   ·rintro⟨h1,h2,h3⟩
    by_cases hg:g=f
    ·exact⟨_,List.mem_cons_self ..,hg.symm⟩
    ·obtain⟨x,hx,he⟩:=(imgL_mem (p:=p) (at0:=wP at0 (aR p f b)) (n:=n) (f:=f+1)).2 ⟨by omega,by omega,h3⟩
     exact⟨x,List.mem_cons_of_mem _ hx,he⟩
  ·rename_i hin
   constructor
   ·intro h
    have:=imgL_mem.1 h
    exact⟨by omega,by omega,this.2.2⟩
   ·rintro⟨h1,h2,h3⟩
    have hg:g≠f:=fun e=>by subst e;exact hin h3
    exact imgL_mem.2 ⟨by omega,by omega,h3⟩
noncomputable abbrev imL (p:List HP) (b:HH) (image:Int):List (Nat×List HS):=cv p b image (aF p).length 0 0
def cf (b:HH)(f:Nat):Int:=if b.faD=true then(f:Int) % 2 else 0
theorem pV {b:HH}{f:Nat}{image:Int}(h:image=0∨image=1):qO b image f=true↔image=cf b f:=by
 unfold qO cf
 split
 ·rw[beq_iff_eq];omega
 ·rw[beq_iff_eq]
def rG (p:List HP)(b:HH)(i0 i1:HM)(first second:Int)(f:Nat):List Int:=if cf b f=1 then jD (bk p f) second i1.fak else jD (bk p f) first i0.fak
def jt (F:Nat→List Int):Nat→List Int
 | 0=>[]
 | n+1=>jt F n++F n
noncomputable def bT (p:List HP) (b:HH) (f:Nat):Int:=(fD f (imL p b (cf b f)) 0).getD 0
noncomputable def dA (p:List HP) (b:HH) (first second:Int) (f:Nat):Int:=IntKind.i64.wrap ((if cf b f=1 then second else first)+bT p b f)
theorem iC (b:HH)(f:Nat):cf b f=0∨cf b f=1:=by unfold cf;split <;> omega
theorem nA {p:List HP}{b:HH}(h1:ax p=true)(h2:aV b=true){image:Int}(hi:image=0∨image=1){f:Nat}(hf:f < (aF p).length)(base:Int):
  jD (bk p f) base (aj p b image).fak=if cf b f=image then [IntKind.i64.wrap (base+bT p b f)]else []:=by
 have h3:ah image 0 1=true:=by rw[within_iff];omega
 rw[aj,if_pos ⟨h1,h2,h3⟩]
 dsimp only
 rw[wm _ _ (fun x hx he=>xT h1 (by have:=(lq hx).2;omega) hf he) (jk _ _ _)]
 by_cases he:cf b f=image
 ·subst he
  obtain⟨s,hs⟩:=km (f:=f) (a:=0) ((imgL_mem (p:=p) (b:=b) (image:=cf b f) (n:=(aF p).length) (f:=0) (at0:=0) (g:=f)).2 ⟨by omega,by omega,(pV hi).2 rfl⟩)
  rw[hs,if_pos rfl,bT,show imL p b (cf b f)=cv p b (cf b f) (aF p).length 0 0 from rfl,hs]
  rfl
 ·rw[if_neg he,od fun x hx hxe=>?_]
  have:=(imgL_mem (g:=f)).1 ⟨x,hx,hxe⟩
  exact he ((pV hi).1 this.2.2).symm
theorem Fr {p:List HP}{b:HH}(h1:ax p=true)(h2:aV b=true){f:Nat}(hf:f < (aF p).length)(first second:Int):rG p b (aj p b 0) (aj p b 1) first second f=[dA p b first second f]:=by
 unfold rG dA
 rw[nA h1 h2 (.inr rfl) hf,nA h1 h2 (.inl rfl) hf]
 rcases iC b f with e|e
 ·rw[e];rfl
 ·rw[e];rfl
theorem wu {F:Nat→List Int}{G:Nat→Int}:∀{n:Nat},(∀f,f < n→F f=[G f])→jt F n=(List.range n).map G
 | 0,_=>rfl
 | n+1,h=>by rw[jt,wu fun f hf=>h f (by omega),h n (by omega),List.range_succ,List.map_append];rfl
noncomputable def entries (p:List HP) (b:HH) (first second:Int):List Int:=(List.range (aF p).length).map (dA p b first second)
noncomputable def dv (p:List HP) (b:HH) (first second:Int):HV:=⟨[aj p b 0,aj p b 1],[first,second],entries p b first second⟩
noncomputable def fI (p:List HP) (b:HH) (first second:Int):Option HV:=if ax p=true∧aV b=true∧bp (dv p b first second)=true then some (dv p b first second)else none
def oSp (o:Option HV):HV:=match o with|some s=>s|none=>⟨[],[],[]⟩
theorem oH {p:List HP}:∀(L:List (Nat×List HS)) (a:Int) (y:HW),y∈bG p a L→a≤y.fam∧y.fam≤a+(aq (aD L)).length
 | [],_,_,h=>by cases h
 |(f,l)::L,a,y,h=>by
  have e:((aq (aD ((f,l)::L))).length:Int)=(aq l).length+(aq (aD L)).length:=by
   rw[show aD ((f,l)::L)=l++aD L by simp[aD],aO,List.length_append];simp
  rw[e]
  rw[bG]at h
  rcases List.mem_cons.1 h with rfl|h
  ·dsimp only;omega
  ·have:=oH L _ y h;omega
theorem sy {p:List HP}{b:HH}(hs:aA 1048576 (.lst 4 (p.map HP.tr)))(h1:ax p=true)(h2:aV b=true){image:Int}(h3:ah image 0 1=true){y:HW}(hy:y∈(aj p b image).fak):0≤y.fam∧y.fam≤75000:=by
 have hl:=(eS hs h1 h2 h3).2
 rw[aj,if_pos ⟨h1,h2,h3⟩]at hy hl
 have:=oH _ _ y hy
 dsimp only at hl
 omega
theorem Ee {p:List HP}(h1:ax p=true):1≤(aF p).length∧(aF p).length≤6:=by
 unfold ax at h1
 simp only[Bool.and_eq_true,decide_eq_true_eq]at h1
 exact h1.2.1
theorem Ap {p:List HP}{b:HH}(hs:aA 1048576 (.lst 4 (p.map HP.tr)))(h1:ax p=true)(h2:aV b=true){first second:Int}(hf:1≤first∧first≤1000000)(hse:1≤second∧second≤1000000){f:Nat}(hlt:f < (aF p).length):
  (cf b f=0∧∃y∈(aj p b 0).fak,first+y.fam=dA p b first second f)∨(cf b f=1∧∃y∈(aj p b 1).fak,second+y.fam=dA p b first second f):=by
 have key:∀(image base:Int),(image=0∨image=1)→1≤base∧base≤1000000→cf b f=image→∃y∈(aj p b image).fak,base+y.fam=IntKind.i64.wrap (base+bT p b f):=by
  intro image base hi hb he
  have hh:=nA h1 h2 hi hlt base
  rw[if_pos he]at hh
  have hm:IntKind.i64.wrap (base+bT p b f)∈jD (bk p f) base (aj p b image).fak:=by rw[hh];simp
  unfold jD at hm
  obtain⟨y,hy,e⟩:=List.mem_map.1 hm
  have hy':=(List.mem_filter.1 hy).1
  have hr:=sy hs h1 h2 (by rw[within_iff];omega) hy'
  refine⟨y,hy',?_⟩
  rw[←e,IntWalk.i64_in _ (by omega)]
 unfold dA
 rcases iC b f with e|e
 ·rw[e]
  exact .inl ⟨rfl,by simpa using key 0 first (.inl rfl) hf e⟩
 ·rw[e]
  exact .inr ⟨rfl,by simpa using key 1 second (.inr rfl) hse e⟩
theorem xJ {p:List HP}{b:HH}(hs:aA 1048576 (.lst 4 (p.map HP.tr)))(h1:ax p=true)(h2:aV b=true){first second:Int}(hf:1≤first∧first≤1000000)(hse:1≤second∧second≤1000000)(hno:cG (aj p b 0) (aj p b 1) first second=false):bp (dv p b first second)=true:=by
 have a0:=eS hs h1 h2 (image:=0) (by decide)
 have a1:=eS hs h1 h2 (image:=1) (by decide)
 have hl:=Ee h1
 show eD (aj p b 0) (aj p b 1) first second (entries p b first second)=true
 unfold eD
 simp only[Bool.and_eq_true]
 refine⟨by rw[within_iff];simp[entries];omega,a0.1,within_iff.2 hf,a1.1,within_iff.2 hse,by rw[hno];rfl,?_⟩
 rw[List.all_eq_true]
 intro e he
 obtain⟨f,hfm,rfl⟩:=List.mem_map.1 he
 rw[List.mem_range]at hfm
 rw[Bool.or_eq_true]
 rcases Ap hs h1 h2 hf hse hfm with⟨_,y,hy,e⟩|⟨_,y,hy,e⟩
 ·refine .inl ?_
  rw[be,List.any_eq_true]
  exact⟨y,hy,by rw[beq_iff_eq];exact e⟩
 ·refine .inr ?_
  rw[be,List.any_eq_true]
  exact⟨y,hy,by rw[beq_iff_eq];exact e⟩
theorem tV {p:List HP}{b:HH}(hs:aA 1048576 (.lst 4 (p.map HP.tr)))(h1:ax p=true)(h2:aV b=true){first second:Int}(hf:1≤first∧first≤9000)(hse:100000≤second∧second≤1000000):fI p b first second=some (dv p b first second):=by
 have a0:=eS hs h1 h2 (image:=0) (by decide)
 have hno:cG (aj p b 0) (aj p b 1) first second=false:=by
  unfold cG
  rw[show decide (second < first+((aj p b 0).fab.length:Int))=false from decide_eq_false (by have:=a0.2;omega),Bool.and_false,Bool.and_false,Bool.and_false]
 rw[fI,if_pos ⟨h1,h2,xJ hs h1 h2 (by omega) (by omega) hno⟩]
structure PsOk (P:List HS):Prop where
 at0:∀x:HS,P[0]?=some x→x.fav=0
 next:∀(k:Nat) (x y:HS),P[k]?=some x→P[k+1]?=some y→y.fav=x.fav+aK x.fal.fad.fab
 rng:∀(k:Nat) (x:HS),P[k]?=some x→0≤x.fav∧x.fav≤100000∧1≤aK x.fal.fad.fab∧aK x.fal.fad.fab≤5∧0≤x.fal.fat∧x.fal.fat≤59
 len:P.length≤15000
theorem Ak {c a:Int}(h:cU c a=true):1≤aK c∧aK c≤5:=by
 unfold cU at h
 rw[Bool.and_eq_true]at h
 have:=cY c
 rw[aK,if_pos h.1]
 omega
theorem PsOk.lt {P:List HS}(h:PsOk P):∀{n k:Nat} {x y:HS},P[k]?=some x→P[k+n+1]?=some y→x.fav+aK x.fal.fad.fab≤y.fav
 | 0,k,x,y,hx,hy=>by have:=h.next k x y hx hy;omega
 | n+1,k,x,y,hx,hy=>by
  obtain⟨z,hz⟩:=ag (l:=P) (k:=k+n+1) (by have:=bg hy;omega)
  have h1:=h.lt hx hz
  have h2:=h.next (k+n+1) z y hz (by rw[show k+n+1+1=k+(n+1)+1 by omega];exact hy)
  have:=(h.rng _ z hz).2.2.1
  omega
abbrev Hf (x:Int×Int):Res:= .tup [.c (.t (.int .i64 x.1)),.c (.t (.int .i64 x.2))]
theorem mO (i0 i1:HM)(b0 b1 e:Int)(es:List Int)(hb0:0≤b0∧b0≤1000000)(hb1:0≤b1∧b1≤1000000)(hl0:i0.fab.length≤1048576)(hl1:i1.fab.length≤1048576):Sim.Spec Tryz.prog 103 [.agg (HV.mk [i0,i1] [b0,b1] es).tr,tvI e] (Hf (ep i0 i1 b0 b1 e)):=by
 refine ao hΓ ay Tryz.func103 rfl (by decide) rfl ?_
 generalize hR:ep i0 i1 b0 b1 e=R
 repeat' ((conv=>whnf);first|refine Or.inl ?_|apply oi|(apply fi<;>intro h)|refine⟨_,rfl,?_⟩|exact rfl)
 all_goals try exact⟨KO⟩
 conv=>whnf
 refine⟨{k:Nat // k≤2∧(1≤k→¬(b0≤e∧e < b0+i0.fab.length))∧(2≤k→¬(b1≤e∧e < b1+i1.fab.length))},fun k=>⟨[(1,tI .i64 e),(2,.r (.c (.ptr (2,0,0) 0))),(9,.r (.c (.t (.lst 2 [i0.tr,i1.tr])))),(10,tI .i64 2),(11,tI .i64 (k.1:Int))],[((2,0,0),some (.box (qU i0 i1 b0 b1 es)))],[2]⟩,fun k=>2 - k.1,⟨0,by omega,by omega,by omega⟩,?_,?_⟩
 ·skip
  repeat' ((conv=>whnf);first|refine Or.inl ?_|apply oi|(apply fi<;>intro h)|refine⟨_,rfl,?_⟩|exact rfl)
  all_goals try exact⟨KO⟩
 intro⟨k,hk,hk1,hk2⟩
 dsimp only
 by_cases hlt:k < 2
 ·obtain⟨i,b,hi,hb,hbb,hll,hyes,hno⟩:∃(i:HM) (b:Int),([i0.tr,i1.tr]:List (List Tr))[k]?=some i.tr∧([aa b0,aa b1]:List (List Tr))[k]?=some (aa b)∧(0≤b∧b≤1000000)∧i.fab.length≤1048576∧
    (b≤e∧e < b+i.fab.length→R=((k:Int),e - b))∧(¬(b≤e∧e < b+i.fab.length)→(1≤k+1→¬(b0≤e∧e < b0+i0.fab.length))∧(2≤k+1→¬(b1≤e∧e < b1+i1.fab.length))):=by
   have:k=0∨k=1:=by omega
   rcases this with rfl|rfl
   ·exact⟨i0,b0,rfl,rfl,hb0,hl0,fun h=>by rw[←hR,ep,if_pos h];rfl,fun h=>⟨fun _=>h,fun h2=>by omega⟩⟩
   ·exact⟨i1,b1,rfl,rfl,hb1,hl1,fun h=>by rw[←hR,ep,if_neg (hk1 (by omega)),if_pos h];rfl,fun h=>⟨fun _=>hk1 (by omega),fun _=>h⟩⟩
  by_cases hin:b≤e∧e < b+i.fab.length
  ·have hRR:=hyes hin
   have hws:IntKind.i64.wrap (e - b)=e - b:=IntWalk.i64_in _ (by omega)
   have hB:=bm e b (b+i.fab.length - 1)
   rw[within_iff.2 ⟨hin.1,by omega⟩]at hB
   subst hRR
   repeat' ((conv=>whnf);first|refine Or.inl ?_|apply oi|(apply fi<;>intro h)|refine⟨k,i.tr,rfl,hi,?_⟩|refine⟨k,aa b,rfl,hb,?_⟩|refine ci hB (ai rfl (ai rfl (ai KW trivial))) ?_|refine⟨_,rfl,?_⟩|exact rfl)
   all_goals try exact⟨KO⟩
   all_goals first
    |(exfalso;have h':=of_decide_eq_false h;omega)
    |(refine⟨congrArg (Tr.int _) ?_⟩;rw[hws])
  ·have hB:=bm e b (b+i.fab.length - 1)
   have hwf:ah e b (b+i.fab.length - 1)=false:=by
    cases hw:ah e b (b+i.fab.length - 1)with
    | false=>rfl
    | true=>have:=within_iff.1 hw;exact absurd ⟨this.1,by omega⟩ hin
   rw[hwf]at hB
   repeat' ((conv=>whnf);first|refine Or.inl ?_|apply oi|(apply fi<;>intro h)|refine⟨k,i.tr,rfl,hi,?_⟩|refine⟨k,aa b,rfl,hb,?_⟩|refine ci hB (ai rfl (ai rfl (ai KW trivial))) ?_|refine⟨_,rfl,?_⟩|exact rfl)
   all_goals try exact⟨KO⟩
   all_goals try(exfalso;have h':=of_decide_eq_false h;omega)
   all_goals conv=>whnf
   all_goals refine⟨⟨k+1,by omega,hno hin⟩,?_,KD⟩
   repeat' ((conv=>whnf);first|refine Or.inl ?_|apply oi|(apply fi<;>intro h)|refine⟨_,rfl,?_⟩|exact rfl)
   all_goals try exact⟨KO⟩
   all_goals exact⟨by dsimp only;rw[IntWalk.i64_in _ (by omega)];rfl⟩
 ·have hk2':k=2:=by omega
  subst hk2'
  have hRR:R=(-1,-1):=by rw[←hR,ep,if_neg (hk1 (by omega)),if_neg (hk2 (by omega))]
  subst hRR
  repeat' ((conv=>whnf);first|refine Or.inl ?_|apply oi|(apply fi<;>intro h)|refine⟨_,rfl,?_⟩|exact rfl)
  all_goals try exact⟨KO⟩
theorem jU (i0 i1:HM)(b0 b1 e:Int)(es:List Int)(hb0:0≤b0∧b0≤1000000)(hb1:0≤b1∧b1≤1000000)(hl0:i0.fab.length≤1048576)(hl1:i1.fab.length≤1048576):Sim.Spec Tryz.prog 165 [.agg (HV.mk [i0,i1] [b0,b1] es).tr,tvI e] (Hf (ep i0 i1 b0 b1 e)):=by
 refine ao hΓ ay Tryz.func165 rfl (by decide) rfl ?_
 have h2:([i0.tr,i1.tr]:List (List Tr)).length=2:=rfl
 generalize hR:ep i0 i1 b0 b1 e=R
 repeat' ((conv=>whnf);first|refine Or.inl ?_|apply oi|(apply fi<;>intro h)|refine⟨_,rfl,?_⟩|exact rfl)
 all_goals try exact⟨KO⟩
 conv=>whnf
 refine⟨{k:Nat // k≤2∧(1≤k→¬(b0≤e∧e < b0+i0.fab.length))∧(2≤k→¬(b1≤e∧e < b1+i1.fab.length))},fun k=>⟨[(1,tI .i64 e),(2,.r (.c (.ptr (2,0,0) 0))),(6,tI .i64 (k.1:Int))],[((2,0,0),some (.box (qU i0 i1 b0 b1 es)))],[2]⟩,fun k=>2 - k.1,⟨0,by omega,by omega,by omega⟩,?_,?_⟩
 ·skip
  repeat' ((conv=>whnf);first|refine Or.inl ?_|apply oi|(apply fi<;>intro h)|refine⟨_,rfl,?_⟩|exact rfl)
  all_goals try exact⟨KO⟩
 intro⟨k,hk,hk1,hk2⟩
 dsimp only
 by_cases hlt:k < 2
 ·obtain⟨i,b,hi,hb,hbb,hll,hyes,hno⟩:∃(i:HM) (b:Int),([i0.tr,i1.tr]:List (List Tr))[k]?=some i.tr∧([aa b0,aa b1]:List (List Tr))[k]?=some (aa b)∧(0≤b∧b≤1000000)∧i.fab.length≤1048576∧
    (b≤e∧e < b+i.fab.length→R=((k:Int),e - b))∧(¬(b≤e∧e < b+i.fab.length)→(1≤k+1→¬(b0≤e∧e < b0+i0.fab.length))∧(2≤k+1→¬(b1≤e∧e < b1+i1.fab.length))):=by
   have:k=0∨k=1:=by omega
   rcases this with rfl|rfl
   ·exact⟨i0,b0,rfl,rfl,hb0,hl0,fun h=>by rw[←hR,ep,if_pos h];rfl,fun h=>⟨fun _=>h,fun h2=>by omega⟩⟩
   ·exact⟨i1,b1,rfl,rfl,hb1,hl1,fun h=>by rw[←hR,ep,if_neg (hk1 (by omega)),if_pos h];rfl,fun h=>⟨fun _=>hk1 (by omega),fun _=>h⟩⟩
  by_cases hin:b≤e∧e < b+i.fab.length
  ·have hRR:=hyes hin
   have hws:IntKind.i64.wrap (e - b)=e - b:=IntWalk.i64_in _ (by omega)
   have hw3:IntKind.i64.wrap (b+(i.fab.length:Int))=b+i.fab.length:=IntWalk.i64_in _ (by omega)
   subst hRR
   repeat' ((conv=>whnf);first|refine Or.inl ?_|apply oi|(apply fi<;>intro h)|refine⟨k,i.tr,rfl,hi,?_⟩|refine⟨k,aa b,rfl,hb,?_⟩|refine⟨_,rfl,?_⟩|exact rfl)
   all_goals try exact⟨KO⟩
   all_goals first
    |(exfalso;have h':=of_decide_eq_false h;(try rw[hw3]at h');(try rw[h2]at h');omega)
    |(refine⟨congrArg (Tr.int _) ?_⟩;rw[hws])
  ·have hw3:IntKind.i64.wrap (b+(i.fab.length:Int))=b+i.fab.length:=IntWalk.i64_in _ (by omega)
   repeat' ((conv=>whnf);first|refine Or.inl ?_|apply oi|(apply fi<;>intro h)|refine⟨k,i.tr,rfl,hi,?_⟩|refine⟨k,aa b,rfl,hb,?_⟩|refine⟨_,rfl,?_⟩|exact rfl)
   all_goals try exact⟨KO⟩
   all_goals try(exfalso;first|(have h':=of_decide_eq_false h;rw[h2]at h';omega)|(rename_i a1;have c1:=of_decide_eq_true a1;have c2:=of_decide_eq_true h;rw[hw3]at c2;exact hin ⟨c1,c2⟩))
   all_goals conv=>whnf
   all_goals refine⟨⟨k+1,by omega,hno hin⟩,?_,KD⟩
   repeat' ((conv=>whnf);first|refine Or.inl ?_|apply oi|(apply fi<;>intro h)|refine⟨_,rfl,?_⟩|exact rfl)
   all_goals try exact⟨KO⟩
   all_goals exact⟨by dsimp only;rw[IntWalk.i64_in _ (by omega)];rfl⟩
 ·have hk2':k=2:=by omega
  subst hk2'
  have hRR:R=(-1,-1):=by rw[←hR,ep,if_neg (hk1 (by omega)),if_neg (hk2 (by omega))]
  subst hRR
  repeat' ((conv=>whnf);first|refine Or.inl ?_|apply oi|(apply fi<;>intro h)|refine⟨_,rfl,?_⟩|exact rfl)
  all_goals try exact⟨KO⟩
theorem lx {s:HV}:(∃i0 i1 b0 b1,s=⟨[i0,i1],[b0,b1],s.faq⟩)∨(bp s=false∧¬(s.faA.length=2∧s.faB.length=2)):=by
 obtain⟨im,bs,es⟩:=s
 match im,bs with
 | [i0,i1],[b0,b1]=>exact .inl ⟨i0,i1,b0,b1,rfl⟩
 | [],_=>exact .inr ⟨rfl,by simp⟩
 | [_],_=>exact .inr ⟨rfl,by simp⟩
 | _::_::_::_,_=>exact .inr ⟨rfl,by simp⟩
 | [_,_],[]=>exact .inr ⟨rfl,by simp⟩
 | [_,_],[_]=>exact .inr ⟨rfl,by simp⟩
 | [_,_],_::_::_::_=>exact .inr ⟨rfl,by simp⟩
theorem iz (s:HV)(hs:aC 1048576 s.tr):Sim.Spec Tryz.prog 29 [.agg s.tr] (rB (bp s)):=by
 rcases lx (s:=s)with⟨i0,i1,b0,b1,h⟩|⟨h,hn⟩
 ·rw[h]at hs ⊢
  exact rH i0 i1 b0 b1 s.faq hs
 ·rw[h]
  have l1:(s.faA.map HM.tr).length=s.faA.length:=by simp
  have l2:(s.faB.map aa).length=s.faB.length:=by simp
  refine ao hΓ ay Tryz.func29 rfl (by decide) rfl ?_
  repeat' ((conv=>whnf);first|refine Or.inl ?_|apply oi|(apply fi<;>intro h)|refine ci (bm _ _ _) (ai rfl (ai rfl (ai rfl trivial))) ?_|refine⟨_,rfl,?_⟩|exact rfl)
  all_goals try exact⟨KO⟩
  all_goals(exfalso;apply hn;(simp_all) <;> (constructor <;> omega))
theorem ru (i0 i1:HM)(b0 b1:Int)(es:List Int)(hs:aC 1048576 (HV.mk [i0,i1] [b0,b1] es).tr):Sim.Spec Tryz.prog 95 [.agg (HV.mk [i0,i1] [b0,b1] es).tr] (rB (eD i0 i1 b0 b1 es)):=by
 refine ao hΓ ay Tryz.func95 rfl (by decide) rfl ?_
 have hlen:(es.map aa).length=es.length:=by simp
 have hE:=aH es.length 1 6
 unfold eD
 cases hw:ah es.length 1 6 with
 | false=>
  rw[hw]at hE
  repeat' ((conv=>whnf);first|refine Or.inl ?_|apply oi|(apply fi<;>intro h)|refine ci hE (ai KW (ai rfl (ai rfl trivial))) ?_|refine⟨_,rfl,?_⟩|exact rfl)
  all_goals try exact⟨KO⟩
  all_goals(exfalso;simp at h;done)
 | true=>
  rw[hw]at hE
  repeat' ((conv=>whnf);first|refine Or.inl ?_|apply oi|(apply fi<;>intro h)|refine ci hE (ai KW (ai rfl (ai rfl trivial))) ?_|refine⟨_,rfl,?_⟩|exact rfl)
  all_goals try exact⟨KO⟩
  all_goals try(exfalso;simp at h;done)
  have hsp:=hs
  simp only[HV.tr,aC]at hsp
  have hsI:=hsp.1
  have hi0:aC 1048576 i0.tr:=bd hsI (by simp)
  have hi1:aC 1048576 i1.tr:=bd hsI (by simp)
  have hc0:i0.fab.length≤1048576:=by have:=hi0;simp only[HM.tr,aC,aA]at this;omega
  have hc1:i1.fab.length≤1048576:=by have:=hi1;simp only[HM.tr,aC,aA]at this;omega
  have hsy0:i0.fak.length≤1048576:=by have:=hi0;simp only[HM.tr,aC]at this;exact ce this.2.1
  have hsy1:i1.fak.length≤1048576:=by have:=hi1;simp only[HM.tr,aC]at this;exact ce this.2.1
  have hel:es.length≤1048576:=ce hsp.2.2.1
  rw[Bool.true_and]
  generalize hR:(ba i0 && (ah b0 1 1000000 && (ba i1 && (ah b1 1 1000000 && (!(cG i0 i1 b0 b1) && es.all fun e=>be i0 b0 e || be i1 b1 e)))))=R
  conv=>whnf
  refine⟨{k:Nat // k≤2∧(1≤k→ba i0=true∧ah b0 1 1000000=true)∧(2≤k→ba i1=true∧ah b1 1 1000000=true)},fun k=>⟨[(1,.r (.c (.ptr (1,0,0) 0))),(3,tI .i64 (k.1:Int))],[((1,0,0),some (.box (qU i0 i1 b0 b1 es)))],[1]⟩,fun k=>2 - k.1,⟨0,by omega,by omega,by omega⟩,?_,?_⟩
  ·skip
   repeat' ((conv=>whnf);first|refine Or.inl ?_|apply oi|(apply fi<;>intro h)|refine⟨_,rfl,?_⟩|exact rfl)
   all_goals try exact⟨KO⟩
  intro⟨k,hk,hk1,hk2⟩
  dsimp only
  by_cases hlt:k < 2
  ·obtain⟨i,b,hi,hb,hsi,hn1,hn2,hyes⟩:∃(i:HM) (b:Int),([i0.tr,i1.tr]:List (List Tr))[k]?=some i.tr∧([aa b0,aa b1]:List (List Tr))[k]?=some (aa b)∧aC 1048576 i.tr∧
     (ba i=false→R=false)∧(ah b 1 1000000=false→R=false)∧(ba i=true→ah b 1 1000000=true→(1≤k+1→ba i0=true∧ah b0 1 1000000=true)∧(2≤k+1→ba i1=true∧ah b1 1 1000000=true)):=by
    have:k=0∨k=1:=by omega
    rcases this with rfl|rfl
    ·exact⟨i0,b0,rfl,rfl,hi0,fun h=>by rw[←hR,h];rfl,fun h=>by rw[←hR,h];simp,fun h h'=>⟨fun _=>⟨h,h'⟩,fun h2=>by omega⟩⟩
    ·exact⟨i1,b1,rfl,rfl,hi1,fun h=>by rw[←hR,h];simp,fun h=>by rw[←hR,h];simp,fun h h'=>⟨fun _=>hk1 (by omega),fun _=>⟨h,h'⟩⟩⟩
   have hI:=sl i hsi
   have hB:=aH b 1 1000000
   cases hio:ba i with
   | false=>
    rw[hio]at hI
    rw[hn1 hio]
    repeat' ((conv=>whnf);first|refine Or.inl ?_|apply oi|(apply fi<;>intro h)|refine⟨k,i.tr,rfl,hi,?_⟩|refine ci hI (ai (ai rfl (ai rfl trivial)) trivial) ?_|refine⟨_,rfl,?_⟩|exact rfl)
    all_goals try exact⟨KO⟩
    all_goals(exfalso;first|(have h':=of_decide_eq_false h;omega)|(simp at h;done))
   | true=>
    rw[hio]at hI
    cases hbo:ah b 1 1000000 with
    | false=>
     rw[hbo]at hB
     rw[hn2 hbo]
     repeat' ((conv=>whnf);first|refine Or.inl ?_|apply oi|(apply fi<;>intro h)|refine⟨k,i.tr,rfl,hi,?_⟩|refine⟨k,aa b,rfl,hb,?_⟩|refine ci hI (ai (ai rfl (ai rfl trivial)) trivial) ?_|refine ci hB (ai rfl (ai rfl (ai rfl trivial))) ?_|refine⟨_,rfl,?_⟩|exact rfl)
     all_goals try exact⟨KO⟩
     all_goals(exfalso;first|(have h':=of_decide_eq_false h;omega)|(simp at h;done))
    | true=>
     rw[hbo]at hB
     repeat' ((conv=>whnf);first|refine Or.inl ?_|apply oi|(apply fi<;>intro h)|refine⟨k,i.tr,rfl,hi,?_⟩|refine⟨k,aa b,rfl,hb,?_⟩|refine ci hI (ai (ai rfl (ai rfl trivial)) trivial) ?_|refine ci hB (ai rfl (ai rfl (ai rfl trivial))) ?_|refine⟨_,rfl,?_⟩|exact rfl)
     all_goals try exact⟨KO⟩
     all_goals try(exfalso;first|(have h':=of_decide_eq_false h;omega)|(simp at h;done))
     conv=>whnf
     refine⟨⟨k+1,by omega,hyes hio hbo⟩,?_,KD⟩
     repeat' ((conv=>whnf);first|refine Or.inl ?_|apply oi|(apply fi<;>intro h)|refine⟨_,rfl,?_⟩|exact rfl)
     all_goals try exact⟨KO⟩
     all_goals exact⟨by dsimp only;rw[IntWalk.i64_in _ (by omega)];rfl⟩
  ·have hk2':k=2:=by omega
   subst hk2'
   obtain⟨g0,w0⟩:=hk1 (by omega)
   obtain⟨g1,w1⟩:=hk2 (by omega)
   have v0:=within_iff.1 w0
   have v1:=within_iff.1 w1
   rw[g0,g1,w0,w1,Bool.true_and,Bool.true_and,Bool.true_and,Bool.true_and]at hR
   have x0:IntKind.i64.wrap (b1+(i1.fab.length:Int))=b1+i1.fab.length:=IntWalk.i64_in _ (by omega)
   have x1:IntKind.i64.wrap (b0+(i0.fab.length:Int))=b0+i0.fab.length:=IntWalk.i64_in _ (by omega)
   cases ho:cG i0 i1 b0 b1 with
   | true=>
    rw[ho]at hR
    rw[cG,Bool.and_eq_true,Bool.and_eq_true,Bool.and_eq_true,decide_eq_true_eq,decide_eq_true_eq,decide_eq_true_eq,decide_eq_true_eq]at ho
    obtain⟨o1,o2,o3,o4⟩:=ho
    subst hR
    repeat' ((conv=>whnf);first|refine Or.inl ?_|apply oi|(apply fi<;>intro h)|refine⟨0,_,rfl,rfl,?_⟩|refine⟨1,_,rfl,rfl,?_⟩|refine⟨_,rfl,?_⟩|exact rfl)
    all_goals try exact⟨KO⟩
    all_goals(exfalso;first|(have h':=of_decide_eq_false h;(try rw[x0]at h');(try rw[x1]at h');omega)|(have h':=of_decide_eq_true h;omega))
   | false=>
    rw[ho,Bool.not_false,Bool.true_and]at hR
    have hno:¬(0 < i0.fab.length∧0 < i1.fab.length∧b0 < b1+i1.fab.length∧b1 < b0+i0.fab.length):=by
     intro⟨a,b,c,d⟩
     rw[cG,decide_eq_true a,decide_eq_true b,decide_eq_true c,decide_eq_true d]at ho
     cases ho
    have m0:=dh (imageOk_iff.1 g0).2 (by omega)
    have m1:=dh (imageOk_iff.1 g1).2 (by omega)
    have l0:=(imageOk_iff.1 g0).1
    have l1:=(imageOk_iff.1 g1).1
    repeat' ((conv=>whnf);first|refine Or.inl ?_|apply oi|(apply fi<;>intro h)|refine⟨0,_,rfl,rfl,?_⟩|refine⟨1,_,rfl,rfl,?_⟩|refine⟨_,rfl,?_⟩|exact rfl)
    all_goals try exact⟨KO⟩
    all_goals try(
     exfalso
     rename_i a1 a2 a3
     have c1:=of_decide_eq_true a1
     have c2:=of_decide_eq_true a2
     have c3:=of_decide_eq_true a3
     have c4:=of_decide_eq_true h
     rw[x0]at c3
     rw[x1]at c4
     exact hno ⟨by omega,by omega,c3,c4⟩)
    all_goals(
     conv=>whnf
     refine⟨{j:Nat // j≤es.length∧((es.drop j).all fun e=>be i0 b0 e || be i1 b1 e)=R},fun j=>⟨[(1,.r (.c (.ptr (1,0,0) 0))),(6,tI .i64 (j.1:Int))],[((1,0,0),some (.box (qU i0 i1 b0 b1 es)))],[1]⟩,fun j=>es.length - j.1,⟨0,by omega,hR⟩,?_,?_⟩
     ·skip
      repeat' ((conv=>whnf);first|refine Or.inl ?_|apply oi|(apply fi<;>intro h)|refine⟨_,rfl,?_⟩|exact rfl)
      all_goals try exact⟨KO⟩
     intro⟨j,hj,hr⟩
     dsimp only
     by_cases hjl:j < es.length
     ·obtain⟨e,he⟩:=ag hjl
      have hLoc:=jU i0 i1 b0 b1 e es (by omega) (by omega) hc0 hc1
      rw[cO he,List.all_cons,←As g0 g1 ho,AS]at hr
      by_cases c0:b0≤e∧e < b0+i0.fab.length
      ·have hl2:ep i0 i1 b0 b1 e=(0,e - b0):=by rw[ep,if_pos c0]
       rw[hl2]at hLoc hr
       rw[if_pos rfl]at hr
       have hS:=kS i0 (e - b0) hsy0
       have hrg:=lM i0.fak (e - b0)
       dsimp only at hr
       rw[mj]at hr
       generalize dQ i0.fak (e - b0)=K at *
       rcases hrg with rfl|⟨q0,q1⟩
       ·rw[show decide ((0:Int)≤-1)=false from rfl,Bool.false_and,Bool.false_and]at hr
        subst hr
        repeat' ((conv=>whnf);first|refine Or.inl ?_|apply oi|(apply fi<;>intro h)|refine⟨j,aa e,rfl,ab he,?_⟩|refine ci hLoc (ai (ai rfl (ai rfl (ai rfl trivial))) (ai rfl trivial)) ?_|refine⟨0,i0.tr,rfl,rfl,?_⟩|refine ci hS (ai (ai rfl (ai rfl trivial)) (ai rfl trivial)) ?_|refine⟨_,rfl,?_⟩|exact rfl)
        all_goals try exact⟨KO⟩
        all_goals(exfalso;first|(have h':=of_decide_eq_false h;rw[hlen]at h';omega)|(simp at h;done)|(have h':=of_decide_eq_true h;omega))
       ·obtain⟨n,rfl⟩:=Int.eq_ofNat_of_zero_le q0
        obtain⟨x,hx⟩:=ag (l:=i0.fak) (k:=n) (by omega)
        rw[Int.toNat_natCast,hx,decide_eq_true q0,Bool.true_and]at hr
        dsimp only at hr
        cases hxe:(x.fam==e - b0)with
        | false=>
         rw[hxe,Bool.false_and]at hr
         subst hr
         repeat' ((conv=>whnf);first|refine Or.inl ?_|apply oi|(apply fi<;>intro h)|refine⟨j,aa e,rfl,ab he,?_⟩|refine ci hLoc (ai (ai rfl (ai rfl (ai rfl trivial))) (ai rfl trivial)) ?_|refine⟨0,i0.tr,rfl,rfl,?_⟩|refine ci hS (ai (ai rfl (ai rfl trivial)) (ai rfl trivial)) ?_|refine⟨n,x.tr,rfl,ab hx,?_⟩|refine⟨_,rfl,?_⟩|exact rfl)
         all_goals try exact⟨KO⟩
         all_goals(exfalso;first|(have h':=of_decide_eq_false h;rw[hlen]at h';omega)|(have h':=of_decide_eq_true h;omega)|(simp only[bne,hxe]at h;simp at h;done))
        | true=>
         rw[hxe,Bool.true_and]at hr
         repeat' ((conv=>whnf);first|refine Or.inl ?_|apply oi|(apply fi<;>intro h)|refine⟨j,aa e,rfl,ab he,?_⟩|refine ci hLoc (ai (ai rfl (ai rfl (ai rfl trivial))) (ai rfl trivial)) ?_|refine⟨0,i0.tr,rfl,rfl,?_⟩|refine ci hS (ai (ai rfl (ai rfl trivial)) (ai rfl trivial)) ?_|refine⟨n,x.tr,rfl,ab hx,?_⟩|refine⟨_,rfl,?_⟩|exact rfl)
         all_goals try exact⟨KO⟩
         all_goals try(exfalso;first|(have h':=of_decide_eq_false h;rw[hlen]at h';omega)|(have h':=of_decide_eq_true h;omega)|(simp only[bne,hxe]at h;simp at h;done))
         conv=>whnf
         refine⟨⟨j+1,by omega,hr⟩,?_,KD⟩
         repeat' ((conv=>whnf);first|refine Or.inl ?_|apply oi|(apply fi<;>intro h)|refine⟨_,rfl,?_⟩|exact rfl)
         all_goals try exact⟨KO⟩
         all_goals exact⟨by dsimp only;rw[IntWalk.i64_in _ (by omega)];rfl⟩
      ·by_cases c1:b1≤e∧e < b1+i1.fab.length
       ·have hl2:ep i0 i1 b0 b1 e=(1,e - b1):=by rw[ep,if_neg c0,if_pos c1]
        rw[hl2]at hLoc hr
        rw[if_neg (by simp),if_pos rfl]at hr
        have hS:=kS i1 (e - b1) hsy1
        have hrg:=lM i1.fak (e - b1)
        dsimp only at hr
        rw[mj]at hr
        generalize dQ i1.fak (e - b1)=K at *
        rcases hrg with rfl|⟨q0,q1⟩
        ·rw[show decide ((0:Int)≤-1)=false from rfl,Bool.false_and,Bool.false_and]at hr
         subst hr
         repeat' ((conv=>whnf);first|refine Or.inl ?_|apply oi|(apply fi<;>intro h)|refine⟨j,aa e,rfl,ab he,?_⟩|refine ci hLoc (ai (ai rfl (ai rfl (ai rfl trivial))) (ai rfl trivial)) ?_|refine⟨1,i1.tr,rfl,rfl,?_⟩|refine ci hS (ai (ai rfl (ai rfl trivial)) (ai rfl trivial)) ?_|refine⟨_,rfl,?_⟩|exact rfl)
         all_goals try exact⟨KO⟩
         all_goals(exfalso;first|(have h':=of_decide_eq_false h;rw[hlen]at h';omega)|(simp at h;done)|(have h':=of_decide_eq_true h;omega))
        ·obtain⟨n,rfl⟩:=Int.eq_ofNat_of_zero_le q0
         obtain⟨x,hx⟩:=ag (l:=i1.fak) (k:=n) (by omega)
         rw[Int.toNat_natCast,hx,decide_eq_true q0,Bool.true_and]at hr
         dsimp only at hr
         cases hxe:(x.fam==e - b1)with
         | false=>
          rw[hxe,Bool.false_and]at hr
          subst hr
          repeat' ((conv=>whnf);first|refine Or.inl ?_|apply oi|(apply fi<;>intro h)|refine⟨j,aa e,rfl,ab he,?_⟩|refine ci hLoc (ai (ai rfl (ai rfl (ai rfl trivial))) (ai rfl trivial)) ?_|refine⟨1,i1.tr,rfl,rfl,?_⟩|refine ci hS (ai (ai rfl (ai rfl trivial)) (ai rfl trivial)) ?_|refine⟨n,x.tr,rfl,ab hx,?_⟩|refine⟨_,rfl,?_⟩|exact rfl)
          all_goals try exact⟨KO⟩
          all_goals(exfalso;first|(have h':=of_decide_eq_false h;rw[hlen]at h';omega)|(have h':=of_decide_eq_true h;omega)|(simp only[bne,hxe]at h;simp at h;done))
         | true=>
          rw[hxe,Bool.true_and]at hr
          repeat' ((conv=>whnf);first|refine Or.inl ?_|apply oi|(apply fi<;>intro h)|refine⟨j,aa e,rfl,ab he,?_⟩|refine ci hLoc (ai (ai rfl (ai rfl (ai rfl trivial))) (ai rfl trivial)) ?_|refine⟨1,i1.tr,rfl,rfl,?_⟩|refine ci hS (ai (ai rfl (ai rfl trivial)) (ai rfl trivial)) ?_|refine⟨n,x.tr,rfl,ab hx,?_⟩|refine⟨_,rfl,?_⟩|exact rfl)
          all_goals try exact⟨KO⟩
          all_goals try(exfalso;first|(have h':=of_decide_eq_false h;rw[hlen]at h';omega)|(have h':=of_decide_eq_true h;omega)|(simp only[bne,hxe]at h;simp at h;done))
          conv=>whnf
          refine⟨⟨j+1,by omega,hr⟩,?_,KD⟩
          repeat' ((conv=>whnf);first|refine Or.inl ?_|apply oi|(apply fi<;>intro h)|refine⟨_,rfl,?_⟩|exact rfl)
          all_goals try exact⟨KO⟩
          all_goals exact⟨by dsimp only;rw[IntWalk.i64_in _ (by omega)];rfl⟩
       ·have hl2:ep i0 i1 b0 b1 e=(-1,-1):=by rw[ep,if_neg c0,if_neg c1]
        rw[hl2]at hLoc hr
        rw[if_neg (by simp),if_neg (by simp),Bool.false_and]at hr
        subst hr
        repeat' ((conv=>whnf);first|refine Or.inl ?_|apply oi|(apply fi<;>intro h)|refine⟨j,aa e,rfl,ab he,?_⟩|refine ci hLoc (ai (ai rfl (ai rfl (ai rfl trivial))) (ai rfl trivial)) ?_|refine⟨_,rfl,?_⟩|exact rfl)
        all_goals try exact⟨KO⟩
        all_goals(exfalso;first|(have h':=of_decide_eq_false h;rw[hlen]at h';omega)|(simp at h;done))
     ·have hge:es.length≤j:=by omega
      rw[List.drop_eq_nil_of_le hge,List.all_nil]at hr
      subst hr
      repeat' ((conv=>whnf);first|refine Or.inl ?_|apply oi|(apply fi<;>intro h)|refine⟨_,rfl,?_⟩|exact rfl)
      all_goals try exact⟨KO⟩
      all_goals(exfalso;have h':=of_decide_eq_true h;rw[hlen]at h';omega))
theorem kY (s:HV)(hs:aC 1048576 s.tr):Sim.Spec Tryz.prog 95 [.agg s.tr] (rB (bp s)):=by
 rcases lx (s:=s)with⟨i0,i1,b0,b1,h⟩|⟨h,hn⟩
 ·rw[h]at hs ⊢
  exact ru i0 i1 b0 b1 s.faq hs
 ·rw[h]
  have l1:(s.faA.map HM.tr).length=s.faA.length:=by simp
  have l2:(s.faB.map aa).length=s.faB.length:=by simp
  refine ao hΓ ay Tryz.func95 rfl (by decide) rfl ?_
  repeat' ((conv=>whnf);first|refine Or.inl ?_|apply oi|(apply fi<;>intro h)|refine ci (aH _ _ _) (ai rfl (ai rfl (ai rfl trivial))) ?_|refine⟨_,rfl,?_⟩|exact rfl)
  all_goals try exact⟨KO⟩
  all_goals(exfalso;apply hn;(simp_all) <;> (constructor <;> omega))
theorem jj {s:HV}(h:bp s=true):∃i0 i1 b0 b1,s=⟨[i0,i1],[b0,b1],s.faq⟩∧(1≤s.faq.length∧s.faq.length≤6)∧(ba i0=true∧1≤b0∧b0≤1000000)∧(ba i1=true∧1≤b1∧b1≤1000000)∧cG i0 i1 b0 b1=false∧∀e∈s.faq,(be i0 b0 e || be i1 b1 e)=true:=by
 rcases lx (s:=s)with⟨i0,i1,b0,b1,hs⟩|⟨h',_⟩
 ·refine⟨i0,i1,b0,b1,hs,?_⟩
  rw[hs,bp]at h
  dsimp only at h
  rw[eD,Bool.and_eq_true,Bool.and_eq_true,Bool.and_eq_true,Bool.and_eq_true,Bool.and_eq_true,Bool.and_eq_true,within_iff,within_iff,within_iff,List.all_eq_true,Bool.not_eq_true']at h
  obtain⟨h1,h2,h3,h4,h5,h6,h7⟩:=h
  exact⟨by omega,⟨h2,h3⟩,⟨h4,h5⟩,h6,h7⟩
 ·rw[h']at h;cases h
def Hi:HQ:=⟨0,0,0,[],[],0,0⟩
def Dl (s:HV):HQ:=if bp s then⟨s.faq.headD 0,1199,1200,List.replicate 1200 0,[],0,0⟩else Hi
theorem oV (s:HV)(hs:aC 1048576 s.tr):Sim.Spec Tryz.prog 22 [.agg s.tr] (.tup [.agg ((Dl s).tr.map sD),.c (.t (.bool (bp s)))]):=by
 refine ao hΓ ay Tryz.func22 rfl (by decide) rfl ?_
 have hS:=iz s hs
 unfold Dl
 cases hok:bp s with
 | false=>
  rw[hok]at hS
  repeat' ((conv=>whnf);first|refine Or.inl ?_|apply oi|(apply fi<;>intro h)|refine ci hS (ai (ai rfl (ai rfl (ai rfl trivial))) trivial) ?_|refine⟨_,rfl,?_⟩|exact rfl)
  all_goals try exact⟨KO⟩
 | true=>
  rw[hok]at hS
  obtain⟨i0,i1,b0,b1,_,⟨hl,_⟩,_⟩:=jj hok
  match he:s.faq,hl with
  | e::es,_=>
   rw[if_pos rfl]
   repeat' ((conv=>whnf);first|refine Or.inl ?_|apply oi|(apply fi<;>intro h)|refine ci hS (ai (ai rfl (ai rfl (ai rfl trivial))) trivial) ?_|refine⟨0,aa e,rfl,(by rw[he];rfl),?_⟩|refine⟨_,rfl,?_⟩|exact rfl)
   all_goals try exact⟨KO⟩
   all_goals try(exfalso;simp at h;done)
def yS (s:HV)(a:Int):Int×Int:=match s.faA,s.faB with
 | [i0,i1],[b0,b1]=>ep i0 i1 b0 b1 a
 | _,_=>(-1,-1)
theorem nj (i0 i1:HM)(b0 b1 a:Int):ep i0 i1 b0 b1 a=(-1,-1)∨∃(i:Nat) (off:Int),i < 2∧ep i0 i1 b0 b1 a=((i:Int),off):=by
 unfold ep
 split
 ·exact .inr ⟨0,_,by omega,rfl⟩
 ·split
  ·exact .inr ⟨1,_,by omega,rfl⟩
  ·exact .inl rfl
def itH:Nat→Int→Int
 | 0,h=>h
 | n+1,h=>itH n (go h)
theorem ke:∀(n m:Nat) (h:Int),itH (n+m) h=itH m (itH n h)
 | 0,m,h=>by rw[Nat.zero_add,itH]
 | n+1,m,h=>by rw[show n+1+m=(n+m)+1 by omega,itH,itH,ke n m]
abbrev mM:Int:=9007199254740992
def Aff (n:Nat)(a c:Nat):Prop:=∀h:Int,itH n h % mM=((a:Int) * h+c) % mM
theorem zv (x:Int):IntKind.i64.wrap x % mM=x % mM:=by
 have h:IntKind.i64.wrap x % 18446744073709551616=x % 18446744073709551616:=by
  unfold IntKind.wrap
  simp[IntKind.bits,IntKind.signed]
  split <;> omega
 have h1:IntKind.i64.wrap x % 18446744073709551616 % mM=IntKind.i64.wrap x % mM:=Int.emod_emod_of_dvd _ ⟨2048,rfl⟩
 have h2:x % 18446744073709551616 % mM=x % mM:=Int.emod_emod_of_dvd _ ⟨2048,rfl⟩
 rw[←h1,←h2,h]
theorem FN:Aff 1 6364136223846793005 1442695040888963407:=by
 intro h
 show go h % mM=_
 unfold go
 rw[zv,Int.add_emod,zv,←Int.add_emod,Int.mul_comm]
 rfl
theorem Fz {n a c m b d:Nat}(h1:Aff n a c)(h2:Aff m b d):Aff (n+m) (a * b % 9007199254740992) ((b * c+d) % 9007199254740992):=by
 intro h
 rw[ke,h2,Int.add_emod,Int.mul_emod,h1,←Int.mul_emod,←Int.add_emod]
 have e1:(((a * b % 9007199254740992:Nat):Int))=((a:Int) * b) % mM:=by rw[Int.natCast_emod,Int.natCast_mul];rfl
 have e2:((((b * c+d) % 9007199254740992:Nat):Int))=((b:Int) * c+d) % mM:=by rw[Int.natCast_emod,Int.natCast_add,Int.natCast_mul];rfl
 rw[e1,e2,Int.add_emod (((a:Int) * b) % mM * h),Int.mul_emod (((a:Int) * b) % mM),Int.emod_emod_of_dvd _ (Int.dvd_refl _),Int.emod_emod_of_dvd _ (Int.dvd_refl _),←Int.mul_emod,←Int.add_emod]
 congr 1
 rw[Int.mul_add,←Int.mul_assoc,Int.mul_comm (b:Int) a,Int.add_assoc]
def zz:Nat→Nat→Nat→Nat×Nat
 | 0,a,c=>(a,c)
 | k+1,a,c=>zz k (a * a % 9007199254740992) ((a * c+c) % 9007199254740992)
theorem Bg:∀(k n a c:Nat),Aff n a c→Aff (n * 2 ^ k) (zz k a c).1 (zz k a c).2
 | 0,n,a,c,h=>by rw[Nat.pow_zero,Nat.mul_one];exact h
 | k+1,n,a,c,h=>by
  rw[zz,show n * 2 ^ (k+1)=(n+n) * 2 ^ k by rw[Nat.pow_succ,Nat.add_mul,←Nat.mul_two,Nat.mul_assoc]]
  exact Bg k (n+n) _ _ (Fz h h)
theorem Hv:(zz 51 6364136223846793005 1442695040888963407).1=1∧(zz 51 6364136223846793005 1442695040888963407).2 % 2251799813685248=0∧(zz 51 6364136223846793005 1442695040888963407).2 / 2251799813685248 % 2=1:=by decide+kernel
def byW (h:Int):Int:=IntKind.i64.wrap ((BitVec.ofInt IntKind.i64.bits (IntKind.i64.wrap ((BitVec.ofInt IntKind.i64.bits (h.fdiv (2 ^ min (Int.toNat 33) IntKind.i64.bits)) ^^^ BitVec.ofInt IntKind.i64.bits (h.fdiv (2 ^ min (Int.toNat 45) IntKind.i64.bits))).toNat:Int)) &&& BitVec.ofInt IntKind.i64.bits 255).toNat:Int)
def byN (h:Int):Nat:=(h % mM / 8589934592 % 256).toNat ^^^ (h % mM / 35184372088832 % 256).toNat
theorem Dx (x:Int):(BitVec.ofInt 64 x &&& BitVec.ofInt 64 255).toNat=(x % 256).toNat:=by
 have e:(BitVec.ofInt 64 255).toNat=2 ^ 8 - 1:=by decide
 rw[BitVec.toNat_and,e,Nat.and_two_pow_sub_one_eq_mod,BitVec.toNat_ofInt]
 omega
theorem GJ (h:Int):byW h=(byN h:Int):=by
 have e33:h.fdiv (2 ^ min (Int.toNat 33) IntKind.i64.bits)=h / 8589934592:=by
  rw[show(2:Int) ^ min (Int.toNat 33) IntKind.i64.bits=8589934592 from rfl,Int.fdiv_eq_ediv_of_nonneg _ (by decide)]
 have e45:h.fdiv (2 ^ min (Int.toNat 45) IntKind.i64.bits)=h / 35184372088832:=by
  rw[show(2:Int) ^ min (Int.toNat 45) IntKind.i64.bits=35184372088832 from rfl,Int.fdiv_eq_ediv_of_nonneg _ (by decide)]
 unfold byW
 rw[e33,e45]
 show IntKind.i64.wrap (((BitVec.ofInt 64 (IntKind.i64.wrap ((BitVec.ofInt 64 (h / 8589934592) ^^^ BitVec.ofInt 64 (h / 35184372088832)).toNat:Int)) &&& BitVec.ofInt 64 255).toNat:Nat):Int)=_
 rw[Dx]
 have hw:∀x:Int,IntKind.i64.wrap x % 256=x % 256:=fun x=>by
  unfold IntKind.wrap
  simp[IntKind.bits,IntKind.signed]
  split <;> omega
 rw[hw,BitVec.toNat_xor,BitVec.toNat_ofInt,BitVec.toNat_ofInt]
 have hx:∀a b:Nat,((a ^^^ b:Nat):Int) % 256=(((a % 256) ^^^ (b % 256):Nat):Int):=fun a b=>by
  have:=Nat.xor_mod_two_pow (a:=a) (b:=b) (n:=8)
  rw[show(2:Nat) ^ 8=256 from rfl]at this
  rw[←this]
  omega
 rw[hx]
 have h1:((h / 8589934592) % ((2 ^ 64:Nat):Int)).toNat % 256=(h % mM / 8589934592 % 256).toNat:=by
  rw[show((2 ^ 64:Nat):Int)=18446744073709551616 from rfl]
  show _=(h % 9007199254740992 / 8589934592 % 256).toNat
  omega
 have h2:((h / 35184372088832) % ((2 ^ 64:Nat):Int)).toNat % 256=(h % mM / 35184372088832 % 256).toNat:=by
  rw[show((2 ^ 64:Nat):Int)=18446744073709551616 from rfl]
  show _=(h % 9007199254740992 / 35184372088832 % 256).toNat
  omega
 rw[h1,h2,Int.toNat_natCast]
 have hb:byN h < 256:=by
  unfold byN
  exact Nat.xor_lt_two_pow (n:=8) (by omega) (by omega)
 unfold byN at hb ⊢
 rw[IntWalk.i64_in _ (by omega)]
theorem Dk (h:Int):byN h < 256:=by
 unfold byN
 exact Nat.xor_lt_two_pow (n:=8) (by omega) (by omega)
theorem Fw:∀u:Fin 256,∀lo:Fin 64,∃hi:Fin 4,(u.val ^^^ (lo.val+64 * hi.val)) % 3=2:=by decide+kernel
theorem Hu {B r:Int}(h0:0≤r)(h1:r < 2251799813685248):(2251799813685248 * B+r) % mM=2251799813685248 * (B % 4)+r:=by
 show(2251799813685248 * B+r) % 9007199254740992=_
 omega
theorem Cc {h B r:Int}(h0:0≤r)(h1:r < 2251799813685248)(he:h % mM=(2251799813685248 * B+r) % mM):byN h=(r / 8589934592 % 256).toNat ^^^ ((r / 35184372088832 % 64).toNat+64 * (B % 4).toNat):=by
 unfold byN
 rw[he,Hu h0 h1]
 have e1:(2251799813685248 * (B % 4)+r) / 8589934592 % 256=r / 8589934592 % 256:=by omega
 have e2:((2251799813685248 * (B % 4)+r) / 35184372088832 % 256).toNat=(r / 35184372088832 % 64).toNat+64 * (B % 4).toNat:=by omega
 rw[e1,e2]
theorem GQ (A:Int)(w:Nat)(hw:w % 2=1)(hi:Nat)(hh:hi < 4):∃q:Nat,q < 4∧(A+3 * (q * w:Nat)) % 4=(hi:Int):=by
 have h4:w % 4=1∨w % 4=3:=by omega
 have hA:((hi:Int) - A) % 4=0∨((hi:Int) - A) % 4=1∨((hi:Int) - A) % 4=2∨((hi:Int) - A) % 4=3:=by omega
 rcases hA with h|h|h|h
 ·exact⟨0,by omega,by omega⟩
 ·rcases h4 with h4|h4
  ·exact⟨3,by omega,by omega⟩
  ·exact⟨1,by omega,by omega⟩
 ·exact⟨2,by omega,by omega⟩
 ·rcases h4 with h4|h4
  ·exact⟨1,by omega,by omega⟩
  ·exact⟨3,by omega,by omega⟩
theorem CK {T v:Nat}(h:Aff T 1 v)(g:Int):itH (3 * T) g % mM=(g+3 * v) % mM:=by
 have s1:=h g
 have s2:=h (itH T g)
 have s3:=h (itH T (itH T g))
 rw[Int.natCast_one,Int.one_mul]at s1 s2 s3
 rw[show 3 * T=T+(T+T) by omega,ke,ke,s3,Int.add_emod,s2,←Int.add_emod,Int.add_assoc,Int.add_emod,s1,←Int.add_emod]
 congr 1
 omega
theorem vp {T v:Nat}(h:Aff T 1 v):∀(q:Nat) (g:Int),itH (q * (3 * T)) g % mM=(g+3 * (q * v:Nat)) % mM
 | 0,g=>by simp[itH]
 | q+1,g=>by
  have h3:=CK h g
  rw[show(q+1) * (3 * T)=3 * T+q * (3 * T) by rw[Nat.add_mul,Nat.one_mul,Nat.add_comm],ke,vp h q,Int.add_emod,h3,←Int.add_emod]
  congr 1
  rw[Nat.add_mul,Nat.one_mul]
  omega
theorem Df (h:Int)(K:Nat):∃k,K≤k∧byN (itH (6 * k) h) % 3=2:=by
 obtain⟨d1,d2,d3⟩:=Hv
 have h51:=Bg 51 1 _ _ FN
 rw[d1,Nat.one_mul]at h51
 generalize(zz 51 6364136223846793005 1442695040888963407).2=v at *
 have e51:(2:Nat) ^ 51=2 * 2 ^ 50:=by rw[Nat.pow_succ,Nat.mul_comm]
 rw[e51]at h51
 generalize(2:Nat) ^ 50=T at *
 obtain⟨w,rfl⟩:∃w:Nat,v=2251799813685248 * w:=⟨v / 2251799813685248,by omega⟩
 have hw1:w % 2=1:=by omega
 generalize hz:itH (6 * K) h=z at *
 obtain⟨A,r,hA,r0,r1⟩:∃A r:Int,z=2251799813685248 * A+r∧0≤r∧r < 2251799813685248:=⟨z / 2251799813685248,z % 2251799813685248,by omega,by omega,by omega⟩
 obtain⟨hi,hhi⟩:=Fw ⟨(r / 8589934592 % 256).toNat,by omega⟩ ⟨(r / 35184372088832 % 64).toNat,by omega⟩
 dsimp only at hhi
 obtain⟨q,hq,hqe⟩:=GQ A w hw1 hi.val hi.isLt
 refine⟨K+q * T,Nat.le_add_right _ _,?_⟩
 have e6:6 * (K+q * T)=6 * K+q * (3 * (2 * T)):=by
  rw[Nat.mul_add]
  congr 1
  rw[←Nat.mul_assoc 3 2 T,Nat.mul_left_comm]
 rw[e6,ke,hz]
 have hs:=vp h51 q z
 rw[hA,show(2251799813685248 * A+r+3 * ((q * (2251799813685248 * w):Nat):Int))=2251799813685248 * (A+3 * (q * w:Nat))+r by
  rw[Nat.mul_left_comm]
  generalize q * w=y
  omega]at hs
 rw[Cc r0 r1 (by rw[hA];exact hs),hqe,Int.toNat_natCast]
 exact hhi
theorem Be:∀f:Fin 101,IntKind.i64.wrap (BitVec.ofInt IntKind.i64.bits (f.val:Int) &&& BitVec.ofInt IntKind.i64.bits 1).toNat=(f.val:Int) % 2:=by decide
theorem pa (f:Nat)(b:HH)(image:Int)(hf:f≤100):Sim.Spec Tryz.prog 75 [.agg b.tr,tvI (f:Int),tvI image] (rB (qO b image f)):=by
 refine bh hΓ ay Tryz.func75 rfl (by decide) rfl ?_
 unfold qO
 have hm:=Be ⟨f,by omega⟩
 dsimp only at hm
 repeat' ((conv=>whnf);first|apply Wx|apply W6|apply oi|(apply fi<;>intro h)|refine⟨_,rfl,?_⟩|exact rfl)
 all_goals try exact⟨KP⟩
 all_goals first|exact⟨by rw[h,hm];rfl⟩|exact⟨by rw[h];rfl⟩
theorem uR:∀{L:List (Nat×List HS)},(∀x∈L,x.2.length≤2500)→(aD L).length≤2500 * L.length
 | L,h=>by
  have:=pK h (Nat.le_refl L.length)
  rwa [List.take_of_length_le (Nat.le_refl _)]at this
theorem rq (p:List HP)(b:HH)(image:Int)(hs:aA 1048576 (.lst 4 (p.map HP.tr))):Sim.Spec Tryz.prog 13 [tvP p,.agg b.tr,tvI image] (rL 8 ((fE p b image).map HS.tr)):=by
 refine bh hΓ ay Tryz.func13 rfl (by decide) rfl ?_
 have hP:=cX p hs
 have hB:=iQ b
 have gb:=aH image 0 1
 by_cases hc:ax p=true∧aV b=true∧ah image 0 1=true
 ·have hcf:fE p b image=aD (cv p b image (aF p).length 0 0):=by rw[fE,if_pos hc];rfl
  rw[hcf]
  obtain⟨h1,h2,h3⟩:=hc
  rw[h1]at hP
  rw[h2]at hB
  rw[h3]at gb
  obtain⟨h6,h60⟩:=jO h1
  have gF:=bZ p (by omega)
  have hfl:((aF p).map fun n:Nat=>aa n).length=(aF p).length:=by simp
  have hlc:=fun x (hx:x∈cv p b image (aF p).length 0 0)=>(jS hs hx).1
  repeat' ((conv=>whnf);first|apply Wx|apply W6|apply oi|(apply fi<;>intro h)|refine cl hP ?_|refine cl hB ?_|refine cl gb ?_|refine⟨_,rfl,?_⟩|exact rfl)
  all_goals try exact⟨KP⟩
  conv=>whnf
  refine⟨Hp p b image,fun q=>⟨[(0,vP p),(2,tI .i64 image),(4,.r (.c (.ptr (4,0,0) 0))),(7,.r (.c (.own (15,0,0)))),(8,tI .i64 q.1.2.1),(9,tI .i64 (q.1.1:Int))],[((15,0,0),some (.arr true 8 ((aD q.1.2.2).map HS.tr))),((4,0,0),some (.box [.t (.int .i64 b.fay),.t (.int .i64 b.far),.t (.bool b.faF),.t (.bool b.faD)]))],[15,4]⟩,fun q=>(aF p).length - q.1.1,⟨(0,0,[]),by simp,by simp,by simp,by simp⟩,?_,?_⟩
  ·skip
   repeat' ((conv=>whnf);first|apply Wx|apply W6|apply oi|(apply fi<;>intro h)|refine⟨_,rfl,?_⟩|exact rfl)
   all_goals try exact⟨KP⟩
  intro⟨⟨f,at0,acc⟩,hk,ha,hal,hr⟩
  dsimp only at hk ha hal hr ⊢
  have hac:(aD acc).length≤2500 * acc.length:=uR fun x hx=>hlc x (by rw[←hr];exact List.mem_append.2 (.inl hx))
  by_cases hlt:f < (aF p).length
  ·obtain⟨n,hn⟩:∃n,(aF p).length - f=n+1:=⟨(aF p).length - f - 1,by omega⟩
   have hi:=pa f b image (by omega)
   rw[hn,lX]at hr
   cases hin:qO b image f with
   | false=>
    rw[hin]at hi hr
    rw[if_neg (by simp)]at hr
    repeat' ((conv=>whnf);first|apply Wx|apply W6|apply oi|(apply fi<;>intro h)|refine cl gF ?_|refine cl hi ?_|refine⟨_,rfl,?_⟩|exact rfl)
    all_goals try exact⟨KP⟩
    all_goals try exact KX
    conv=>whnf
    refine⟨⟨(f+1,at0,acc),by dsimp only;omega,by dsimp only;omega,by dsimp only;omega,by dsimp only;rw[show(aF p).length - (f+1)=n by omega];exact hr⟩,?_,KD⟩
    repeat' ((conv=>whnf);first|apply Wx|apply W6|apply oi|(apply fi<;>intro h)|refine⟨_,rfl,?_⟩|exact rfl)
    all_goals try exact⟨KP⟩
    all_goals try exact⟨KW⟩
   | true=>
    rw[hin]at hi hr
    rw[if_pos rfl]at hr
    have hcs:=kL p (f:Int) b hs
    obtain⟨f1,f2,f3⟩:=Gv (f:=f) hs h1 h2 hlt
    have hch:=(gW (p:=p) (f:=(f:Int)) (b:=b) hs).2
    generalize aR p (f:Int) b=I at *
    repeat' ((conv=>whnf);first|apply Wx|apply W6|apply oi|(apply fi<;>intro h)|refine cl gF ?_|refine cl hi ?_|refine cl hcs ?_|refine⟨_,rfl,?_⟩|exact rfl)
    all_goals try exact⟨KP⟩
    all_goals try exact KX
    have hlen:(I.map HO.tr).length=I.length:=by simp
    have hsl:=qu at0 I
    have hle:=fun k (h:k≤I.length)=>iH (at0:=at0) h
    have hS0:=gT at0 I
    have hsu:=fun k x (h:I[k]?=some x)=>gR (at0:=at0) h
    have hpf:∀(k:Nat) (x:HO),I[k]?=some x→(ga I at0)[k]?=some (HS.mk (atL (bN at0 I) k) (gn (bN at0 I) k x)):=fun k x h=>gk h
    have hfl2:=dL I at0
    have hend:wP at0 I=atL (bN at0 I) I.length:=rfl
    have ye:=Fh (l:=I) (at0:=at0)
    generalize bN at0 I=S at *
    generalize ga I at0=F at *
    generalize wP at0 I=E at *
    conv=>whnf
    refine⟨{k:Nat // k≤I.length},fun k=>⟨[(0,vP p),(2,tI .i64 image),(4,.r (.c (.ptr (4,0,0) 0))),(7,.r (.c (.own (15,0,0)))),(8,tI .i64 (atL S k.1)),(9,tI .i64 (f:Int)),(10,.r (.c (.own (45,0,0)))),(11,.r (.c (.own (46,0,0)))),(12,tI .i64 (k.1:Int))],[((46,0,0),some (.arr true 1 ((S.take k.1).map aa))),((45,0,0),some (.arr true 7 (I.map HO.tr))),((15,0,0),some (.arr true 8 ((aD acc).map HS.tr))),((4,0,0),some (.box [.t (.int .i64 b.fay),.t (.int .i64 b.far),.t (.bool b.faF),.t (.bool b.faD)]))],[46,45,15,4]⟩,fun k=>I.length - k.1,⟨0,by omega⟩,?_,?_⟩
    ·skip
     repeat' ((conv=>whnf);first|apply Wx|apply W6|apply oi|(apply fi<;>intro h)|refine⟨_,rfl,?_⟩|exact rfl)
     all_goals try exact⟨KP⟩
     all_goals try exact⟨by rw[hS0]⟩
    intro⟨k,hk⟩
    dsimp only
    have hlk:=hle k hk
    by_cases hlt2:k < I.length
    ·obtain⟨x,hx⟩:=ag hlt2
     have hz:=ic x.fad.fab
     have ho:=mJ x.fad.fab
     have hs1:=hsu k x hx
     have hg:S[k]?=some (atL S k):=wZ (by omega)
     have hkr:k < (I.map HO.tr).length:=by omega
     have hxr:(I.map HO.tr)[k]?=some x.tr:=ab hx
     repeat' ((conv=>whnf);first|apply Wx|apply W6|apply oi|(apply fi<;>intro h)|refine⟨k,rfl,hkr,?_⟩|refine⟨_,hxr,?_⟩|refine cl ho ?_|refine⟨_,rfl,?_⟩|exact rfl)
     all_goals try exact⟨KP⟩
     all_goals try exact KX
     all_goals try exact⟨⟨by simp <;> omega,by simp <;> omega⟩⟩
     conv=>whnf
     refine⟨⟨k+1,by omega⟩,?_,KD⟩
     repeat' ((conv=>whnf);first|apply Wx|apply W6|apply oi|(apply fi<;>intro h)|refine⟨_,rfl,?_⟩|exact rfl)
     all_goals try exact⟨KP⟩
     all_goals try exact⟨KW⟩
     all_goals try exact⟨by rw[dH hg,List.map_append];rfl⟩
     all_goals try exact⟨congrArg (Tr.int .i64) (by rw[hs1,IntWalk.i64_in _ (by omega)])⟩
    ·have hkl:k=I.length:=by omega
     subst hkl
     have hg:S[I.length]?=some (atL S I.length):=wZ (by omega)
     repeat' ((conv=>whnf);first|apply Wx|apply W6|apply oi|(apply fi<;>intro h)|refine⟨_,rfl,?_⟩|exact rfl)
     all_goals try exact⟨KP⟩
     all_goals try exact KX
     all_goals try exact⟨⟨by simp <;> omega,by simp <;> omega⟩⟩
     conv=>whnf
     refine⟨{k:Nat // k≤I.length},fun k=>⟨[(0,vP p),(2,tI .i64 image),(4,.r (.c (.ptr (4,0,0) 0))),(7,.r (.c (.own (15,0,0)))),(8,tI .i64 (atL S I.length)),(9,tI .i64 (f:Int)),(10,.r (.c (.own (45,0,0)))),(11,.r (.c (.own (69,0,0)))),(13,tI .i64 (k.1:Int))],[((69,0,0),some (.arr true 1 (S.map aa))),((45,0,0),some (.arr true 7 (I.map HO.tr))),((15,0,0),some (.arr true 8 ((aD acc++F.take k.1).map HS.tr))),((4,0,0),some (.box [.t (.int .i64 b.fay),.t (.int .i64 b.far),.t (.bool b.faF),.t (.bool b.faD)]))],[69,45,15,4]⟩,fun k=>I.length - k.1,⟨0,by omega⟩,?_,?_⟩
     ·skip
      repeat' ((conv=>whnf);first|apply Wx|apply W6|apply oi|(apply fi<;>intro h)|refine⟨_,rfl,?_⟩|exact rfl)
      all_goals try exact⟨KP⟩
      all_goals try exact⟨by rw[show [[Tr.int .i64 (atL S I.length)]]=[atL S I.length].map aa from rfl,←List.map_append,←dH hg,List.take_of_length_le (by omega)]⟩
      all_goals try exact⟨by simp⟩
     intro⟨k,hk⟩
     dsimp only
     have hol:((aD acc++F.take k).map HS.tr).length=(aD acc).length+k:=by rw[List.length_map,List.length_append,List.length_take];omega
     have hml:(S.map aa).length=I.length+1:=by rw[List.length_map];exact hsl
     have mg:∀j,j≤I.length→(S.map aa)[j]?=some (aa (atL S j)):=fun j hj=>by rw[List.getElem?_map,wZ (by omega)];rfl
     by_cases hlt2:k < I.length
     ·obtain⟨x,hx⟩:=ag hlt2
      have hpg:=hpf k x hx
      have hsn:(aD acc++F.take (k+1)).map HS.tr=(aD acc++F.take k).map HS.tr++[(HS.mk (atL S k) (gn S k x)).tr]:=by rw[dH hpg,←List.append_assoc,List.map_append];rfl
      have hkr:k < (I.map HO.tr).length:=by omega
      have hxr:(I.map HO.tr)[k]?=some x.tr:=ab hx
      have hw1:IntKind.i64.wrap ((k:Int)+1)=((k+1:Nat):Int):=by rw[IntWalk.i64_in _ (by omega)];rfl
      have hk0:k < (S.map aa).length:=by omega
      have hk1:k+1 < (S.map aa).length:=by omega
      have m0:=mg k (by omega)
      have m1:=mg (k+1) (by omega)
      have b1:=hle (k+1) (by omega)
      cases hjx:nN x with
      | true=>
       obtain⟨ja,jb⟩:=f3 x (List.mem_of_getElem? hx) hjx
       have hwa:x.fad.faf=((x.fad.faf.toNat:Nat):Int):=(Int.toNat_of_nonneg ja).symm
       have hal2:x.fad.faf.toNat < (S.map aa).length:=by omega
       have m2:=mg x.fad.faf.toNat (by omega)
       have b2:=hle x.fad.faf.toNat (by omega)
       have hji:gn S k x=xF x (IntKind.i64.wrap (atL S x.fad.faf.toNat - atL S (k+1))):=by rw[gn,if_pos hjx,IntWalk.i64_in _ (by omega)]
       rw[iL]at hjx
       repeat' ((conv=>whnf);first|apply Wx|apply W6|apply oi|(apply fi<;>intro h)|refine⟨k,rfl,hkr,?_⟩|refine⟨_,hxr,?_⟩|refine⟨k,rfl,hk0,?_⟩|refine⟨k+1,hw1,hk1,?_⟩|refine⟨_,hwa,hal2,?_⟩|refine⟨_,m0,?_⟩|refine⟨_,m1,?_⟩|refine⟨_,m2,?_⟩|refine⟨_,rfl,?_⟩|exact rfl)
       all_goals try exact⟨KP⟩
       all_goals try exact KX
       all_goals try exact KK
       all_goals try exact⟨⟨by simp only[List.length_nil,List.length_cons,hol] <;> omega,by simp only[List.length_nil,List.length_cons,hol] <;> omega⟩⟩
       all_goals(
        conv=>whnf
        refine⟨⟨k+1,by omega⟩,?_,KD⟩
        repeat' ((conv=>whnf);first|apply Wx|apply W6|apply oi|(apply fi<;>intro h)|refine⟨_,rfl,?_⟩|exact rfl)
        all_goals try exact⟨KP⟩
        all_goals try exact⟨KW⟩
        all_goals try exact⟨by dsimp only;rw[hsn,hji];rfl⟩)
      | false=>
       have hji:gn S k x=x:=by rw[gn,if_neg (by rw[hjx];simp)]
       have hjn:¬(x.fad.fab=10∨x.fad.fab=11):=by rw[←iL,hjx];simp
       repeat' ((conv=>whnf);first|apply Wx|apply W6|apply oi|(apply fi<;>intro h)|refine⟨k,rfl,hkr,?_⟩|refine⟨_,hxr,?_⟩|refine⟨k,rfl,hk0,?_⟩|refine⟨_,m0,?_⟩|refine⟨_,rfl,?_⟩|exact rfl)
       all_goals try exact⟨KP⟩
       all_goals try exact KX
       all_goals try exact KK
       all_goals try exact⟨⟨by simp only[List.length_nil,List.length_cons,hol] <;> omega,by simp only[List.length_nil,List.length_cons,hol] <;> omega⟩⟩
       all_goals(
        conv=>whnf
        refine⟨⟨k+1,by omega⟩,?_,KD⟩
        repeat' ((conv=>whnf);first|apply Wx|apply W6|apply oi|(apply fi<;>intro h)|refine⟨_,rfl,?_⟩|exact rfl)
        all_goals try exact⟨KP⟩
        all_goals try exact⟨KW⟩
        all_goals try exact⟨by dsimp only;rw[hsn,hji];rfl⟩)
     ·have hkl:k=I.length:=by omega
      subst hkl
      repeat' ((conv=>whnf);first|apply Wx|apply W6|apply oi|(apply fi<;>intro h)|refine⟨_,rfl,?_⟩|exact rfl)
      all_goals try exact⟨KP⟩
      all_goals try exact KX
      conv=>whnf
      refine⟨⟨(f+1,E,acc++[(f,F)]),by dsimp only;omega,by dsimp only;omega,by simp;omega,by dsimp only;rw[List.append_assoc,show(aF p).length - (f+1)=n by omega];exact hr⟩,?_,KD⟩
      repeat' ((conv=>whnf);first|apply Wx|apply W6|apply oi|(apply fi<;>intro h)|refine⟨_,rfl,?_⟩|exact rfl)
      all_goals try exact⟨KP⟩
      all_goals try exact⟨KW⟩
      all_goals try exact⟨by rw[hend]⟩
      all_goals try exact⟨by rw[mS,List.take_of_length_le (by omega)]⟩
  ·rw[show(aF p).length - f=0 by omega]at hr
   have hr2:acc=cv p b image (aF p).length 0 0:=by rw[←hr];simp[cv]
   repeat' ((conv=>whnf);first|apply Wx|apply W6|apply oi|(apply fi<;>intro h)|refine cl gF ?_|refine⟨_,rfl,?_⟩|exact rfl)
   all_goals try exact⟨KP⟩
   all_goals try exact KX
   all_goals exact⟨by rw[hr2]⟩
 ·have hcf:fE p b image=[]:=by rw[fE,if_neg hc]
  rw[hcf]
  cases h1:ax p with
  | false=>
   rw[h1]at hP
   repeat' ((conv=>whnf);first|apply Wx|apply W6|apply oi|(apply fi<;>intro h)|refine cl hP ?_|refine cl hB ?_|refine cl gb ?_|refine⟨_,rfl,?_⟩|exact rfl)
   all_goals try exact⟨KP⟩
   all_goals try exact KX
  | true=>
   rw[h1]at hP
   cases h2:aV b with
   | false=>
    rw[h2]at hB
    repeat' ((conv=>whnf);first|apply Wx|apply W6|apply oi|(apply fi<;>intro h)|refine cl hP ?_|refine cl hB ?_|refine cl gb ?_|refine⟨_,rfl,?_⟩|exact rfl)
    all_goals try exact⟨KP⟩
    all_goals try exact KX
   | true=>
    rw[h2]at hB
    cases h3:ah image 0 1 with
    | true=>exact absurd ⟨h1,h2,h3⟩ hc
    | false=>
     rw[h3]at gb
     repeat' ((conv=>whnf);first|apply Wx|apply W6|apply oi|(apply fi<;>intro h)|refine cl hP ?_|refine cl hB ?_|refine cl gb ?_|refine⟨_,rfl,?_⟩|exact rfl)
     all_goals try exact⟨KP⟩
     all_goals try exact KX
theorem gr (p:List HP)(b:HH)(image:Int)(hs:aA 1048576 (.lst 4 (p.map HP.tr))):Sim.Spec Tryz.prog 38 [tvP p,.agg b.tr,tvI image] (.r (.agg ((aj p b image).tr.map sD))):=by
 refine bh hΓ ay Tryz.func38 rfl (by decide) rfl ?_
 have hP:=rq p b image hs
 by_cases hc:ax p=true∧aV b=true∧ah image 0 1=true
 ·have hcf:aj p b image=⟨aq (aD (cv p b image (aF p).length 0 0)),bG p 0 (cv p b image (aF p).length 0 0)⟩:=by rw[aj,if_pos hc]
  have hpf:fE p b image=aD (cv p b image (aF p).length 0 0):=by rw[fE,if_pos hc];rfl
  rw[hcf]
  rw[hpf]at hP
  obtain⟨h1,h2,h3⟩:=hc
  obtain⟨h6,h60⟩:=jO h1
  have hll:=jY p b image (aF p).length 0 0
  have hlc:=fun x (hx:x∈cv p b image (aF p).length 0 0)=>(jS hs hx).1
  have hfa:=fun{i:Nat} {x:Nat×List HS} {j:Nat} {y:HS} (h:(cv p b image (aF p).length 0 0)[i]?=some x) (hy:x.2[j]?=some y)=>kJ hs h1 h2 h hy
  have hla:=fun{i:Nat} {x:Nat×List HS} (h:(cv p b image (aF p).length 0 0)[i]?=some x)=>(mz hs h1 h2 (by omega) h).2
  generalize cv p b image (aF p).length 0 0=L at *
  repeat' ((conv=>whnf);first|apply Wx|apply W6|apply oi|(apply fi<;>intro h)|refine cl hP ?_|refine⟨_,rfl,?_⟩|exact rfl)
  all_goals try exact⟨KP⟩
  conv=>whnf
  refine⟨{q:Nat×Nat // q.1≤L.length∧(∀x,L[q.1]?=some x→q.2 < x.2.length)∧(q.1=L.length→q.2=0)},fun q=>⟨[(0,vP p),(6,.r (.c (.ptr (6,0,0) 0))),(7,.r (.c (.ptr (7,0,0) 0))),(8,.r (.c (.own (15,0,0)))),(9,tI .i64 (((aD (L.take q.1.1)).length+q.1.2:Nat):Int))],[((6,0,0),some (.box [.t (.str []),.nils 0])),((7,0,0),some (.box [.t (.str (fv L q.1.1 q.1.2)),.own (7,0,1)])),((7,0,1),some (.arr true 3 ((iR p L q.1.1 q.1.2).map HW.tr))),((15,0,0),some (.arr true 8 ((aD L).map HS.tr)))],[15,7,6]⟩,fun q=>(aD L).length+1 - ((aD (L.take q.1.1)).length+q.1.2),⟨(0,0),by dsimp only;omega,by intro x hx;exact(hla hx).2,fun _=>rfl⟩,?_,?_⟩
  ·skip
   repeat' ((conv=>whnf);first|apply Wx|apply W6|apply oi|(apply fi<;>intro h)|refine⟨_,rfl,?_⟩|exact rfl)
   all_goals try exact⟨KP⟩
   all_goals try exact⟨by rw[Ac];rfl⟩
   all_goals try exact⟨by rw[sO];rfl⟩
  intro⟨⟨i,j⟩,hi,hj,he⟩
  dsimp only at hi hj he ⊢
  by_cases hlt:i < L.length
  ·obtain⟨x,hx⟩:=ag hlt
   have hjx:=hj x hx
   obtain⟨y,hy⟩:=ag hjx
   obtain⟨hPI,hoff⟩:=hfa hx hy
   have hat:=DZ hx hy
   have hkl:=bg hat
   have hal:=uR hlc
   have hal2:=Nat.mul_le_mul_left 2500 (show L.length≤6 by omega)
   have hkm:(aD (L.take i)).length+j < ((aD L).map HS.tr).length:=by rw[List.length_map];exact hkl
   have hgm:((aD L).map HS.tr)[(aD (L.take i)).length+j]?=some y.tr:=ab hat
   have hE:=rD y.fal.fad
   have hE5:=qY y.fal.fad
   obtain⟨⟨i',j'⟩,q1,q2,q3,q4,q5,q6⟩:=En (p:=p) (fun{i x} h=>(hla (i:=i) h).2) hx hjx
   dsimp only at q1 q2 q3 q4 q5 q6
   rw[Ce hx hy]at q5
   rw[vy hx]at q6
   have hcl:=Cv (j:=j) hx
   have hcl2:=iB (aD (L.take i))
   have hcl3:=iB (x.2.take j)
   have hcl4:(aD (L.take i)).length≤(aD L).length:=by omega
   have hcl5:(x.2.take j).length≤2500:=by have:=hlc x (List.mem_of_getElem? hx);rw[List.length_take];omega
   have hcl6:aq (x.2.take (j+1))=aq (x.2.take j)++aX y.fal.fad:=by rw[dH hy,aO,eQ]
   rw[hcl6,List.length_append]at q6
   have hS0:(bG p 0 (L.take i)).length=i:=by rw[kB,List.length_take];omega
   rcases Nat.eq_zero_or_pos j with rfl|hj0
   ·obtain⟨hcode,g,ln,hf1,hf2,hf3,hf4⟩:=hPI.head rfl
    have hnm:bk p x.1=ln.fac:=by rw[bk,hf1];dsimp only;rw[hf3]
    rw[sO]
    have hz0:aq (x.2.take 0)=[]:=by simp[aq]
    rw[hz0]at q6 hcl hoff
    rw[List.length_nil]at hcl hoff
    generalize fv L i 0=C at *
    generalize bG p 0 (L.take i)=S0 at *
    generalize aX y.fal.fad=EB at *
    generalize aq (aD (L.take i))=C0 at *
    have hix:IntKind.i64.wrap (((S0.map HW.tr++[[Tr.str ln.fac,Tr.int .i64 y.fav,Tr.int .i64 0]]).length:Int) - 1)=(i:Int):=by
     rw[List.length_append,List.length_map,hS0];simp only[List.length_cons,List.length_nil];rw[IntWalk.i64_in _ (by omega)];omega
    have hil:i < (S0.map HW.tr++[[Tr.str ln.fac,Tr.int .i64 y.fav,Tr.int .i64 0]]).length:=by
     rw[List.length_append,List.length_map,hS0];simp
    have hig:(S0.map HW.tr++[[Tr.str ln.fac,Tr.int .i64 y.fav,Tr.int .i64 0]])[i]?=some [Tr.str ln.fac,Tr.int .i64 y.fav,Tr.int .i64 0]:=by
     rw[List.getElem?_append_right (by rw[List.length_map,hS0];exact Nat.le_refl _),List.length_map,hS0];simp
    have fin:∀(KK:List (List Tr)),KK=(S0.map HW.tr++[[Tr.str ln.fac,Tr.int .i64 y.fav,Tr.int .i64 0]]).set i [Tr.str ln.fac,Tr.int .i64 y.fav,Tr.int .i64 (IntKind.i64.wrap (((C++EB).length:Int) - y.fav))]→KK=(iR p L i' j').map HW.tr:=fun KK h=>by
     rw[h,q6,hnm,List.set_append_right _ _ (by rw[List.length_map,hS0];exact Nat.le_refl _),List.length_map,hS0,Nat.sub_self,List.map_append,List.length_append,IntWalk.i64_in _ (by omega)]
     simp only[List.set_cons_zero,List.map_cons,List.map_nil,HW.tr]
     congr 6 <;> (simp only[List.length_nil];omega)
    rcases hcode with hcode|hcode
    all_goals(
     repeat' ((conv=>whnf);first|apply Wx|apply W6|apply oi|(apply fi<;>intro h)|refine⟨_,rfl,hkm,?_⟩|refine⟨_,hgm,?_⟩|refine cl hE ?_|refine⟨g,ln.tr,hf2,ab hf3,?_⟩|refine⟨_,hix,hil,?_⟩|refine⟨_,hig,?_⟩|refine⟨_,rfl,?_⟩|exact rfl)
     all_goals try exact⟨KP⟩
     all_goals try exact KK
     all_goals try exact⟨by omega⟩
     all_goals try exact⟨⟨by simp only[List.length_nil,List.length_cons,List.length_map,hS0] <;> omega,by simp only[List.length_nil,List.length_cons,List.length_map,hS0] <;> omega⟩⟩
     all_goals(
      conv=>whnf
      refine⟨⟨(i',j'),q1,q2,q3⟩,?_,KD⟩
      repeat' ((conv=>whnf);first|apply Wx|apply W6|apply oi|(apply fi<;>intro h)|refine⟨_,rfl,?_⟩|exact rfl)
      all_goals try exact⟨KP⟩
      all_goals try exact⟨KW⟩
      all_goals try exact⟨by rw[q5]⟩
      all_goals try exact⟨fin _ rfl⟩
      all_goals exact⟨congrArg (Tr.int _) (by dsimp only;rw[IntWalk.i64_in _ (by omega)];omega)⟩))
   ·obtain⟨j,rfl⟩:∃j0,j=j0+1:=⟨j - 1,by omega⟩
    obtain⟨hcode,m,ln,hf2,hf3,hf4⟩:=hPI.body hj0
    rw[vy hx]
    generalize fv L i (j+1)=C at *
    generalize bG p 0 (L.take i)=S0 at *
    generalize aX y.fal.fad=EB at *
    generalize aq (aD (L.take i))=C0 at *
    generalize aq (x.2.take (j+1))=C1 at *
    have hix:IntKind.i64.wrap ((((S0++[(⟨bk p x.1,(C0.length:Int),(C1.length:Int)⟩:HW)]).map HW.tr).length:Int) - 1)=(i:Int):=by
     rw[List.length_map,List.length_append,hS0];simp only[List.length_cons,List.length_nil];rw[IntWalk.i64_in _ (by omega)];omega
    have hil:i < ((S0++[(⟨bk p x.1,(C0.length:Int),(C1.length:Int)⟩:HW)]).map HW.tr).length:=by
     rw[List.length_map,List.length_append,hS0];simp
    have hig:((S0++[(⟨bk p x.1,(C0.length:Int),(C1.length:Int)⟩:HW)]).map HW.tr)[i]?=some [Tr.str (bk p x.1),Tr.int .i64 (C0.length:Int),Tr.int .i64 (C1.length:Int)]:=by
     rw[List.getElem?_map,List.getElem?_append_right (by rw[hS0];exact Nat.le_refl _),hS0];simp[HW.tr]
    have fin:∀(KK:List (List Tr)),KK=((S0++[(⟨bk p x.1,(C0.length:Int),(C1.length:Int)⟩:HW)]).map HW.tr).set i [Tr.str (bk p x.1),Tr.int .i64 (C0.length:Int),Tr.int .i64 (IntKind.i64.wrap (((C++EB).length:Int) - (C0.length:Int)))]→KK=(iR p L i' j').map HW.tr:=fun KK h=>by
     rw[h,q6,List.map_append,List.set_append_right _ _ (by rw[List.length_map,hS0];exact Nat.le_refl _),List.length_map,hS0,Nat.sub_self,List.map_append,List.length_append,IntWalk.i64_in _ (by omega)]
     simp only[List.set_cons_zero,List.map_cons,List.map_nil,HW.tr]
     congr 6;omega
    repeat' ((conv=>whnf);first|apply Wx|apply W6|apply oi|(apply fi<;>intro h)|refine⟨_,rfl,hkm,?_⟩|refine⟨_,hgm,?_⟩|refine cl hE ?_|refine⟨m,ln.tr,hf2,ab hf3,?_⟩|refine⟨_,hix,hil,?_⟩|refine⟨_,hig,?_⟩|refine⟨_,rfl,?_⟩|exact rfl)
    all_goals try exact⟨KP⟩
    all_goals try exact KK
    all_goals try exact⟨by omega⟩
    all_goals(
     conv=>whnf
     refine⟨⟨(i',j'),q1,q2,q3⟩,?_,KD⟩
     repeat' ((conv=>whnf);first|apply Wx|apply W6|apply oi|(apply fi<;>intro h)|refine⟨_,rfl,?_⟩|exact rfl)
     all_goals try exact⟨KP⟩
     all_goals try exact⟨KW⟩
     all_goals try exact⟨by rw[q5]⟩
     all_goals try exact⟨fin _ rfl⟩
     all_goals exact⟨congrArg (Tr.int _) (by dsimp only;rw[IntWalk.i64_in _ (by omega)];omega)⟩)
  ·have hil:i=L.length:=by omega
   subst hil
   have hj0:=he rfl
   subst hj0
   rw[Dc,CC,List.take_of_length_le (Nat.le_refl _)]
   repeat' ((conv=>whnf);first|apply Wx|apply W6|apply oi|(apply fi<;>intro h)|refine⟨_,rfl,?_⟩|exact rfl)
   all_goals try exact⟨KP⟩
   all_goals try(exfalso;simp only[List.length_map,decide_eq_true_eq]at h;omega)
 ·have hcf:aj p b image=⟨[],[]⟩:=by rw[aj,if_neg hc]
  have hpf:fE p b image=[]:=by rw[fE,if_neg hc]
  rw[hcf]
  rw[hpf]at hP
  repeat' ((conv=>whnf);first|apply Wx|apply W6|apply oi|(apply fi<;>intro h)|refine cl hP ?_|refine⟨_,rfl,?_⟩|exact rfl)
  all_goals try exact⟨KP⟩
  conv=>whnf
  refine⟨Unit,fun _=>⟨[(0,vP p),(6,.r (.c (.ptr (6,0,0) 0))),(7,.r (.c (.ptr (7,0,0) 0))),(8,.r (.c (.own (15,0,0)))),(9,tI .i64 0)],[((6,0,0),some (.box [.t (.str []),.nils 0])),((7,0,0),some (.box [.t (.str []),.own (7,0,1)])),((7,0,1),some (.arr true 3 [])),((15,0,0),some (.arr true 8 []))],[15,7,6]⟩,fun _=>0,(),?_,?_⟩
  ·skip
   repeat' ((conv=>whnf);first|apply Wx|apply W6|apply oi|(apply fi<;>intro h)|refine⟨_,rfl,?_⟩|exact rfl)
   all_goals try exact⟨KP⟩
  intro _
  repeat' ((conv=>whnf);first|apply Wx|apply W6|apply oi|(apply fi<;>intro h)|refine⟨_,rfl,?_⟩|exact rfl)
  all_goals try exact⟨KP⟩
  all_goals try(exfalso;simp at h;done)
theorem wY {p:List HP}(hs:aA 1048576 (.lst 4 (p.map HP.tr)))(f:Nat):(bk p f).length≤1048576:=by
 unfold bk
 split
 ·split
  ·rename_i g _ y hy
   have:=bd hs (List.mem_of_getElem? hy)
   simp only[HP.tr,aC,aA]at this
   omega
  ·simp
 ·simp
theorem ox {p:List HP}(hs:aA 1048576 (.lst 4 (p.map HP.tr))):∀(L:List (Nat×List HS)) (at0:Int) (x:HW),x∈bG p at0 L→x.fac.length≤1048576
 | [],_,_,h=>by cases h
 |(f,l)::L,at0,x,h=>by
  rw[bG]at h
  rcases List.mem_cons.1 h with rfl|h
  ·exact wY hs f
  ·exact ox hs L _ x h
theorem lT {p:List HP}{b:HH}{image:Int}(hs:aA 1048576 (.lst 4 (p.map HP.tr))):aC 1048576 (aj p b image).tr:=by
 rw[aj]
 split
 ·rename_i hc
  obtain⟨h1,h2,h3⟩:=hc
  obtain⟨h6,_⟩:=jO h1
  have hll:=jY p b image (aF p).length 0 0
  have hal:=uR fun x (hx:x∈cv p b image (aF p).length 0 0)=>(jS hs hx).1
  have hcl:=iB (aD (cv p b image (aF p).length 0 0))
  have hal2:=Nat.mul_le_mul_left 2500 (show(cv p b image (aF p).length 0 0).length≤6 by omega)
  refine⟨by simp only[aA];omega,?_,trivial⟩
  exact il (by rw[kB];omega) fun x hx=>by
   have:=ox hs _ _ x hx
   simp only[HW.tr,aC,aA]
   exact⟨by omega,trivial,trivial,trivial⟩
 ·simp[HM.tr,aC,aA,eX]
theorem mR {p:List HP}{b:HH}{image:Int}(h6:(aF p).length≤6):(aj p b image).fak.length≤6:=by
 unfold aj
 split
 ·dsimp only
  rw[kB]
  have:=jY p b image (aF p).length 0 0
  omega
 ·simp
theorem uO {F:Nat→List Int}(h:∀f,(F f).length≤12):∀n,(jt F n).length≤12 * n
 | 0=>by simp[jt]
 | n+1=>by have:=uO h n;have:=h n;rw[jt,List.length_append];omega
theorem sE {p:List HP}{b:HH}(hs:aA 1048576 (.lst 4 (p.map HP.tr)))(h6:(aF p).length≤6){first second:Int}:aC 1048576 (dv p b first second).tr:=by
 have a0:=lT (b:=b) (image:=0) hs
 have a1:=lT (b:=b) (image:=1) hs
 have hi:∀ns:List Int,ns.length≤1048576→aA 1048576 (.lst 1 (ns.map aa)):=fun ns hn=>il (by omega) fun x hx=>by simp[aa,aC,aA]
 refine⟨?_,hi _ (by simp[dv]),hi _ (by simp[dv,entries];omega),trivial⟩
 simp only[dv]
 rw[aA]
 exact⟨by simp,a0,a1,trivial⟩
theorem qq (p:List HP)(b:HH)(first second:Int)(hs:aA 1048576 (.lst 4 (p.map HP.tr))):Sim.Spec Tryz.prog 65 [tvP p,.agg b.tr,tvI first,tvI second] (.tup [.agg ((oSp (fI p b first second)).tr.map sD),.c (.t (.bool (fI p b first second).isSome))]):=by
 refine bh hΓ ay Tryz.func65 rfl (by decide) rfl ?_
 have hP:=cX p hs
 have hB:=iQ b
 cases h1:ax p with
 | false=>
  rw[h1]at hP
  rw[show fI p b first second=none by rw[fI,if_neg (by rw[h1];simp)]]
  repeat' ((conv=>whnf);first|apply Wx|apply W6|apply oi|(apply fi<;>intro h)|refine cl hP ?_|refine cl hB ?_|refine⟨_,rfl,?_⟩|exact rfl)
  all_goals try exact⟨KP⟩
  all_goals try exact KX
 | true=>
  rw[h1]at hP
  cases h2:aV b with
  | false=>
   rw[h2]at hB
   rw[show fI p b first second=none by rw[fI,if_neg (by rw[h2];simp)]]
   repeat' ((conv=>whnf);first|apply Wx|apply W6|apply oi|(apply fi<;>intro h)|refine cl hP ?_|refine cl hB ?_|refine⟨_,rfl,?_⟩|exact rfl)
   all_goals try exact⟨KP⟩
   all_goals try exact KX
  | true=>
   rw[h2]at hB
   obtain⟨h6,h60⟩:=jO h1
   have hA0:=gr p b 0 hs
   have hA1:=gr p b 1 hs
   have gF:=bZ p (by omega)
   have hfl:((aF p).map fun n:Nat=>aa n).length=(aF p).length:=by simp
   have hsp:=kY (dv p b first second) (sE hs h6)
   repeat' ((conv=>whnf);first|(with_reducible apply W1;fail_if_success (with_reducible show Wo _ _ _ _ (Code.region 4 _ _) _ _))|(with_reducible first|apply W2|apply W3|apply W4|apply W5|apply W6|apply W7|apply W8|apply W9)|apply ae|apply oi|(apply fi<;>intro h)|refine cl hP ?_|refine cl hB ?_|refine cl hA0 ?_|refine cl hA1 ?_|refine⟨_,rfl,?_⟩|exact rfl)
   all_goals try exact⟨KP⟩
   all_goals try exact KX
   all_goals try exact⟨oX _ (by intro x c hc sz rs e;subst e;simp[HW.tr]at hc)⟩
   have hS0:(aj p b 0).fak.length≤6:=mR h6
   have hS1:(aj p b 1).fak.length≤6:=mR h6
   have hE:∀f,f < (aF p).length→rG p b (aj p b 0) (aj p b 1) first second f=[dA p b first second f]:=fun f hf=>Fr h1 h2 hf first second
   have hall:jt (rG p b (aj p b 0) (aj p b 1) first second) (aF p).length=entries p b first second:=wu hE
   have hld:fI p b first second=if bp (dv p b first second)=true then some (dv p b first second)else none:=by
    rw[fI]
    by_cases hso:bp (dv p b first second)=true
    ·rw[if_pos hso,if_pos ⟨h1,h2,hso⟩]
    ·rw[if_neg hso,if_neg fun h=>hso h.2.2]
   have hcand:(dv p b first second).tr=[.lst 2 [(aj p b 0).tr,(aj p b 1).tr],.lst 1 [aa first,aa second],.lst 1 ((entries p b first second).map aa)]:=rfl
   rw[hld]
   generalize dv p b first second=cd at *
   generalize aj p b 0=i0 at *
   generalize aj p b 1=i1 at *
   have hEl:∀f,(rG p b i0 i1 first second f).length≤12:=fun f=>by
    unfold rG
    split
    ·have:=tc (bk p f) second i1.fak;omega
    ·have:=tc (bk p f) first i0.fak;omega
   have hEt:=uO hEl
   conv=>whnf
   refine zb ⟨[(0,vP p),(5,.r (.c (.ptr (5,0,0) 0))),(8,.r (.c (.ptr (8,0,0) 0))),(10,.r (.c (.ptr (10,0,0) 0)))],[((5,0,0),some (.box (b.tr.map .t))),((8,0,0),some (.box [.nils 0,.nils 0,.nils 0])),((10,0,0),some (.box [.own (10,0,1),.own (10,0,2),.own (10,0,3)])),((10,0,1),some (.arr true 2 [i0.tr,i1.tr])),((10,0,2),some (.arr true 1 [aa first,aa second])),((10,0,3),some (.arr true 1 []))],[10,8,5]⟩ ?_ ?_
   ·skip
    repeat' ((conv=>whnf);first|apply Wx|apply W6|apply oi|(apply fi<;>intro h)|refine⟨_,rfl,?_⟩|exact rfl)
    all_goals try exact⟨KP⟩
   repeat' ((conv=>whnf);first|apply Wx|apply W6|apply oi|(apply fi<;>intro h)|refine⟨_,rfl,?_⟩|exact rfl)
   all_goals try exact⟨KP⟩
   conv=>whnf
   refine⟨{f:Nat // f≤(aF p).length},fun q=>⟨[(0,vP p),(5,.r (.c (.ptr (5,0,0) 0))),(8,.r (.c (.ptr (8,0,0) 0))),(10,.r (.c (.ptr (10,0,0) 0))),(11,tI .i64 (q.1:Int))],[((5,0,0),some (.box (b.tr.map .t))),((8,0,0),some (.box [.nils 0,.nils 0,.nils 0])),((10,0,0),some (.box [.own (10,0,1),.own (10,0,2),.own (10,0,3)])),((10,0,1),some (.arr true 2 [i0.tr,i1.tr])),((10,0,2),some (.arr true 1 [aa first,aa second])),((10,0,3),some (.arr true 1 ((jt (rG p b i0 i1 first second) q.1).map aa)))],[10,8,5]⟩,fun q=>(aF p).length - q.1,⟨0,by omega⟩,?_,?_⟩
   ·skip
    repeat' ((conv=>whnf);first|apply Wx|apply W6|apply oi|(apply fi<;>intro h)|refine⟨_,rfl,?_⟩|exact rfl)
    all_goals try exact⟨KP⟩
   intro⟨f,hf⟩
   dsimp only
   have hef:=hEt f
   by_cases hlt:f < (aF p).length
   ·obtain⟨g,hg⟩:=ag hlt
    obtain⟨ln,hln,_,hnm,_⟩:=nV h1 hg
    obtain⟨j,hj,hj1⟩:∃j:Nat,cf b f=(j:Int)∧j≤1:=by
     rcases iC b f with e|e
     ·exact⟨0,by rw[e];rfl,by omega⟩
     ·exact⟨1,by rw[e];rfl,by omega⟩
    obtain⟨im,base,him,hbase,hes,hsy⟩:∃(im:HM) (base:Int),[i0.tr,i1.tr][j]?=some im.tr∧[aa first,aa second][j]?=some (aa base)∧rG p b i0 i1 first second f=jD ln.fac base im.fak∧im.fak.length≤6:=by
     rcases(show j=0∨j=1 by omega)with rfl|rfl
     ·exact⟨i0,first,rfl,rfl,by rw[rG,hj,if_neg (show ¬((0:Nat):Int)=1 by decide),hnm],hS0⟩
     ·exact⟨i1,second,rfl,rfl,by rw[rG,hj,if_pos (show((1:Nat):Int)=1 from rfl),hnm],hS1⟩
    have hand:=Be ⟨f,by omega⟩
    dsimp only at hand
    have hjl:j < [i0.tr,i1.tr].length:=by simp;omega
    have hjb:j < [aa first,aa second].length:=by simp;omega
    have hfr:f < ((aF p).map fun n:Nat=>aa n).length:=by omega
    have hfg:((aF p).map fun n:Nat=>aa n)[f]?=some (aa (g:Int)):=by rw[List.getElem?_map,hg];rfl
    have hsl:(im.fak.map HW.tr).length=im.fak.length:=by simp
    repeat' ((conv=>whnf);first|(with_reducible apply W1;fail_if_success (with_reducible show Wo _ _ _ _ (Code.seq (Code.region 8 _ _) _) _ _))|(with_reducible first|apply W2|apply W3|apply W4|apply W5|apply W6|apply W7|apply W8|apply W9)|apply ae|apply oi|(apply fi<;>intro h)|refine cl gF ?_|refine⟨_,rfl,?_⟩|exact rfl)
    all_goals try exact⟨KP⟩
    all_goals try exact KX
    conv=>whnf
    refine mu Unit (fun _=>⟨[(0,vP p),(5,.r (.c (.ptr (5,0,0) 0))),(8,.r (.c (.ptr (8,0,0) 0))),(10,.r (.c (.ptr (10,0,0) 0))),(11,tI .i64 (f:Int)),(12,tI .i64 (j:Int))],[((5,0,0),some (.box (b.tr.map .t))),((8,0,0),some (.box [.nils 0,.nils 0,.nils 0])),((10,0,0),some (.box [.own (10,0,1),.own (10,0,2),.own (10,0,3)])),((10,0,1),some (.arr true 2 [i0.tr,i1.tr])),((10,0,2),some (.arr true 1 [aa first,aa second])),((10,0,3),some (.arr true 1 ((jt (rG p b i0 i1 first second) f).map aa)))],[10,8,5]⟩) ?_ ?_
    ·have hj2:=hj
     unfold cf at hj2
     cases hsp2:b.faD with
     | true=>
      rw[hsp2,if_pos rfl]at hj2
      rw[hj2]at hand
      repeat' ((conv=>whnf);first|apply Wx|apply W6|apply oi|(apply fi<;>intro h)|refine⟨_,rfl,?_⟩|exact rfl)
      all_goals try exact⟨KP⟩
      all_goals(conv=>whnf)
      all_goals try(exfalso;rw[hsp2]at h;cases h;done)
      refine⟨(),?_⟩
      repeat' ((conv=>whnf);first|apply Wx|apply W6|apply oi|(apply fi<;>intro h)|refine⟨_,rfl,?_⟩|exact rfl)
      all_goals try exact⟨KP⟩
      all_goals exact⟨congrArg (Tr.int _) hand⟩
     | false=>
      rw[hsp2,if_neg (by simp)]at hj2
      repeat' ((conv=>whnf);first|apply Wx|apply W6|apply oi|(apply fi<;>intro h)|refine⟨_,rfl,?_⟩|exact rfl)
      all_goals try exact⟨KP⟩
      all_goals(conv=>whnf)
      all_goals try(exfalso;rw[hsp2]at h;cases h;done)
      refine⟨(),?_⟩
      repeat' ((conv=>whnf);first|apply Wx|apply W6|apply oi|(apply fi<;>intro h)|refine⟨_,rfl,?_⟩|exact rfl)
      all_goals try exact⟨KP⟩
      all_goals exact⟨congrArg (Tr.int _) hj2⟩
    intro _
    dsimp only
    repeat' ((conv=>whnf);first|apply Wx|apply W6|apply oi|(apply fi<;>intro h)|refine⟨_,rfl,?_⟩|exact rfl)
    all_goals try exact⟨KP⟩
    conv=>whnf
    refine⟨{k:Nat // k≤im.fak.length},fun q=>⟨[(0,vP p),(5,.r (.c (.ptr (5,0,0) 0))),(8,.r (.c (.ptr (8,0,0) 0))),(10,.r (.c (.ptr (10,0,0) 0))),(11,tI .i64 (f:Int)),(12,tI .i64 (j:Int)),(13,tI .i64 (q.1:Int))],[((5,0,0),some (.box (b.tr.map .t))),((8,0,0),some (.box [.nils 0,.nils 0,.nils 0])),((10,0,0),some (.box [.own (10,0,1),.own (10,0,2),.own (10,0,3)])),((10,0,1),some (.arr true 2 [i0.tr,i1.tr])),((10,0,2),some (.arr true 1 [aa first,aa second])),((10,0,3),some (.arr true 1 ((jt (rG p b i0 i1 first second) f++jD ln.fac base (im.fak.take q.1)).map aa)))],[10,8,5]⟩,fun q=>im.fak.length - q.1,⟨0,by omega⟩,?_,?_⟩
    ·skip
     repeat' ((conv=>whnf);first|apply Wx|apply W6|apply oi|(apply fi<;>intro h)|refine⟨_,rfl,?_⟩|exact rfl)
     all_goals try exact⟨KP⟩
     all_goals try exact⟨by simp[EX]⟩
    intro⟨k,hk⟩
    dsimp only
    by_cases hkl:k < im.fak.length
    ·obtain⟨y,hy⟩:=ag hkl
     have hks:k < (im.fak.map HW.tr).length:=by omega
     have hyt:(im.fak.map HW.tr)[k]?=some y.tr:=ab hy
     have hht:=Cn (nm:=ln.fac) (b:=base) hy
     have hhl:=tc ln.fac base (im.fak.take k)
     rw[List.length_take]at hhl
     cases hq:(y.fac==ln.fac)with
     | true=>
      rw[hq,if_pos rfl]at hht
      repeat' ((conv=>whnf);first|apply Wx|apply W6|apply oi|(apply fi<;>intro h)|refine cl gF ?_|refine⟨j,rfl,hjl,?_⟩|refine⟨_,him,?_⟩|refine⟨k,y.tr,rfl,hyt,?_⟩|refine⟨f,rfl,hfr,?_⟩|refine⟨_,hfg,?_⟩|refine⟨g,ln.tr,rfl,ab hln,?_⟩|refine⟨j,rfl,hjb,?_⟩|refine⟨_,hbase,?_⟩|refine⟨_,rfl,?_⟩|exact rfl)
      all_goals try exact⟨KP⟩
      all_goals try exact KX
      all_goals try(exfalso;rw[hq]at h;cases h;done)
      all_goals try exact⟨⟨by simp <;> omega,by simp <;> omega⟩⟩
      conv=>whnf
      refine⟨⟨k+1,by omega⟩,?_,KD⟩
      repeat' ((conv=>whnf);first|apply Wx|apply W6|apply oi|(apply fi<;>intro h)|refine⟨_,rfl,?_⟩|exact rfl)
      all_goals try exact⟨KP⟩
      all_goals try exact⟨KW⟩
      all_goals exact⟨by dsimp only;rw[hht];simp[List.append_assoc,aa]⟩
     | false=>
      rw[hq,if_neg (by simp)]at hht
      repeat' ((conv=>whnf);first|apply Wx|apply W6|apply oi|(apply fi<;>intro h)|refine cl gF ?_|refine⟨j,rfl,hjl,?_⟩|refine⟨_,him,?_⟩|refine⟨k,y.tr,rfl,hyt,?_⟩|refine⟨f,rfl,hfr,?_⟩|refine⟨_,hfg,?_⟩|refine⟨g,ln.tr,rfl,ab hln,?_⟩|refine⟨j,rfl,hjb,?_⟩|refine⟨_,hbase,?_⟩|refine⟨_,rfl,?_⟩|exact rfl)
      all_goals try exact⟨KP⟩
      all_goals try exact KX
      all_goals try(exfalso;rw[hq]at h;cases h;done)
      conv=>whnf
      refine⟨⟨k+1,by omega⟩,?_,KD⟩
      repeat' ((conv=>whnf);first|apply Wx|apply W6|apply oi|(apply fi<;>intro h)|refine⟨_,rfl,?_⟩|exact rfl)
      all_goals try exact⟨KP⟩
      all_goals try exact⟨KW⟩
      all_goals exact⟨by dsimp only;rw[hht,List.append_nil]⟩
    ·obtain rfl:k=im.fak.length:=by omega
     rw[List.take_of_length_le (Nat.le_refl _),←hes]
     repeat' ((conv=>whnf);first|apply Wx|apply W6|apply oi|(apply fi<;>intro h)|refine⟨j,rfl,hjl,?_⟩|refine⟨_,him,?_⟩|refine⟨_,rfl,?_⟩|exact rfl)
     all_goals try exact⟨KP⟩
     all_goals try exact KX
     conv=>whnf
     refine⟨⟨f+1,by omega⟩,?_,KD⟩
     repeat' ((conv=>whnf);first|apply Wx|apply W6|apply oi|(apply fi<;>intro h)|refine⟨_,rfl,?_⟩|exact rfl)
     all_goals try exact⟨KP⟩
     all_goals try exact⟨KW⟩
   ·obtain rfl:f=(aF p).length:=by omega
    rw[hall]
    cases hso:bp cd with
    | true=>
     rw[hso]at hsp
     rw[if_pos rfl]
     rw[hcand]at hsp
     simp only[oSp,hcand]
     repeat' ((conv=>whnf);first|apply Wx|apply W6|apply oi|(apply fi<;>intro h)|refine cl gF ?_|refine cl hsp ?_|refine⟨_,rfl,?_⟩|exact rfl)
     all_goals try exact⟨KP⟩
     all_goals try exact KX
    | false=>
     rw[hso]at hsp
     rw[if_neg (by simp)]
     rw[hcand]at hsp
     repeat' ((conv=>whnf);first|apply Wx|apply W6|apply oi|(apply fi<;>intro h)|refine cl gF ?_|refine cl hsp ?_|refine⟨_,rfl,?_⟩|exact rfl)
     all_goals try exact⟨KP⟩
     all_goals try exact KX
def qI (R:List HX)(d:Nat):Prop:=0 < R.length∧R.length≤5 ^ d∧∀t∈R,t.fac.length≤8
abbrev Fu (vars:List (List UInt8))(c:HI):List (Sim.Id×AO):=er c++[((0,0,1),.arr false 1 (vars.map ak))]
abbrev AD (m:Int)(names:List (List UInt8))(ars:List Int):List AV:=[fF,tI .i64 m,.r (.c (.own (0,0,1))),vN names,.r (.c (.t (.lst 1 (ars.map aa))))]
abbrev Do (vars:List (List UInt8))(c:HI)(R:List HX):List (Sim.Id×AO):=Fu vars c++[((1,0,0),.arr false 3 (R.map HX.tr))]
theorem tp (d:Nat):1≤5 ^ d:=Nat.one_le_pow _ _ (by omega)
theorem Fk {d:Nat}(h:d≤8):5 ^ d≤390625:=Nat.pow_le_pow_right (n:=5) (by omega) h
theorem DW {m:Int}{d:Nat}(h0:0≤m)(h1:m < 2 ^ (d+1))(hb:m≤1000):0≤IntKind.i64.wrap (m.tdiv 4)∧IntKind.i64.wrap (m.tdiv 4) < 2 ^ d∧IntKind.i64.wrap (m.tdiv 4)≤1000:=by
 rw[Int.tdiv_eq_ediv_of_nonneg h0,IntWalk.i64_in _ (by omega)]
 have:(2:Int) ^ (d+1)=2 * 2 ^ d:=by rw[Int.pow_succ];omega
 omega
def rR (P:HI→List HX→HI→Prop)(d:Nat):Nat→HI→List HX→HI→List HX→Prop
 | 0,c,acc,c',acc'=>c'=c∧acc'=acc
 | k+1,c,acc,c',acc'=>∃R c1,qI R d∧c1.b=c.b∧c1.ok∧P c R c1∧rR P d k c1 (acc++R) c' acc'
theorem yQ {P:HI→List HX→HI→Prop}{d:Nat}(ih:∀c:HI,c.ok→∃R c1,qI R d∧c1.b=c.b∧c1.ok∧P c R c1):∀(k:Nat) (c:HI) (acc:List HX),c.ok→∃c' acc',rR P d k c acc c' acc'
 | 0,c,acc,_=>⟨c,acc,rfl,rfl⟩
 | k+1,c,acc,hc=>by
  obtain⟨R,c1,h1,h2,h3,h4⟩:=ih c hc
  obtain⟨c',acc',h5⟩:=yQ ih k c1 (acc++R) h3
  exact⟨c',acc',R,c1,h1,h2,h3,h4,h5⟩
theorem qv {P:HI→List HX→HI→Prop}{d:Nat}:∀{k:Nat} {c c':HI} {acc acc':List HX},rR P d k c acc c' acc'→c.ok→c'.b=c.b∧c'.ok∧acc.length≤acc'.length∧acc'.length≤acc.length+k * 5 ^ d∧((∀t∈acc,t.fac.length≤8)→∀t∈acc',t.fac.length≤8)
 | 0,c,c',acc,acc',h,hc=>by
  obtain⟨rfl,rfl⟩:=h
  exact⟨rfl,hc,Nat.le_refl _,by omega,fun h=>h⟩
 | k+1,c,c',acc,acc',h,hc=>by
  obtain⟨R,c1,h1,h2,h3,_,h5⟩:=h
  obtain⟨g1,g2,g3,g4,g5⟩:=qv h5 h3
  rw[List.length_append]at g3 g4
  have hR:=h1.2.1
  refine⟨g1.trans h2,g2,by omega,by rw[Nat.add_mul];omega,fun H=>g5 fun t ht=>?_⟩
  rcases List.mem_append.1 ht with ht|ht
  ·exact H t ht
  ·exact h1.2.2 t ht
theorem Fg {m:Int}{d:Nat}(h0:0≤m)(h1:m < 2 ^ (d+1))(hb:m≤1000):0≤IntKind.i64.wrap (m.tdiv 2)∧IntKind.i64.wrap (m.tdiv 2) < 2 ^ d∧IntKind.i64.wrap (m.tdiv 2)≤1000:=by
 rw[Int.tdiv_eq_ediv_of_nonneg h0,IntWalk.i64_in _ (by omega)]
 have:(2:Int) ^ (d+1)=2 * 2 ^ d:=by rw[Int.pow_succ];omega
 omega
theorem fq (vars names:List (List UInt8))(ars:List Int)(hv:vars.length≤100)(hn:names.length≤100)(ha:ars.length=names.length)(ha4:∀a∈ars,0≤a∧a≤4)(hv8:∀s∈vars,s.length≤8)(hn8:∀s∈names,s.length≤8):
  ∀(d:Nat) (m:Int) (c:HI),d≤8→0≤m→m < 2 ^ d→m≤1000→c.ok→∃(R:List HX) (c':HI),qI R d∧c'.b=c.b∧c'.ok∧aS Tryz.prog 240 (AD m names ars) (Fu vars c) (.r (.c (.own (1,0,0)))) (Do vars c' R)
 | d,m,c,hd,h0,h1,hm,hc=>by
  have p5d:=Fk hd
  have hvl:(vars.map ak).length=vars.length:=by simp
  have hnl:(names.map ak).length=names.length:=by simp
  obtain⟨k,c1,k1,_,b1,o1,g1⟩:=bo c 10 hc
  by_cases hbin:2 < m∧k < 5
  ·cases d with
   | zero=>omega
   | succ d=>
    obtain⟨kd,c2,k2,_,b2,o2,g2⟩:=bo c1 5 o1
    obtain⟨q1,q2,q3⟩:=Fg h0 h1 hm
    obtain⟨R3,c3,t3,b3,o3,g3⟩:=fq vars names ars hv hn ha ha4 hv8 hn8 d _ c2 (by omega) q1 q2 q3 o2
    obtain⟨R4,c4,t4,b4,o4,g4⟩:=fq vars names ars hv hn ha ha4 hv8 hn8 d _ c3 (by omega) q1 q2 q3 o3
    have p5:=tp d
    have p5':5 ^ (d+1)=5 * 5 ^ d:=by rw[Nat.pow_succ];omega
    have t3l:=t3.2.1
    have t4l:=t4.2.1
    refine⟨⟨2+kd,0,[]⟩::(R3++R4),c4,⟨by simp,?_,?_⟩,((b4.trans b3).trans b2).trans b1,o4,?_⟩
    ·have:=t3.2.1
     have:=t4.2.1
     rw[List.length_cons,List.length_append]
     omega
    ·intro t ht
     rcases List.mem_cons.1 ht with rfl|ht
     ·simp
     ·rcases List.mem_append.1 ht with ht|ht
      ·exact t3.2.2 t ht
      ·exact t4.2.2 t ht
    ·refine aw hΓ ay Tryz.func240 rfl (by decide) rfl rfl ?_
     repeat' ((conv=>whnf);first|apply Wx|apply W6|apply oi|(apply fi<;>intro h)|refine⟨_,rfl,?_⟩|exact rfl)
     all_goals try exact⟨KP⟩
     refine cg (g1) ?_
     repeat' ((conv=>whnf);first|apply Wx|apply W6|apply oi|(apply fi<;>intro h)|refine⟨_,rfl,?_⟩|exact rfl)
     all_goals try exact⟨KP⟩
     all_goals try exact KX
     all_goals try(exfalso;simp at h;omega)
     refine cg (g2) ?_
     repeat' ((conv=>whnf);first|apply Wx|apply W6|apply oi|(apply fi<;>intro h)|refine⟨_,rfl,?_⟩|exact rfl)
     all_goals try exact⟨KP⟩
     refine cg (g3) ?_
     repeat' ((conv=>whnf);first|apply Wx|apply W6|apply oi|(apply fi<;>intro h)|refine⟨_,rfl,?_⟩|exact rfl)
     all_goals try exact⟨KP⟩
     all_goals try exact⟨⟨by simp <;> omega,by simp <;> omega⟩⟩
     refine cg (g4) ?_
     repeat' ((conv=>whnf);first|apply Wx|apply W6|apply oi|(apply fi<;>intro h)|refine⟨_,rfl,?_⟩|exact rfl)
     all_goals try exact⟨KP⟩
     all_goals try exact⟨⟨by simp <;> omega,by simp <;> omega⟩⟩
     all_goals exact⟨by rw[IntWalk.i64_in _ (by omega)];simp[HX.tr]⟩
  ·by_cases hcall:0 < names.length∧1 < m∧k < 8
   ·cases d with
    | zero=>omega
    | succ d=>
     obtain⟨hc1,hc2,hc3⟩:=hcall
     obtain⟨f,c2,kf,_,b2,o2,g2⟩:=bo c1 ((names.map ak).length:Int) o1
     rw[hnl]at kf
     have hfn:f < names.length:=by have:=kf (by omega);omega
     obtain⟨nm,hnm⟩:=ag hfn
     obtain⟨a,haf⟩:=ag (l:=ars) (k:=f) (by omega)
     have hab:=ha4 a (List.mem_of_getElem? haf)
     obtain⟨an,rfl⟩:=Int.eq_ofNat_of_zero_le hab.1
     obtain⟨q1,q2,q3⟩:=DW h0 h1 hm
     have ih:=fun c hc=>fq vars names ars hv hn ha ha4 hv8 hn8 d (IntKind.i64.wrap (m.tdiv 4)) c (by omega) q1 q2 q3 hc
     have p5:=tp d
     have p5':5 ^ (d+1)=5 * 5 ^ d:=by rw[Nat.pow_succ];omega
     obtain⟨c',R,hch⟩:=yQ (P:=fun c R c'=>aS Tryz.prog 240 (AD (IntKind.i64.wrap (m.tdiv 4)) names ars) (Fu vars c) (.r (.c (.own (1,0,0)))) (Do vars c' R)) (d:=d) ih an c2 [⟨7,an,nm⟩] o2
     have hcp:=qv hch o2
     refine⟨R,c',⟨by have:=hcp.2.2.1;simp at this;omega,by have:=hcp.2.2.2.1;have h4:an * 5 ^ d≤4 * 5 ^ d:=Nat.mul_le_mul_right _ (by omega);simp at this;omega,hcp.2.2.2.2 (by intro t ht;simp at ht;subst ht;exact hn8 nm (List.mem_of_getElem? hnm))⟩,(hcp.1.trans b2).trans b1,hcp.2.1,?_⟩
     refine aw hΓ ay Tryz.func240 rfl (by decide) rfl rfl ?_
     repeat' ((conv=>whnf);first|apply Wx|apply W6|apply oi|(apply fi<;>intro h)|refine⟨_,rfl,?_⟩|exact rfl)
     all_goals try exact⟨KP⟩
     refine cg (g1) ?_
     repeat' ((conv=>whnf);first|apply Wx|apply W6|apply oi|(apply fi<;>intro h)|refine⟨_,rfl,?_⟩|exact rfl)
     all_goals try exact⟨KP⟩
     all_goals try exact KX
     all_goals(
      refine cg (g2) ?_
      have hci:(ars.map aa).length=ars.length:=by simp
      repeat' ((conv=>whnf);first|apply Wx|apply W6|apply oi|(apply fi<;>intro h)|refine⟨f,(aa an),rfl,ab haf,?_⟩|refine⟨f,(ak nm),rfl,ab hnm,?_⟩|refine⟨_,rfl,?_⟩|exact rfl)
      all_goals try exact⟨KP⟩
      conv=>whnf
      refine⟨{q:Nat×HI×List HX // q.1≤an∧q.2.1.ok∧q.2.2.length≤1+q.1 * 5 ^ d∧rR (fun c R c'=>aS Tryz.prog 240 (AD (IntKind.i64.wrap (m.tdiv 4)) names ars) (Fu vars c) (.r (.c (.own (1,0,0)))) (Do vars c' R)) d (an - q.1) q.2.1 q.2.2 c' R},fun q=>⟨[(0,fF),(1,tI .i64 m),(2,.r (.c (.own (0,0,1)))),(3,vN names),(4,.r (.c (.t (.lst 1 (ars.map aa))))),(13,tI .i64 (f:Int)),(14,.r (.c (.own (14,0,0)))),(15,tI .i64 (q.1.1:Int))],[((0,0,0),some (.box [.t (.lst 1 (q.1.2.1.b.map aL)),.t (.int .i64 q.1.2.1.i),.t (.int .i64 q.1.2.1.h)])),((0,0,1),some (.arr false 1 (vars.map ak))),((14,0,0),some (.arr false 3 (q.1.2.2.map HX.tr)))],[14,0]⟩,fun q=>an - q.1.1,⟨(0,c2,[⟨7,an,nm⟩]),by dsimp only;omega,o2,by simp,hch⟩,?_,?_⟩
      ·skip
       repeat' ((conv=>whnf);first|apply Wx|apply W6|apply oi|(apply fi<;>intro h)|refine⟨_,rfl,?_⟩|exact rfl)
       all_goals try exact⟨KP⟩
      intro⟨⟨i,ci,acc⟩,r1,r2,r3,r4⟩
      dsimp only at r1 r2 r3 r4 ⊢
      by_cases hlt:i < an
      ·obtain⟨w,hw⟩:∃w,an - i=w+1:=⟨an - i - 1,by omega⟩
       rw[hw]at r4
       obtain⟨R5,c5,t5,b5,o5,g5,r5⟩:=r4
       have t5l:=t5.2.1
       have i5:i * 5 ^ d≤4 * 5 ^ d:=Nat.mul_le_mul_right _ (by omega)
       have i6:(i+1) * 5 ^ d=i * 5 ^ d+5 ^ d:=by rw[Nat.add_mul];omega
       repeat' ((conv=>whnf);first|apply Wx|apply W6|apply oi|(apply fi<;>intro h)|refine⟨f,(aa an),rfl,ab haf,?_⟩|refine⟨_,rfl,?_⟩|exact rfl)
       all_goals try exact⟨KP⟩
       all_goals try exact KX
       refine cg (g5) ?_
       repeat' ((conv=>whnf);first|apply Wx|apply W6|apply oi|(apply fi<;>intro h)|refine⟨_,rfl,?_⟩|exact rfl)
       all_goals try exact⟨KP⟩
       all_goals try exact⟨⟨by simp <;> omega,by simp <;> omega⟩⟩
       conv=>whnf
       refine⟨⟨(i+1,c5,acc++R5),by dsimp only;omega,o5,by simp;omega,by rw[show an - (i+1)=w by omega];exact r5⟩,?_,KD⟩
       repeat' ((conv=>whnf);first|apply Wx|apply W6|apply oi|(apply fi<;>intro h)|refine⟨_,rfl,?_⟩|exact rfl)
       all_goals try exact⟨KP⟩
       all_goals try exact⟨K2⟩
       all_goals exact⟨by simp⟩
      ·rw[show an - i=0 by omega]at r4
       obtain⟨rfl,rfl⟩:=r4
       repeat' ((conv=>whnf);first|apply Wx|apply W6|apply oi|(apply fi<;>intro h)|refine⟨f,(aa an),rfl,ab haf,?_⟩|refine⟨_,rfl,?_⟩|exact rfl)
       all_goals try exact⟨KP⟩
       all_goals try exact KX
     )
   ·have pick:∀c:HI,c.ok→∃(v:Int) (c':HI),c'.b=c.b∧c'.ok∧aS Tryz.prog 147 [fF,.r (.c (.own (0,0,1)))] (er c++[((0,0,1),.arr false 1 (([0,1,2,3,10,999]:List Int).map aa))]) (tI .i64 v) (er c'++[((0,0,1),.arr false 1 (([0,1,2,3,10,999]:List Int).map aa))]):=fun c hc=>by
     obtain⟨v,c',_,b,o,g⟩:=iS c [0,1,2,3,10,999] hc (by decide) (by decide)
     exact⟨v,c',b,o,g⟩
    have p5:=tp d
    have hsk:∀(t:HX),t.fac.length≤8→qI [t] d:=fun t ht=>⟨by simp,by simpa using p5,by intro u hu;simp at hu;subst hu;exact ht⟩
    by_cases hvar:0 < vars.length
    ·obtain⟨o,c2,b2,o2,g2⟩:=cR c1 2 o1
     cases o with
     | true=>
      obtain⟨f,c3,kf,_,b3,o3,g3⟩:=bo c2 ((vars.map ak).length:Int) o2
      rw[hvl]at kf
      have hfn:f < vars.length:=by have:=kf (by omega);omega
      obtain⟨nm,hnm⟩:=ag hfn
      have hfl:f < (vars.map ak).length:=by rw[hvl];exact hfn
      refine⟨[⟨1,0,nm⟩],c3,hsk _ (hv8 nm (List.mem_of_getElem? hnm)),(b3.trans b2).trans b1,o3,?_⟩
      refine aw hΓ ay Tryz.func240 rfl (by decide) rfl rfl ?_
      repeat' ((conv=>whnf);first|apply Wx|apply W6|apply oi|(apply fi<;>intro h)|refine⟨_,rfl,?_⟩|exact rfl)
      all_goals try exact⟨KP⟩
      refine cg (g1) ?_
      repeat' ((conv=>whnf);first|apply Wx|apply W6|apply oi|(apply fi<;>intro h)|refine⟨_,rfl,?_⟩|exact rfl)
      all_goals try exact⟨KP⟩
      all_goals try exact KX
      all_goals try(exfalso;simp at h;omega)
      all_goals(
       refine cg (g2) ?_
       repeat' ((conv=>whnf);first|apply Wx|apply W6|apply oi|(apply fi<;>intro h)|refine⟨_,rfl,?_⟩|exact rfl)
       all_goals try exact⟨KP⟩
       refine cg (g3) ?_
       repeat' ((conv=>whnf);first|apply Wx|apply W6|apply oi|(apply fi<;>intro h)|refine⟨f,rfl,hfl,?_⟩|refine⟨(ak nm),ab hnm,?_⟩|refine⟨_,rfl,?_⟩|exact rfl)
       all_goals try exact⟨KP⟩
      )
     | false=>
      obtain⟨v,c3,b3,o3,g3⟩:=pick c2 o2
      refine⟨[⟨0,v,[]⟩],c3,hsk _ (by simp),(b3.trans b2).trans b1,o3,?_⟩
      refine aw hΓ ay Tryz.func240 rfl (by decide) rfl rfl ?_
      repeat' ((conv=>whnf);first|apply Wx|apply W6|apply oi|(apply fi<;>intro h)|refine⟨_,rfl,?_⟩|exact rfl)
      all_goals try exact⟨KP⟩
      refine cg (g1) ?_
      repeat' ((conv=>whnf);first|apply Wx|apply W6|apply oi|(apply fi<;>intro h)|refine⟨_,rfl,?_⟩|exact rfl)
      all_goals try exact⟨KP⟩
      all_goals try exact KX
      all_goals try(exfalso;simp at h;omega)
      all_goals(
       refine cg (g2) ?_
       repeat' ((conv=>whnf);first|apply Wx|apply W6|apply oi|(apply fi<;>intro h)|refine⟨_,rfl,?_⟩|exact rfl)
       all_goals try exact⟨KP⟩
       refine cg (g3) ?_
       repeat' ((conv=>whnf);first|apply Wx|apply W6|apply oi|(apply fi<;>intro h)|refine⟨_,rfl,?_⟩|exact rfl)
       all_goals try exact⟨KP⟩
      )
    ·obtain⟨v,c3,b3,o3,g3⟩:=pick c1 o1
     refine⟨[⟨0,v,[]⟩],c3,hsk _ (by simp),b3.trans b1,o3,?_⟩
     refine aw hΓ ay Tryz.func240 rfl (by decide) rfl rfl ?_
     repeat' ((conv=>whnf);first|apply Wx|apply W6|apply oi|(apply fi<;>intro h)|refine⟨_,rfl,?_⟩|exact rfl)
     all_goals try exact⟨KP⟩
     refine cg (g1) ?_
     repeat' ((conv=>whnf);first|apply Wx|apply W6|apply oi|(apply fi<;>intro h)|refine⟨_,rfl,?_⟩|exact rfl)
     all_goals try exact⟨KP⟩
     all_goals try exact KX
     all_goals try(exfalso;simp at h;omega)
     all_goals(
      refine cg (g3) ?_
      repeat' ((conv=>whnf);first|apply Wx|apply W6|apply oi|(apply fi<;>intro h)|refine⟨_,rfl,?_⟩|exact rfl)
      all_goals try exact⟨KP⟩
     )
termination_by d=>d
def DF (h:Int)(u:UInt8):Int:=IntKind.i64.wrap ((BitVec.ofInt IntKind.i64.bits (IntKind.i64.wrap (IntKind.i64.wrap (IntKind.i64.wrap (h * 131)+IntKind.i64.wrap (u.toNat:Int))+7)) &&& BitVec.ofInt IntKind.i64.bits 1073741823).toNat:Int)
def EI (code:List UInt8):Int:=(code.take 4000).foldl DF (IntKind.i64.wrap (33147+((code.map aL).length:Int)))
theorem uZ (code:List UInt8)(hl:code.length≤1048576):aS Tryz.prog 69 [.r (.c (.t (.lst 1 (code.map aL))))] [] (.r (.c (.ptr (1,0,0) 0))) [((1,0,0),.box [.t (.lst 1 (code.map aL)),.t (.int .i64 0),.t (.int .i64 (EI code))])]:=by
 refine aw hΓ ay Tryz.func69 rfl (by decide) rfl rfl ?_
 have hlen:(code.map aL).length=code.length:=by simp
 obtain⟨H,hH⟩:∃H,EI code=H:=⟨_,rfl⟩
 rw[hH]
 have ht:(code.take 4000).length≤4000:=by simp;omega
 repeat' ((conv=>whnf);first|apply Wx|apply W6|apply oi|(apply fi<;>intro h)|refine⟨_,rfl,?_⟩|exact rfl)
 all_goals try exact⟨KP⟩
 conv=>whnf
 refine⟨{q:Nat×Int // q.1≤code.length∧((code.take 4000).drop q.1).foldl DF q.2=H},fun q=>⟨[(0,.r (.c (.t (.lst 1 (code.map aL))))),(3,tI .i64 q.1.2),(4,tI .i64 (q.1.1:Int))],[],[0]⟩,fun q=>code.length - q.1.1,⟨(0,IntKind.i64.wrap (33147+((code.map aL).length:Int))),by dsimp only;omega,hH⟩,?_,?_⟩
 ·skip
  repeat' ((conv=>whnf);first|apply Wx|apply W6|apply oi|(apply fi<;>intro h)|refine⟨_,rfl,?_⟩|exact rfl)
  all_goals try exact⟨KP⟩
 intro⟨⟨i,hv⟩,hi,hr⟩
 dsimp only at hi hr ⊢
 by_cases hlt:i < code.length∧i < 4000
 ·obtain⟨u,hu⟩:=ag hlt.1
  rw[cO (x:=u) (by rw[List.getElem?_take,if_pos hlt.2];exact hu),List.foldl_cons]at hr
  repeat' ((conv=>whnf);first|apply Wx|apply W6|apply oi|(apply fi<;>intro h)|refine⟨i,(aL u),rfl,ab hu,?_⟩|refine⟨_,rfl,?_⟩|exact rfl)
  all_goals try exact⟨KP⟩
  all_goals try exact KX
  conv=>whnf
  refine⟨⟨(i+1,DF hv u),by dsimp only;omega,hr⟩,?_,KD⟩
  repeat' ((conv=>whnf);first|apply Wx|apply W6|apply oi|(apply fi<;>intro h)|refine⟨_,rfl,?_⟩|exact rfl)
  all_goals try exact⟨KP⟩
  all_goals try exact⟨K2⟩
  all_goals exact⟨rfl⟩
 ·rw[List.drop_eq_nil_of_le (by simp;omega)]at hr
  have hr:hv=H:=hr
  subst hr
  repeat' ((conv=>whnf);first|apply Wx|apply W6|apply oi|(apply fi<;>intro h)|refine⟨_,rfl,?_⟩|exact rfl)
  all_goals try exact⟨KP⟩
  all_goals try exact KX
abbrev GW (vars names:List (List UInt8))(ars:List Int)(c:HI):List (Sim.Id×AO):=[((0,0,0),.box [.ptr (0,0,1) 0,.own (0,0,2),.t (.lst 1 (names.map ak)),.t (.lst 1 (ars.map aa))]),((0,0,1),.box [.t (.lst 1 (c.b.map aL)),.t (.int .i64 c.i),.t (.int .i64 c.h)]),((0,0,2),.arr false 1 (vars.map ak))]
theorem nW (vars names:List (List UInt8))(ars:List Int)(hv:vars.length≤100)(hn:names.length≤100)(ha:ars.length=names.length)(ha4:∀a∈ars,0≤a∧a≤4)(hv8:∀s∈vars,s.length≤8)(hn8:∀s∈names,s.length≤8)
  (d:Nat) (m:Int) (c:HI) (hd:d≤8) (h0:0≤m) (h1:m < 2 ^ d) (hm:m≤1000) (hc:c.ok):∃(R:List HX) (c':HI),qI R d∧c'.b=c.b∧c'.ok∧aS Tryz.prog 202 [fF,tI .i64 m] (GW vars names ars c) (.r (.c (.own (1,0,0)))) (GW vars names ars c'++[((1,0,0),.arr false 3 (R.map HX.tr))]):=by
 obtain⟨R,c',t1,b1,o1,g1⟩:=fq vars names ars hv hn ha ha4 hv8 hn8 d m c hd h0 h1 hm hc
 refine⟨R,c',t1,b1,o1,?_⟩
 refine aw hΓ ay Tryz.func202 rfl (by decide) rfl rfl ?_
 repeat' ((conv=>whnf);first|apply Wx|apply W6|apply oi|(apply fi<;>intro h)|refine⟨_,rfl,?_⟩|exact rfl)
 all_goals try exact⟨KP⟩
 refine cg (g1) ?_
 repeat' ((conv=>whnf);first|apply Wx|apply W6|apply oi|(apply fi<;>intro h)|refine⟨_,rfl,?_⟩|exact rfl)
 all_goals try exact⟨KP⟩
noncomputable section
open Classical (propDecidable)
attribute [local instance] propDecidable
def bC (n:Int)(c:HI):Nat×HI:=if h:c.ok then(Classical.choose (bo c n h),Classical.choose (Classical.choose_spec (bo c n h)))else(0,c)
theorem bx {c:HI}(h:c.ok)(n:Int):(0 < n→((bC n c).1:Int) < n)∧(bC n c).2.b=c.b∧(bC n c).2.ok∧aS Tryz.prog 146 [fF,tI .i64 n] (er c) (tI .i64 (bC n c).1) (er (bC n c).2):=by
 rw[bC,dif_pos h]
 have:=Classical.choose_spec (Classical.choose_spec (bo c n h))
 exact⟨this.1,this.2.2.1,this.2.2.2.1,this.2.2.2.2⟩
def iT (n:Int)(c:HI):Bool×HI:=if h:c.ok then(Classical.choose (cR c n h),Classical.choose (Classical.choose_spec (cR c n h)))else(false,c)
theorem fK {c:HI}(h:c.ok)(n:Int):(iT n c).2.b=c.b∧(iT n c).2.ok∧aS Tryz.prog 148 [fF,tI .i64 n] (er c) (tB (iT n c).1) (er (iT n c).2):=by
 rw[iT,dif_pos h]
 exact Classical.choose_spec (Classical.choose_spec (cR c n h))
structure GP where
 vars:List (List UInt8)
 names:List (List UInt8)
 ars:List Int
structure GP.ok (G:GP):Prop where
 v1:0 < G.vars.length
 v:G.vars.length≤100
 n:G.names.length≤100
 a:G.ars.length=G.names.length
 a4:∀a∈G.ars,0≤a∧a≤4
 v8:∀s∈G.vars,s.length≤8
 n8:∀s∈G.names,s.length≤8
abbrev gH (G:GP)(c:HI):List (Sim.Id×AO):=GW G.vars G.names G.ars c
theorem gex {G:GP}(hG:G.ok){c:HI}(hc:c.ok)(m:Nat)(hm:m < 8):∃(R:List HX) (c':HI),qI R 3∧c'.b=c.b∧c'.ok∧aS Tryz.prog 202 [fF,tI .i64 (m:Int)] (gH G c) (.r (.c (.own (1,0,0)))) (gH G c'++[((1,0,0),.arr false 3 (R.map HX.tr))]):=
 nW G.vars G.names G.ars hG.v hG.n hG.a hG.a4 hG.v8 hG.n8 3 (m:Int) c (by omega) (by omega) (by show(m:Int) < 8;omega) (by omega) hc
def exV (G:GP)(m:Nat)(c:HI):List HX×HI:=if h:G.ok∧c.ok∧m < 8 then(Classical.choose (gex h.1 h.2.1 m h.2.2),Classical.choose (Classical.choose_spec (gex h.1 h.2.1 m h.2.2)))else([],c)
theorem dt {G:GP}(hG:G.ok){c:HI}(hc:c.ok)(m:Nat)(hm:m < 8):qI (exV G m c).1 3∧(exV G m c).2.b=c.b∧(exV G m c).2.ok∧aS Tryz.prog 202 [fF,tI .i64 (m:Int)] (gH G c) (.r (.c (.own (1,0,0)))) (gH G (exV G m c).2++[((1,0,0),.arr false 3 ((exV G m c).1.map HX.tr))]):=by
 rw[exV,dif_pos ⟨hG,hc,hm⟩]
 exact Classical.choose_spec (Classical.choose_spec (gex hG hc m hm))
def iw (G:GP)(rc:Nat→HI→List HP×HI)(dp:Bool)(c:HI):List HP×HI:=
 let k:=(bC 9 c).1
 let c1:=(bC 9 c).2
 if k < 4 then
  let v:=bC G.vars.length c1
  let e:=exV G 6 v.2
  ([⟨1,G.vars[v.1]?.getD [],[],e.1⟩],e.2)
 else if k < 6 then
  let e:=exV G 5 c1
  ([⟨2,[],[],e.1⟩],e.2)
 else if k=6∧dp=true then
  let e:=exV G 4 c1
  let t:=bC 2 e.2
  let B:=rc (1+t.1) t.2
  let o:=iT 2 B.2
  if o.1=true then
   let E:=rc 1 o.2
   (⟨3,[],[],e.1⟩::(B.1++(⟨4,[],[],[]⟩::(E.1++[⟨7,[],[],[]⟩]))),E.2)
  else(⟨3,[],[],e.1⟩::(B.1++[⟨7,[],[],[]⟩]),o.2)
 else if k=7∧dp=true then
  let t:=bC 3 c1
  let B:=rc 1 t.2
  (⟨5,[],[],[⟨5,0,[]⟩,⟨1,0,[105]⟩,⟨0,(1+t.1:Nat),[]⟩]⟩::(B.1++[⟨1,[105],[],[⟨2,0,[]⟩,⟨1,0,[105]⟩,⟨0,1,[]⟩]⟩,⟨7,[],[],[]⟩]),B.2)
 else
  let o:=iT 3 c1
  if o.1=true then
   let e:=exV G 4 o.2
   ([⟨6,[],[],e.1⟩],e.2)
  else([],o.2)
def kU (G:GP)(rc:Nat→HI→List HP×HI)(dp:Bool):Nat→HI→List HP×HI
 | 0,c=>([],c)
 | n+1,c=>((iw G rc dp c).1++(kU G rc dp n (iw G rc dp c).2).1,(kU G rc dp n (iw G rc dp c).2).2)
def rd (G:GP):Nat→Nat→HI→List HP×HI
 | 0=>kU G (fun _ c=>([],c)) false
 | d+1=>kU G (rd G d) true
end
def sB:Nat→Nat
 | 0=>1
 | d+1=>3+3 * sB d
structure BL (x:HP):Prop where
 name:x.fac.length≤8
 args:x.faj=[]
 len:x.fag.length≤125
 tok:∀t∈x.fag,t.fac.length≤8
 kind:1≤x.faa∧x.faa≤7
structure RcOk (s:Nat) (rc:Nat→HI→List HP×HI):Prop where
 len:∀n c,c.ok→(rc n c).1.length≤n * s
 b:∀n c,c.ok→(rc n c).2.b=c.b
 ok:∀n c,c.ok→(rc n c).2.ok
 bl:∀n c,c.ok→∀x∈(rc n c).1,BL x
theorem vB {k:Int}{n:List UInt8}{e:List HX}(hn:n.length≤8)(h:qI e 3)(hk:1≤k∧k≤7:=by omega):BL ⟨k,n,[],e⟩:=⟨hn,rfl,h.2.1,h.2.2,hk⟩
theorem uq {k:Int}(hk:1≤k∧k≤7:=by omega):BL ⟨k,[],[],[]⟩:=⟨by simp,rfl,by simp,by simp,hk⟩
theorem wN {G:GP}(hG:G.ok){s:Nat}{rc:Nat→HI→List HP×HI}{dp:Bool}(h:dp=true→RcOk s rc){c:HI}(hc:c.ok):
  (iw G rc dp c).1.length≤3+3 * s∧(dp=false→(iw G rc dp c).1.length≤1)∧(iw G rc dp c).2.b=c.b∧(iw G rc dp c).2.ok∧∀x∈(iw G rc dp c).1,BL x:=by
 obtain⟨k1,b1,o1,_⟩:=bx hc 9
 unfold iw
 dsimp only
 generalize(bC 9 c).1=k at *
 generalize(bC 9 c).2=c1 at *
 split
 ·obtain⟨k2,b2,o2,_⟩:=bx o1 (G.vars.length:Int)
  obtain⟨t3,b3,o3,_⟩:=dt hG o2 6 (by omega)
  refine⟨by simp;omega,fun _=>by simp,(b3.trans b2).trans b1,o3,fun x hx=>?_⟩
  simp only[List.mem_singleton]at hx
  subst hx
  refine vB ?_ t3
  cases hv:G.vars[(bC (G.vars.length:Int) c1).1]? with
  | none=>simp
  | some v=>exact hG.v8 v (List.mem_of_getElem? hv)
 split
 ·obtain⟨t3,b3,o3,_⟩:=dt hG o1 5 (by omega)
  refine⟨by simp;omega,fun _=>by simp,b3.trans b1,o3,fun x hx=>?_⟩
  simp only[List.mem_singleton]at hx
  subst hx
  exact vB (by simp) t3
 split
 ·rename_i hk
  have hr:=h hk.2
  obtain⟨t3,b3,o3,_⟩:=dt hG o1 4 (by omega)
  obtain⟨k4,b4,o4,_⟩:=bx o3 2
  have hl:=hr.len (1+(bC 2 (exV G 4 c1).2).1) _ o4
  have hbb:=hr.b (1+(bC 2 (exV G 4 c1).2).1) _ o4
  have hob:=hr.ok (1+(bC 2 (exV G 4 c1).2).1) _ o4
  have hbl:=hr.bl (1+(bC 2 (exV G 4 c1).2).1) _ o4
  have k4':=k4 (by omega)
  have hl2:(rc (1+(bC 2 (exV G 4 c1).2).1) (bC 2 (exV G 4 c1).2).2).1.length≤2 * s:=Nat.le_trans hl (Nat.mul_le_mul_right _ (by omega))
  generalize rc (1+(bC 2 (exV G 4 c1).2).1) (bC 2 (exV G 4 c1).2).2=B at *
  obtain⟨b5,o5,_⟩:=fK hob 2
  split
  ·have hl3:=hr.len 1 _ o5
   have hb3:=hr.b 1 _ o5
   have ho3:=hr.ok 1 _ o5
   have hx3:=hr.bl 1 _ o5
   generalize rc 1 (iT 2 B.2).2=E at *
   refine⟨by simp;omega,(fun e=>by rw[e]at hk;cases hk.2),((((hb3.trans b5).trans hbb).trans b4).trans b3).trans b1,ho3,fun x hx=>?_⟩
   simp only[List.mem_cons,List.mem_append,List.not_mem_nil,or_false]at hx
   rcases hx with rfl|hx|rfl|hx|rfl
   ·exact vB (by simp) t3
   ·exact hbl x hx
   ·exact uq
   ·exact hx3 x hx
   ·exact uq
  ·refine⟨by simp;omega,(fun e=>by rw[e]at hk;cases hk.2),(((b5.trans hbb).trans b4).trans b3).trans b1,o5,fun x hx=>?_⟩
   simp only[List.mem_cons,List.mem_append,List.not_mem_nil,or_false]at hx
   rcases hx with rfl|hx|rfl
   ·exact vB (by simp) t3
   ·exact hbl x hx
   ·exact uq
 split
 ·rename_i hk
  have hr:=h hk.2
  obtain⟨k4,b4,o4,_⟩:=bx o1 3
  have hl3:=hr.len 1 _ o4
  have hb3:=hr.b 1 _ o4
  have ho3:=hr.ok 1 _ o4
  have hx3:=hr.bl 1 _ o4
  generalize rc 1 (bC 3 c1).2=B at *
  refine⟨by simp;omega,(fun e=>by rw[e]at hk;cases hk.2),(hb3.trans b4).trans b1,ho3,fun x hx=>?_⟩
  simp only[List.mem_cons,List.mem_append,List.not_mem_nil,or_false]at hx
  rcases hx with rfl|hx|rfl|rfl
  ·exact⟨by simp,rfl,by simp,by simp,by simp⟩
  ·exact hx3 x hx
  ·exact⟨by simp,rfl,by simp,by simp,by simp⟩
  ·exact uq
 ·obtain⟨b5,o5,_⟩:=fK o1 3
  split
  ·obtain⟨t3,b3,o3,_⟩:=dt hG o5 4 (by omega)
   refine⟨by simp;omega,fun _=>by simp,(b3.trans b5).trans b1,o3,fun x hx=>?_⟩
   simp only[List.mem_singleton]at hx
   subst hx
   exact vB (by simp) t3
  ·exact⟨by simp,fun _=>by simp,b5.trans b1,o5,fun x hx=>by cases hx⟩
theorem DJ {G:GP}{rc:Nat→HI→List HP×HI}{dp:Bool}{s:Nat}(hs:∀c:HI,c.ok→(iw G rc dp c).1.length≤s∧(iw G rc dp c).2.b=c.b∧(iw G rc dp c).2.ok∧∀x∈(iw G rc dp c).1,BL x):RcOk s (kU G rc dp):=by
 have key:∀n c,c.ok→(kU G rc dp n c).1.length≤n * s∧(kU G rc dp n c).2.b=c.b∧(kU G rc dp n c).2.ok∧∀x∈(kU G rc dp n c).1,BL x:=by
  intro n
  induction n with
  | zero=>exact fun c hc=>⟨by simp[kU],rfl,hc,fun x hx=>by simp[kU]at hx⟩
  | succ n ih=>
   intro c hc
   obtain⟨h1,h2,h3,h4⟩:=hs c hc
   obtain⟨i1,i2,i3,i4⟩:=ih _ h3
   rw[kU]
   refine⟨by simp only[List.length_append];rw[Nat.succ_mul];omega,i2.trans h2,i3,fun x hx=>?_⟩
   rcases List.mem_append.1 hx with hx|hx
   ·exact h4 x hx
   ·exact i4 x hx
 exact⟨fun n c hc=>(key n c hc).1,fun n c hc=>(key n c hc).2.1,fun n c hc=>(key n c hc).2.2.1,fun n c hc=>(key n c hc).2.2.2⟩
theorem mq {G:GP}(hG:G.ok):∀d,RcOk (sB d) (rd G d)
 | 0=>DJ fun c hc=>by
  have:=wN hG (s:=0) (rc:=fun _ c=>([],c)) (dp:=false) (fun e=>by cases e) hc
  exact⟨this.2.1 rfl,this.2.2⟩
 | d+1=>DJ fun c hc=>by
  have:=wN hG (dp:=true) (fun _=>mq hG d) hc
  exact⟨this.1,this.2.2⟩
end Go.Proofs.YtjmplnfiabmalaaGreat
namespace Go.Proofs.YtjmplnfiabmalaaGreat
open Go.Sim
set_option maxRecDepth 100000
set_option maxHeartbeats 4000000
def dr (x:HP):List DC:=match x.fag with
 | []=>[.t (.int .i64 x.faa),.t (.str x.fac),.t (.lst 0 []),.t (.lst 0 [])]
 | t::l=>[.d (.int .i64 x.faa),.d (.str x.fac),.d (.lst 0 []),.d (.lst 3 ((t::l).map HX.tr))]
theorem qd (k:Int)(n:List UInt8)(a:List (List UInt8)):dr ⟨k,n,a,[]⟩=[.t (.int .i64 k),.t (.str n),.t (.lst 0 []),.t (.lst 0 [])]:=rfl
theorem FE (k:Int)(n:List UInt8)(a:List (List UInt8))(t:HX)(l:List HX):dr ⟨k,n,a,t::l⟩=[.d (.int .i64 k),.d (.str n),.d (.lst 0 []),.d (.lst 3 ((t::l).map HX.tr))]:=rfl
theorem lm {e:List HX}(h:0 < e.length)(k:Int)(n:List UInt8)(a:List (List UInt8)):dr ⟨k,n,a,e⟩=[.d (.int .i64 k),.d (.str n),.d (.lst 0 []),.d (.lst 3 (e.map HX.tr))]:=by
 cases e with
 | nil=>cases h
 | cons t l=>rfl
abbrev DK (G:GP)(n:Nat)(d:Int)(c:HI)(R:List HP×HI):Prop:=aS Tryz.prog 201 [fF,tI .i64 (n:Int),tI .i64 d] (gH G c) (.r (.c (.own (1,0,0)))) (gH G R.2++[((1,0,0),.dar 4 (R.1.map dr) none)])
theorem Gr {G:GP}(hG:G.ok){rc:Nat→HI→List HP×HI}{dp:Bool}{s d:Nat}(hd:d≤5)(hdp:dp=decide (0 < d))(hs:3+3 * s≤1000)(hR:dp=true→RcOk s rc)(hrc:dp=true→∀n c,n≤2→c.ok→DK G n ((d:Int) - 1) c (rc n c))(n:Nat)(c:HI)(hn:n≤4)(hc:c.ok):
  DK G n d c (kU G rc dp n c):=by
 refine aw hΓ ay Tryz.func201 rfl (by decide) rfl rfl ?_
 obtain⟨R,c',hRR⟩:∃R c',kU G rc dp n c=(R,c'):=⟨_,_,rfl⟩
 rw[hRR]
 have hvl:(G.vars.map ak).length=G.vars.length:=by simp
 repeat' ((conv=>whnf);first|apply Wx|apply W6|apply oi|(apply fi<;>intro h)|refine⟨_,rfl,?_⟩|exact rfl)
 all_goals try exact⟨KP⟩
 conv=>whnf
 refine⟨{q:Nat×HI×List HP // q.1≤n∧q.2.1.ok∧q.2.2.length+q.1 * 1000≤4000∧q.2.2++(kU G rc dp q.1 q.2.1).1=R∧(kU G rc dp q.1 q.2.1).2=c'},fun q=>⟨[(0,fF),(1,tI .i64 (q.1.1:Int)),(2,tI .i64 (d:Int)),(7,.r (.c (.own (10,0,0))))],[((0,0,0),some (.box [.ptr (0,0,1) 0,.own (0,0,2),.t (.lst 1 (G.names.map ak)),.t (.lst 1 (G.ars.map aa))])),((0,0,1),some (.box [.t (.lst 1 (q.1.2.1.b.map aL)),.t (.int .i64 q.1.2.1.i),.t (.int .i64 q.1.2.1.h)])),((0,0,2),some (.arr false 1 (G.vars.map ak))),((10,0,0),some (.dar 4 (q.1.2.2.map dr) none))],[10,0]⟩,fun q=>q.1.1,⟨(n,c,[]),by dsimp only;omega,hc,by simp;omega,by rw[hRR];rfl,by rw[hRR]⟩,?_,?_⟩
 ·skip
  repeat' ((conv=>whnf);first|apply Wx|apply W6|apply oi|(apply fi<;>intro h)|refine⟨_,rfl,?_⟩|exact rfl)
  all_goals try exact⟨KP⟩
  all_goals try exact⟨rfl⟩
 intro⟨⟨rem,ci,acc⟩,hi,hci,hal,hr1,hr2⟩
 dsimp only at hi hci hal hr1 hr2 ⊢
 cases rem with
 | zero=>
  simp only[kU,List.append_nil]at hr1 hr2
  subst hr1;subst hr2
  repeat' ((conv=>whnf);first|apply Wx|apply W6|apply oi|(apply fi<;>intro h)|refine⟨_,rfl,?_⟩|exact rfl)
  all_goals try exact⟨KP⟩
  all_goals try exact KX
 | succ m=>
  rw[kU]at hr1 hr2
  dsimp only at hr1 hr2
  obtain⟨s1,_,s3,s4,_⟩:=wN hG hR hci
  generalize hS:iw G rc dp ci=S at *
  obtain⟨k1,b1,o1,g1⟩:=bx hci 9
  unfold iw at hS
  dsimp only at hS
  generalize bC 9 ci=q at *
  rw[←List.append_assoc]at hr1
  have hlen:(acc++S.1).length+m * 1000≤4000:=by rw[List.length_append];omega
  by_cases hk4:q.1 < 4
  ·rw[if_pos hk4]at hS
   obtain⟨k2,b2,o2,g2⟩:=bx o1 (G.vars.length:Int)
   obtain⟨t3,b3,o3,g3⟩:=dt hG o2 6 (by omega)
   generalize bC (G.vars.length:Int) q.2=v at *
   generalize exV G 6 v.2=e at *
   subst hS
   have kv:=hG.v1
   have hvv:v.1 < (G.vars.map ak).length:=by have:=k2 (by omega);omega
   obtain⟨nm,hnm⟩:=ag (l:=G.vars) (k:=v.1) (by omega)
   have hvg:(G.vars.map ak)[v.1]?=some (ak nm):=ab hnm
   rw[hvl.symm]at g2
   repeat' ((conv=>whnf);first|apply Wx|apply W6|apply oi|(apply fi<;>intro h)|refine⟨_,rfl,?_⟩|exact rfl)
   all_goals try exact⟨KP⟩
   refine cg (g1) ?_
   repeat' ((conv=>whnf);first|apply Wx|apply W6|apply oi|(apply fi<;>intro h)|refine⟨_,rfl,?_⟩|exact rfl)
   all_goals try exact⟨KP⟩
   all_goals try exact KX
   refine cg (g2) ?_
   repeat' ((conv=>whnf);first|apply Wx|apply W6|apply oi|(apply fi<;>intro h)|refine⟨_,rfl,hvv,?_⟩|refine⟨_,hvg,?_⟩|refine⟨_,rfl,?_⟩|exact rfl)
   all_goals try exact⟨KP⟩
   refine cg (g3) ?_
   repeat' ((conv=>whnf);first|apply Wx|apply W6|apply oi|(apply fi<;>intro h)|refine⟨_,rfl,?_⟩|exact rfl)
   all_goals try exact⟨KP⟩
   all_goals try exact⟨aM _⟩
   all_goals try exact⟨⟨by simp <;> omega,by simp <;> omega⟩⟩
   all_goals try exact⟨KW⟩
   conv=>whnf
   refine⟨⟨(m,_,_),by dsimp only;omega,s4,hlen,hr1,hr2⟩,?_,KD⟩
   repeat' ((conv=>whnf);first|apply Wx|apply W6|apply oi|(apply fi<;>intro h)|refine⟨_,rfl,?_⟩|exact rfl)
   all_goals try exact⟨KP⟩
   all_goals try exact⟨K7⟩
   all_goals exact⟨by simp[lm t3.1,hnm]⟩
  rw[if_neg hk4]at hS
  by_cases hk6:q.1 < 6
  ·rw[if_pos hk6]at hS
   obtain⟨t3,b3,o3,g3⟩:=dt hG o1 5 (by omega)
   generalize exV G 5 q.2=e at *
   subst hS
   repeat' ((conv=>whnf);first|apply Wx|apply W6|apply oi|(apply fi<;>intro h)|refine⟨_,rfl,?_⟩|exact rfl)
   all_goals try exact⟨KP⟩
   refine cg (g1) ?_
   repeat' ((conv=>whnf);first|apply Wx|apply W6|apply oi|(apply fi<;>intro h)|refine⟨_,rfl,?_⟩|exact rfl)
   all_goals try exact⟨KP⟩
   all_goals try exact KX
   refine cg (g3) ?_
   repeat' ((conv=>whnf);first|apply Wx|apply W6|apply oi|(apply fi<;>intro h)|refine⟨_,rfl,?_⟩|exact rfl)
   all_goals try exact⟨KP⟩
   all_goals try exact⟨aM _⟩
   all_goals try exact⟨⟨by simp <;> omega,by simp <;> omega⟩⟩
   all_goals try exact⟨KW⟩
   conv=>whnf
   refine⟨⟨(m,_,_),by dsimp only;omega,s4,hlen,hr1,hr2⟩,?_,KD⟩
   repeat' ((conv=>whnf);first|apply Wx|apply W6|apply oi|(apply fi<;>intro h)|refine⟨_,rfl,?_⟩|exact rfl)
   all_goals try exact⟨KP⟩
   all_goals try exact⟨K7⟩
   all_goals exact⟨by simp[lm t3.1]⟩
  rw[if_neg hk6]at hS
  by_cases hk7:q.1=6∧dp=true
  ·rw[if_pos hk7]at hS
   obtain⟨hk7,hdt⟩:=hk7
   have hd0:0 < d:=by rw[hdp]at hdt;exact of_decide_eq_true hdt
   have hRo:=hR hdt
   obtain⟨t3,b3,o3,g3⟩:=dt hG o1 4 (by omega)
   generalize exV G 4 q.2=e at *
   obtain⟨k4,b4,o4,g4⟩:=bx o3 2
   generalize bC 2 e.2=t at *
   have g5:=hrc hdt (1+t.1) t.2 (by have:=k4 (by omega);omega) o4
   have l5:=hRo.len (1+t.1) t.2 o4
   have ob5:=hRo.ok (1+t.1) t.2 o4
   have l5':(rc (1+t.1) t.2).1.length≤2 * s:=Nat.le_trans l5 (Nat.mul_le_mul_right _ (by have:=k4 (by omega);omega))
   generalize rc (1+t.1) t.2=B at *
   obtain⟨b6,o6,g6⟩:=fK ob5 2
   generalize iT 2 B.2=o at *
   cases ho:o.1 with
   | true=>
    rw[if_pos ho]at hS
    rw[ho]at g6
    have g7:=hrc hdt 1 o.2 (by omega) o6
    have l7:=hRo.len 1 o.2 o6
    generalize rc 1 o.2=E at *
    subst hS
    repeat' ((conv=>whnf);first|apply Wx|apply W6|apply oi|(apply fi<;>intro h)|refine⟨_,rfl,?_⟩|exact rfl)
    all_goals try exact⟨KP⟩
    refine cg (g1) ?_
    repeat' ((conv=>whnf);first|apply Wx|apply W6|apply oi|(apply fi<;>intro h)|refine⟨_,rfl,?_⟩|exact rfl)
    all_goals try exact⟨KP⟩
    all_goals try exact KK
    refine cg (g3) ?_
    repeat' ((conv=>whnf);first|apply Wx|apply W6|apply oi|(apply fi<;>intro h)|refine⟨_,rfl,?_⟩|exact rfl)
    all_goals try exact⟨KP⟩
    all_goals try exact⟨aM _⟩
    all_goals try exact⟨⟨by simp <;> omega,by simp <;> omega⟩⟩
    all_goals try exact⟨KW⟩
    refine cg (g4) ?_
    repeat' ((conv=>whnf);first|apply Wx|apply W6|apply oi|(apply fi<;>intro h)|refine⟨_,rfl,?_⟩|exact rfl)
    all_goals try exact⟨KP⟩
    all_goals try exact⟨aM _⟩
    all_goals try exact⟨⟨by simp <;> omega,by simp <;> omega⟩⟩
    all_goals try exact⟨KW⟩
    refine cg (g5) ?_
    repeat' ((conv=>whnf);first|apply Wx|apply W6|apply oi|(apply fi<;>intro h)|refine⟨_,rfl,?_⟩|exact rfl)
    all_goals try exact⟨KP⟩
    all_goals try exact⟨aM _⟩
    all_goals try exact⟨⟨by simp <;> omega,by simp <;> omega⟩⟩
    all_goals try exact⟨KW⟩
    refine cg (g6) ?_
    repeat' ((conv=>whnf);first|apply Wx|apply W6|apply oi|(apply fi<;>intro h)|refine⟨_,rfl,?_⟩|exact rfl)
    all_goals try exact⟨KP⟩
    all_goals try exact⟨aM _⟩
    all_goals try exact⟨⟨by simp <;> omega,by simp <;> omega⟩⟩
    all_goals try exact⟨KW⟩
    refine cg (g7) ?_
    repeat' ((conv=>whnf);first|apply Wx|apply W6|apply oi|(apply fi<;>intro h)|refine⟨_,rfl,?_⟩|exact rfl)
    all_goals try exact⟨KP⟩
    all_goals try exact⟨aM _⟩
    all_goals try exact⟨⟨by simp <;> omega,by simp <;> omega⟩⟩
    all_goals try exact⟨KW⟩
    conv=>whnf
    refine⟨⟨(m,_,_),by dsimp only;omega,s4,hlen,hr1,hr2⟩,?_,KD⟩
    repeat' ((conv=>whnf);first|apply Wx|apply W6|apply oi|(apply fi<;>intro h)|refine⟨_,rfl,?_⟩|exact rfl)
    all_goals try exact⟨KP⟩
    all_goals try exact⟨K7⟩
    all_goals exact⟨by simp[lm t3.1,qd]⟩
   | false=>
    rw[if_neg (by simp[ho])]at hS
    rw[ho]at g6
    subst hS
    repeat' ((conv=>whnf);first|apply Wx|apply W6|apply oi|(apply fi<;>intro h)|refine⟨_,rfl,?_⟩|exact rfl)
    all_goals try exact⟨KP⟩
    refine cg (g1) ?_
    repeat' ((conv=>whnf);first|apply Wx|apply W6|apply oi|(apply fi<;>intro h)|refine⟨_,rfl,?_⟩|exact rfl)
    all_goals try exact⟨KP⟩
    all_goals try exact KK
    refine cg (g3) ?_
    repeat' ((conv=>whnf);first|apply Wx|apply W6|apply oi|(apply fi<;>intro h)|refine⟨_,rfl,?_⟩|exact rfl)
    all_goals try exact⟨KP⟩
    all_goals try exact⟨aM _⟩
    all_goals try exact⟨⟨by simp <;> omega,by simp <;> omega⟩⟩
    all_goals try exact⟨KW⟩
    refine cg (g4) ?_
    repeat' ((conv=>whnf);first|apply Wx|apply W6|apply oi|(apply fi<;>intro h)|refine⟨_,rfl,?_⟩|exact rfl)
    all_goals try exact⟨KP⟩
    all_goals try exact⟨aM _⟩
    all_goals try exact⟨⟨by simp <;> omega,by simp <;> omega⟩⟩
    all_goals try exact⟨KW⟩
    refine cg (g5) ?_
    repeat' ((conv=>whnf);first|apply Wx|apply W6|apply oi|(apply fi<;>intro h)|refine⟨_,rfl,?_⟩|exact rfl)
    all_goals try exact⟨KP⟩
    all_goals try exact⟨aM _⟩
    all_goals try exact⟨⟨by simp <;> omega,by simp <;> omega⟩⟩
    all_goals try exact⟨KW⟩
    refine cg (g6) ?_
    repeat' ((conv=>whnf);first|apply Wx|apply W6|apply oi|(apply fi<;>intro h)|refine⟨_,rfl,?_⟩|exact rfl)
    all_goals try exact⟨KP⟩
    all_goals try exact⟨aM _⟩
    all_goals try exact⟨⟨by simp <;> omega,by simp <;> omega⟩⟩
    all_goals try exact⟨KW⟩
    conv=>whnf
    refine⟨⟨(m,_,_),by dsimp only;omega,s4,hlen,hr1,hr2⟩,?_,KD⟩
    repeat' ((conv=>whnf);first|apply Wx|apply W6|apply oi|(apply fi<;>intro h)|refine⟨_,rfl,?_⟩|exact rfl)
    all_goals try exact⟨KP⟩
    all_goals try exact⟨K7⟩
    all_goals exact⟨by simp[lm t3.1,qd]⟩
  rw[if_neg hk7]at hS
  by_cases hk8:q.1=7∧dp=true
  ·rw[if_pos hk8]at hS
   obtain⟨hk8,hdt⟩:=hk8
   have hd0:0 < d:=by rw[hdp]at hdt;exact of_decide_eq_true hdt
   have hRo:=hR hdt
   obtain⟨k4,b4,o4,g4⟩:=bx o1 3
   generalize bC 3 q.2=t at *
   have k4':=k4 (by omega)
   have hwi:IntKind.i64.wrap (1+(t.1:Int))=1+(t.1:Int):=IntWalk.i64_in _ (by omega)
   have g5:=hrc hdt 1 t.2 (by omega) o4
   have l5:=hRo.len 1 t.2 o4
   generalize rc 1 t.2=B at *
   subst hS
   repeat' ((conv=>whnf);first|apply Wx|apply W6|apply oi|(apply fi<;>intro h)|refine⟨_,rfl,?_⟩|exact rfl)
   all_goals try exact⟨KP⟩
   refine cg (g1) ?_
   repeat' ((conv=>whnf);first|apply Wx|apply W6|apply oi|(apply fi<;>intro h)|refine⟨_,rfl,?_⟩|exact rfl)
   all_goals try exact⟨KP⟩
   all_goals try exact KK
   refine cg (g4) ?_
   repeat' ((conv=>whnf);first|apply Wx|apply W6|apply oi|(apply fi<;>intro h)|refine⟨_,rfl,?_⟩|exact rfl)
   all_goals try exact⟨KP⟩
   all_goals try exact⟨aM [⟨5,0,[]⟩,⟨1,0,[105]⟩,⟨0,IntKind.i64.wrap (1+(t.1:Int)),[]⟩]⟩
   all_goals try exact⟨aM _⟩
   all_goals try exact⟨⟨by simp <;> omega,by simp <;> omega⟩⟩
   all_goals try exact⟨KW⟩
   refine cg (g5) ?_
   repeat' ((conv=>whnf);first|apply Wx|apply W6|apply oi|(apply fi<;>intro h)|refine⟨_,rfl,?_⟩|exact rfl)
   all_goals try exact⟨KP⟩
   all_goals try exact⟨aM [⟨2,0,[]⟩,⟨1,0,[105]⟩,⟨0,1,[]⟩]⟩
   all_goals try exact⟨aM _⟩
   all_goals try exact⟨⟨by simp <;> omega,by simp <;> omega⟩⟩
   all_goals try exact⟨KW⟩
   conv=>whnf
   refine⟨⟨(m,_,_),by dsimp only;omega,s4,hlen,hr1,hr2⟩,?_,KD⟩
   repeat' ((conv=>whnf);first|apply Wx|apply W6|apply oi|(apply fi<;>intro h)|refine⟨_,rfl,?_⟩|exact rfl)
   all_goals try exact⟨KP⟩
   all_goals try exact⟨K7⟩
   all_goals exact⟨by simp[qd,FE,HX.tr,hwi]⟩
  rw[if_neg hk8]at hS
  have hnd:¬(q.1=6∧0 < d)∧¬(q.1=7∧0 < d):=⟨fun h=>hk7 ⟨h.1,by rw[hdp];exact decide_eq_true h.2⟩,fun h=>hk8 ⟨h.1,by rw[hdp];exact decide_eq_true h.2⟩⟩
  obtain⟨b6,o6,g6⟩:=fK o1 3
  generalize iT 3 q.2=o at *
  cases ho:o.1 with
  | true=>
   rw[if_pos ho]at hS
   rw[ho]at g6
   obtain⟨t3,b3,o3,g3⟩:=dt hG o6 4 (by omega)
   generalize exV G 4 o.2=e at *
   subst hS
   repeat' ((conv=>whnf);first|apply Wx|apply W6|apply oi|(apply fi<;>intro h)|refine⟨_,rfl,?_⟩|exact rfl)
   all_goals try exact⟨KP⟩
   refine cg (g1) ?_
   repeat' ((conv=>whnf);first|apply Wx|apply W6|apply oi|(apply fi<;>intro h)|refine⟨_,rfl,?_⟩|exact rfl)
   all_goals try exact⟨KP⟩
   all_goals try exact KK
   all_goals(
    refine cg (g6) ?_
    repeat' ((conv=>whnf);first|apply Wx|apply W6|apply oi|(apply fi<;>intro h)|refine⟨_,rfl,?_⟩|exact rfl)
    all_goals try exact⟨KP⟩
    refine cg (g3) ?_
    repeat' ((conv=>whnf);first|apply Wx|apply W6|apply oi|(apply fi<;>intro h)|refine⟨_,rfl,?_⟩|exact rfl)
    all_goals try exact⟨KP⟩
    all_goals try exact⟨aM _⟩
    all_goals try exact⟨⟨by simp <;> omega,by simp <;> omega⟩⟩
    all_goals try exact⟨KW⟩
    conv=>whnf
    refine⟨⟨(m,_,_),by dsimp only;omega,s4,hlen,hr1,hr2⟩,?_,KD⟩
    repeat' ((conv=>whnf);first|apply Wx|apply W6|apply oi|(apply fi<;>intro h)|refine⟨_,rfl,?_⟩|exact rfl)
    all_goals try exact⟨KP⟩
    all_goals try exact⟨K7⟩
    all_goals exact⟨by simp[lm t3.1]⟩)
  | false=>
   rw[if_neg (by simp[ho])]at hS
   rw[ho]at g6
   subst hS
   repeat' ((conv=>whnf);first|apply Wx|apply W6|apply oi|(apply fi<;>intro h)|refine⟨_,rfl,?_⟩|exact rfl)
   all_goals try exact⟨KP⟩
   refine cg (g1) ?_
   repeat' ((conv=>whnf);first|apply Wx|apply W6|apply oi|(apply fi<;>intro h)|refine⟨_,rfl,?_⟩|exact rfl)
   all_goals try exact⟨KP⟩
   all_goals try exact KK
   all_goals(
    refine cg (g6) ?_
    repeat' ((conv=>whnf);first|apply Wx|apply W6|apply oi|(apply fi<;>intro h)|refine⟨_,rfl,?_⟩|exact rfl)
    all_goals try exact⟨KP⟩
    conv=>whnf
    refine⟨⟨(m,_,_),by dsimp only;omega,s4,hlen,hr1,hr2⟩,?_,KD⟩
    repeat' ((conv=>whnf);first|apply Wx|apply W6|apply oi|(apply fi<;>intro h)|refine⟨_,rfl,?_⟩|exact rfl)
    all_goals try exact⟨KP⟩
    all_goals try exact⟨K7⟩
    all_goals exact⟨by simp⟩)
theorem xe {G:GP}(hG:G.ok):∀(d n:Nat) (c:HI),d≤2→n≤4→c.ok→DK G n d c (rd G d n c)
 | 0,n,c,_,hn,hc=>Gr hG (s:=0) (by omega) rfl (by omega) (fun h=>by cases h) (fun h=>by cases h) n c hn hc
 | d+1,n,c,hd,hn,hc=>Gr hG (s:=sB d) (by omega) (by simp) (by
   have:d=0∨d=1:=by omega
   rcases this with rfl|rfl <;> simp[sB]) (fun _=>mq hG d) (fun _ m c' hm hc'=>by
   have e:(((d+1:Nat):Int) - 1)=(d:Int):=by omega
   rw[e]
   exact xe hG d m c' (by omega) (by omega) hc') n c hn hc
end Go.Proofs.YtjmplnfiabmalaaGreat
