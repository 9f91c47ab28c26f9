import Derived.Test.YtoglejgmjeojoaaGreatGi
namespace Go.Proofs.YtoglejgmjeojoaaGreat
open Go.Sim
set_option maxRecDepth 100000
set_option maxHeartbeats 4000000
theorem oK (C:Cx)(hC:CxOk C)(pd:List Nat)(s:Gs)(d:Int)(ins:List Nat)(q:Ib)(lv:List Int)(x:Sc)(hq:IbOk C x q)(k:Nat)(last:Bool)(h1:bl s)(h2:x.chain.length≤100)(h3:s.start=true→s.items.length∈pd)(h4:-1000≤d∧d≤1999)(hlv:lv.length≤68719476736)(hd p:List Int):
  bx Tryz.prog 270 [cL,ibP,tI .i64 (k:Int),tB last] (ic (0,0,1) (0,0,2) (0,1,1) C pd s d ins q lv) (.tup []) (ic (1,0,1) (0,0,2) (1,1,1) C pd (aP C x k last d ⟨s,hd,p,lv⟩).g (if x.outer=false∧last=true then d else d - 1) ins q (aP C x k last d ⟨s,hd,p,lv⟩).lv):=by
 refine aD hΓ ao Tryz.func270 rfl (by decide) rfl rfl ?_
 obtain⟨a1,a2⟩:=hC.args
 obtain⟨a3,a4⟩:=hC.words
 obtain⟨qf,qe,ql,qa,qi,qc,qb⟩:=q
 obtain⟨xf,xc,xl,xi,xo⟩:=x
 obtain⟨q1,q2,q3,q4,q5,q6⟩:=hq
 dsimp only at q1 q2 q3 q4 q5 q6 h2
 subst q1;subst q2;subst q3
 have hlen:=bv pd s.items
 have hll:(lv.map aa).length=lv.length:=by simp
 cases xo with
 | true=>
  have e1:qc=[]:=q5.1 rfl
  have e2:=q4 rfl
  subst e1;subst e2
  rw[if_neg (by simp)]
  have e4:IntKind.i64.wrap (C.args+IntKind.i64.wrap (16 * C.words))=C.args+16 * C.words:=by simp(disch:=omega)only[IntWalk.i64_in]
  cases hfm:C.framed with
  | true=>
   have g1:=bD C pd s d ins ⟨qf,qe,ql,C.args,qi,[],qb⟩ lv k 14 C.args (-1) h1 h2 h3 (by omega) (by omega)
   have e:aP C ⟨xf,[],ql,qi,true⟩ k last d ⟨s,hd,p,lv⟩=⟨au C s d 14 C.args k [],hd,p,lv⟩:=by simp[aP,hfm]
   rw[e]
   cases last
   all_goals skip
   ·skip
    repeat' ((conv=>whnf);first|apply Wx|apply W6|refine cg g1 ?_|apply oi|(apply fi<;>intro h)|refine⟨_,rfl,?_⟩|exact rfl)
    all_goals try exact⟨KP⟩
    all_goals try exact⟨KW⟩
    all_goals try(exfalso;rw[hfm]at h;cases h;done)
   ·skip
    repeat' ((conv=>whnf);first|apply Wx|apply W6|refine cg g1 ?_|apply oi|(apply fi<;>intro h)|refine⟨_,rfl,?_⟩|exact rfl)
    all_goals try exact⟨KP⟩
    all_goals try exact⟨KW⟩
    all_goals try(exfalso;rw[hfm]at h;cases h;done)
  | false=>
   have g1:=bD C pd s d ins ⟨qf,qe,ql,C.args,qi,[],qb⟩ lv k 16 (C.args+16 * C.words) (-1) h1 h2 h3 (by omega) (by omega)
   have e:aP C ⟨xf,[],ql,qi,true⟩ k last d ⟨s,hd,p,lv⟩=⟨au C s d 16 (IntKind.i64.wrap (C.args+IntKind.i64.wrap (16 * C.words))) k [],hd,p,lv⟩:=by simp[aP,hfm,e4]
   rw[←e4]at g1
   rw[e]
   cases last
   all_goals skip
   ·skip
    repeat' ((conv=>whnf);first|apply Wx|apply W6|refine cg g1 ?_|apply oi|(apply fi<;>intro h)|refine⟨_,rfl,?_⟩|exact rfl)
    all_goals try exact⟨KP⟩
    all_goals try exact⟨KW⟩
    all_goals try(exfalso;rw[hfm]at h;cases h;done)
   ·skip
    repeat' ((conv=>whnf);first|apply Wx|apply W6|refine cg g1 ?_|apply oi|(apply fi<;>intro h)|refine⟨_,rfl,?_⟩|exact rfl)
    all_goals try exact⟨KP⟩
    all_goals try exact⟨KW⟩
    all_goals try(exfalso;rw[hfm]at h;cases h;done)
 | false=>
  have hne:qc≠[]:=fun e=>by have:=q5.2 e;cases this
  obtain⟨c,cs,rfl⟩:∃c cs,qc=c::cs:=by
   cases qc with
   | nil=>exact absurd rfl hne
   | cons c cs=>exact⟨c,cs,rfl⟩
  have hcl:(((c::cs).map aa).length:Int)=(cs.length:Int)+1:=by simp
  cases last with
  | true=>
   have e:aP C ⟨xf,c::cs,ql,qi,false⟩ k true d ⟨s,hd,p,lv⟩=⟨s,hd,p,lv⟩:=by simp[aP]
   rw[e,if_pos ⟨rfl,rfl⟩]
   repeat' ((conv=>whnf);first|apply Wx|apply W6|apply oi|(apply fi<;>intro h)|refine⟨_,rfl,?_⟩|exact rfl)
   all_goals try exact⟨KP⟩
   all_goals try exact⟨KW⟩
   all_goals try exact KN
  | false=>
   have e:aP C ⟨xf,c::cs,ql,qi,false⟩ k false d ⟨s,hd,p,lv⟩=⟨au C s d 10 0 k (c::cs),hd,p,lv++[(s.items.length:Int)]⟩:=by simp[aP]
   rw[e,if_neg (by simp)]
   have g1:=bD C pd s d ins ⟨qf,qe,ql,qa,qi,c::cs,qb⟩ (lv++[(s.items.length:Int)]) k 10 0 (-1) h1 h2 h3 (by omega) (by omega)
   have hap:lv.map aa++[[Tr.int .i64 ((itR (clr pd s.items)).length:Int)]]=(lv++[(s.items.length:Int)]).map aa:=by rw[hlen];simp[aa]
   repeat' ((conv=>whnf);first|apply Wx|apply W6|refine cg g1 ?_|apply oi|(apply fi<;>intro h)|refine⟨_,rfl,?_⟩|exact rfl)
   all_goals try exact⟨KP⟩
   all_goals try exact⟨KW⟩
   all_goals try exact⟨⟨by rw[hll];(try dsimp only);simp only[List.length_cons,List.length_nil];omega,by rw[hll];(try dsimp only);simp only[List.length_cons,List.length_nil];omega⟩⟩
   all_goals try exact⟨hap⟩
   all_goals try exact KN
abbrev EY (i1 i2:Sim.Id)(C:Cx)(pd:List Nat)(s:Gs)(d:Int)(ins:List Nat):List (Sim.Id×AO):=[((0,0,0),uB C s d i1 i2),(i1,.dar 7 (itR (clr pd s.items)) none),(i2,.arr false 1 (kK ins))]
theorem vD {g:Nat}:∀{l:List FX} {i j:Nat} {x:FX},i≤g→l[g - i]?=some x→x.faa=0→jA ((funsF l i).map fun n:Nat=>(n:Int)) j (g:Int)=some (j+((l.take (g - i)).filter fun x=>x.faa==0).length)
 | [],i,j,x,h,hx,_=>by simp at hx
 | y::l,i,j,x,h,hx,h0=>by
  rw[funsF]
  by_cases hgi:g=i
  ·subst hgi
   rw[Nat.sub_self,List.getElem?_cons_zero]at hx
   injection hx with hx
   subst hx
   rw[if_pos h0,List.map_append,List.map_cons,List.cons_append,jA,if_pos (by simp),Nat.sub_self]
   simp
  ·have hs:g - i=(g - (i+1))+1:=by omega
   rw[hs,List.getElem?_cons_succ]at hx
   have ih:=fun j=>vD (g:=g) (l:=l) (i:=i+1) (j:=j) (by omega) hx h0
   rw[hs,List.take_succ_cons]
   by_cases hy:y.faa=0
   ·rw[if_pos hy,List.map_append,List.map_cons,List.map_nil,List.cons_append,List.nil_append,jA,if_neg (by simp;omega),ih,List.filter_cons,if_pos (by simp[hy]),List.length_cons]
    congr 1;omega
   ·rw[if_neg hy,List.nil_append,ih,List.filter_cons,if_neg (by simp[hy])]
theorem CE {C:Cx}{g:Nat}(hg:bz C g):cQ ((an C.p).map fun n:Nat=>(n:Int)) (g:Int)=(kX C.p g:Int):=by
 obtain⟨x,hx,h0⟩:=hg
 have:=vD (l:=C.p) (i:=0) (j:=0) (x:=x) (Nat.zero_le g) (by simpa using hx) h0
 unfold cQ an
 rw[this]
 simp[cp,kX]
theorem rR (C:Cx)(hC:CxOk C)(pd:List Nat)(s:Gs)(d:Int)(ins:List Nat)(g:Nat)(hg:bz C g):
  bx Tryz.prog 275 [cL,tI .i64 (g:Int)] (EY (0,0,1) (0,0,2) C pd s d ins) (tI .i64 (kX C.p g:Int)) (EY (0,0,1) (0,0,2) C pd s d ins):=by
 refine aD hΓ ao Tryz.func275 rfl (by decide) rfl rfl ?_
 have h60:=hC.len
 have gF:=br C.p (by omega)
 have hfl:=my C.p 0
 have gI:=kZ ((an C.p).map fun n:Nat=>(n:Int)) (g:Int) (by unfold an;rw[List.length_map];omega)
 rw[CE hg,List.map_map]at gI
 repeat' ((conv=>whnf);first|apply Wx|apply W6|apply oi|(apply fi<;>intro h)|refine cl gF ?_|refine cl gI ?_|refine⟨_,rfl,?_⟩|exact rfl)
 all_goals try exact⟨KP⟩
theorem CA (ins:List Nat)(g:Nat):(ins.map fun n:Nat=>(n:Int)).contains (g:Int)=ins.contains g:=by
 induction ins with
 | nil=>rfl
 | cons a l ih=>
  rw[List.map_cons,List.contains_cons,List.contains_cons,ih]
  congr 1
  rw[Bool.eq_iff_iff]
  simp
  omega
theorem si (C:Cx)(hC:CxOk C)(pd:List Nat)(s:Gs)(d:Int)(ins:List Nat)(q:Ib)(lv:List Int)(g:Nat)(h1:bl s)(hS:q.chain.length+1=ins.length)(hi:ins.length≤100)(hg:g < C.p.length):
  bx Tryz.prog 273 [cL,ibP,tI .i64 (g:Int)] (ic (0,0,1) (0,0,2) (0,1,1) C pd s d ins q lv) (tB (bU C ins g s.items.length)) (ic (0,0,1) (0,0,2) (0,1,1) C pd s d ins q lv):=by
 refine aD hΓ ao Tryz.func273 rfl (by decide) rfl rfl ?_
 unfold bl at h1
 have hlen:=bv pd s.items
 have h60:=hC.len
 have hin:=hC.inl
 have hE:=cH C.p (g:Int) (by omega)
 have gC:=iA (ins.map fun n:Nat=>(n:Int)) (g:Int) (by rw[List.length_map];omega)
 rw[CA,List.map_map]at gC
 have hee:=lG C.p g
 have hql:((q.chain.map aa).length:Int)=(ins.length:Int) - 1:=by rw[List.length_map];omega
 have hw2:IntKind.i64.wrap (be C.p (g:Int) - (g:Int))=be C.p (g:Int) - g:=by rw[IntWalk.i64_in _ (by omega)]
 have hr:bU C ins g s.items.length=(decide ((ins.length:Int)≤C.b.faj) && (decide (be C.p (g:Int) - g≤9) && (decide (s.items.length < 200) && !ins.contains g))):=rfl
 rw[hr]
 generalize be C.p (g:Int)=eg at *
 cases hcn:ins.contains g with
 | true=>
  rw[hcn]at gC
  repeat' ((conv=>whnf);first|apply Wx|apply W6|apply oi|(apply fi<;>intro h)|refine cl gC ?_|refine cl hE ?_|refine⟨_,rfl,?_⟩|exact rfl)
  all_goals try exact⟨KP⟩
  all_goals exact⟨by simp⟩
 | false=>
  rw[hcn]at gC
  repeat' ((conv=>whnf);first|apply Wx|apply W6|apply oi|(apply fi<;>intro h)|refine cl gC ?_|refine cl hE ?_|refine⟨_,rfl,?_⟩|exact rfl)
  all_goals try exact⟨KP⟩
  all_goals(refine⟨congrArg Tr.bool ?_⟩;(try rw[hlen]);rw[Bool.eq_iff_iff];simp only[Bool.and_eq_true,decide_eq_true_eq,Bool.not_false,and_true,Bool.false_eq_true];clear hr hcn gC hE;simp only[hw2,hql,decide_eq_true_eq,decide_eq_false_iff_not]at *;first|omega|exact iff_of_false id (by omega))
structure IRm (C:Cx) (lev n:Nat) (x:Sc) (q:Ib) (ins pd:List Nat) (b:Nat) (s:Gs) (d:Int):Prop where
 sc:ScOk C x ins
 ib:IbOk C x q
 rm:Rm C lev n (ins.length - 1) s d
 beg:Beg b s
 mem:b∈pd
 le:∀i∈pd,i≤b
def Fx (C:Cx)(lev:Nat):Prop:=∀(e:Ex) (x:Sc) (q:Ib) (ins pd:List Nat) (lv:List Int) (k p b:Nat) (ln:FX) (s:Gs) (d:Int),e.ok→C.p[k]?=some ln→fK ln.fad p e→mw C ln.fad→IRm C lev e.toks.length x q ins pd b s d→
 bx Tryz.prog 268 [cL,ibP,tI .i64 (k:Int),.r (.c (.t (.lst 3 (ln.fad.map Gf.tr)))),tI .i64 (p:Int),tI .i64 (b:Int)] (ic (0,0,1) (0,0,2) (0,1,1) C pd s d ins q lv) (.tup []) (ic (1,0,1) (1,0,2) (0,1,1) C pd (dJ C (aT C lev) x ins k e d s) (d+1) ins q lv)
def yO (C:Cx)(lev:Nat):Prop:=∀(x:Sc) (q:Ib) (ins pd:List Nat) (lv:List Int) (k g b:Nat) (s:Gs) (d:Int),k < C.p.length→bz C g→bU C ins g s.items.length=true→IRm C lev 1 x q ins pd b s (d - argsN C.p g)→
 bx Tryz.prog 274 [cL,ibP,tI .i64 (k:Int),tI .i64 (g:Int),tI .i64 (b:Int)] (ic (0,0,1) (0,0,2) (0,1,1) C pd s d ins q lv) (.tup []) (ic (1,0,1) (1,0,2) (0,1,1) C pd (aT C lev x ins k g d s) (d - argsN C.p g+1) ins q lv)
theorem wA {C:Cx}(hC:CxOk C){lev:Nat}(hR:yO C lev):∀(n:Nat) (e:Ex),e.toks.length≤n→∀(x:Sc) (q:Ib) (ins pd:List Nat) (lv:List Int) (k p b:Nat) (ln:FX) (s:Gs) (d:Int),e.ok→C.p[k]?=some ln→fK ln.fad p e→mw C ln.fad→IRm C lev e.toks.length x q ins pd b s d→
  bx Tryz.prog 268 [cL,ibP,tI .i64 (k:Int),.r (.c (.t (.lst 3 (ln.fad.map Gf.tr)))),tI .i64 (p:Int),tI .i64 (b:Int)] (ic (0,0,1) (0,0,2) (0,1,1) C pd s d ins q lv) (.tup []) (ic (1,0,1) (1,0,2) (0,1,1) C pd (dJ C (aT C lev) x ins k e d s) (d+1) ins q lv)
 | 0,e,hn,_,_,_,_,_,_,_,_,_,_,_,_,_,_,_,_=>by have:=e.toks_pos;omega
 | n+1,.node t es,hn,x,q,ins,pd,lv,k,p,b,ln,s,d,ho,hk,hs,hca,hr=>by
  refine aD hΓ ao Tryz.func268 rfl (by decide) rfl rfl ?_
  obtain⟨hx,hq,hrm,hbg,hbm,hpl2⟩:=hr
  obtain⟨hsh,hnm⟩:=kS hC hk
  have hle:=fk hs
  obtain⟨ht,hsa⟩:=fR hs
  obtain⟨e1,e2⟩:=pi ho.1
  have hel:es.length=ar t:=ho.2.1
  have h60:=hC.len
  have h20:=(hC.line _ _ hk).2.2.2.1
  have hr1:=hrm.room
  have hr2:=hrm.depth
  have hr3:=hrm.low
  have hr4:=hrm.high
  have hin:=hC.inl
  have hchn:=hx.chain
  have htp:=um lev
  have hO:=li ln.fad p t es (by omega) hsh ho hs
  have hpl:((fv (p+1) es).map nR).length=es.length:=by rw[List.length_map,oy]
  rw[Ex.toks,List.length_cons]at hn hle hr1 hr4
  rw[dJ]
  have hrepG:∀g d s,bz C g→bU C ins g s.items.length=true→Grow (bW lev) s (aT C lev x ins k g d s):=fun g d s hg hr=>cK hC lev k g d s hx hg hr
  have hrepB:∀g d s,bz C g→bU C ins g s.items.length=true→Beg b s→Beg b (aT C lev x ins k g d s):=fun g d s hg hr hb=>yh hC lev k g d s hx hg hr hb
  repeat' ((conv=>whnf);first|apply Wx|apply W6|apply oi|(apply fi<;>intro h)|refine⟨p,t.tr,rfl,ab ht,?_⟩|refine cl hO ?_|refine⟨_,rfl,?_⟩|exact rfl)
  all_goals try exact⟨KP⟩
  conv=>whnf
  refine⟨{j:Nat // j≤es.length},fun r=>⟨[(0,cL),(1,ibP),(2,tI .i64 (k:Int)),(3,.r (.c (.t (.lst 3 (ln.fad.map Gf.tr))))),(4,tI .i64 (p:Int)),(5,tI .i64 (b:Int)),(12,.r (.c (.ptr (12,0,0) 0))),(23,.r (.c (.own (23,0,0)))),(24,tI .i64 (((fv (p+1) es).map nR).length:Int)),(25,tI .i64 (r.1:Int))],
   [(
    (0,0,0),some (uB C (da C (aT C lev) x ins k (es.take r.1) d s) (d+r.1) (12,0,1) (12,0,2))),((12,0,1),some (.dar 7 (itR (clr pd (da C (aT C lev) x ins k (es.take r.1) d s).items)) none)),((12,0,2),some (.arr false 1 (kK ins))),
    ((0,1,0),some (ibB q (0,1,1))),((0,1,1),some (.arr false 1 (lv.map aa))),((12,0,0),some (.box (t.tr.map .t))),((23,0,0),some (.arr true 1 ((fv (p+1) es).map nR)))],[23,12,0]⟩,fun r=>es.length - r.1,⟨0,by omega⟩,?_,?_⟩
  ·skip
   repeat' ((conv=>whnf);first|apply Wx|apply W6|apply oi|(apply fi<;>intro h)|refine⟨_,rfl,?_⟩|exact rfl)
   all_goals try exact⟨KP⟩
   all_goals try exact⟨KW⟩
  intro⟨j,hj⟩
  dsimp only at hj ⊢
  have hgr:=kR (C:=C) (x:=x) (ins:=ins) (line:=k) (lev:=lev) hrepG (es.take j) d s
  have hg2:=hgr.le
  have hb2:=mv (C:=C) (x:=x) (ins:=ins) (line:=k) (rep:=aT C lev) hrepB (es.take j) d hbg
  have htk:=cP es j
  obtain⟨s1,hs1⟩:∃s1,da C (aT C lev) x ins k (es.take j) d s=s1:=⟨_,rfl⟩
  rw[hs1]at hgr hg2 hb2 ⊢
  have hpd1:s1.start=true→s1.items.length∈pd:=fun h=>by rw[hb2.2.1 h];exact hbm
  by_cases hlj:j < es.length
  ·obtain⟨a,ha⟩:=ae hlj
   obtain⟨o,ho1,ho2⟩:=sF hsa ha
   have hta:=gU ha
   have htk2:=cP es (j+1)
   have hal:=iD ha
   have hjt:j≤(ak (es.take j)).length:=by
    have:∀(l:List Ex),l.length≤(ak l).length:=by
     intro l
     induction l with
     | nil=>simp
     | cons b l ih=>have:=b.toks_pos;rw[ak,List.length_append,List.length_cons];omega
    have h2:=this (es.take j)
    rw[List.length_take]at h2
    omega
   have hm:=Nat.mul_le_mul_right (bW lev) (show(ak (es.take j)).length+a.toks.length≤(ak es).length+1 by omega)
   rw[Nat.add_mul]at hm
   have hI:=wA hC hR n a (by omega) x q ins pd lv k o b ln s1 (d+j) (jZ ho.2.2 ha) hk ho2 hca ⟨hx,hq,⟨by omega,hr2,by omega,by omega⟩,hb2,hbm,hpl2⟩
   have hnext:=nK C (aT C lev) x ins k d s ha
   rw[hs1]at hnext
   have hjl:j < ((fv (p+1) es).map nR).length:=by rw[hpl];exact hlj
   repeat' ((conv=>whnf);first|apply Wx|apply W6|apply oi|(apply fi<;>intro h)|refine⟨j,rfl,hjl,?_⟩|refine⟨(nR o),(ab ho1),?_⟩|refine⟨_,rfl,?_⟩|exact rfl)
   all_goals try exact⟨KP⟩
   all_goals try exact KX
   refine cg (hI) ?_
   repeat' ((conv=>whnf);first|apply Wx|apply W6|apply oi|(apply fi<;>intro h)|refine⟨_,rfl,?_⟩|exact rfl)
   all_goals try exact⟨KP⟩
   conv=>whnf
   refine⟨⟨j+1,by omega⟩,?_,KD⟩
   repeat' ((conv=>whnf);first|apply Wx|apply W6|apply oi|(apply fi<;>intro h)|refine⟨_,rfl,?_⟩|exact rfl)
   all_goals try exact⟨KP⟩
   all_goals try exact⟨by dsimp only;rw[hnext]⟩
   all_goals try exact⟨KW⟩
  ·have hje:j=es.length:=by omega
   subst hje
   rw[List.take_length]at hs1 hg2 htk
   have hroom:s1.items.length+bW lev≤68719476736:=by
    have:((ak es).length+1) * bW lev=(ak es).length * bW lev+bW lev:=by rw[Nat.add_mul];omega
    omega
   rw[hs1]
   have hch:x.chain.length≤100:=by omega
   have hch':q.chain.length≤100:=by rw[hq.chain];exact hch
   have hro:bl s1:=by unfold bl;omega
   obtain⟨k1,k2,k3⟩:=AM ho.1
   have htl:=hsh t (List.mem_of_getElem? ht)
   have hxf:0≤x.first∧x.first≤1000:=by
    have:=hx.first
    omega
   obtain⟨ee,_,_,_,_,hll⟩:=hx.endE hC
   rcases vz ho.1 with hk0|hk1|hk7|hk26
   ·have g1:=bD C pd s1 (d+es.length) ins q lv k 0 t.fai 1 hro hch' hpd1 (by omega) (by omega)
    rw[hq.chain]at g1
    have hz:=k1 (.inl hk0)
    unfold iZ
    rw[if_pos hk0]
    repeat' ((conv=>whnf);first|apply Wx|apply W6|refine cg g1 ?_|apply oi|(apply fi<;>intro h)|refine⟨_,rfl,?_⟩|exact rfl)
    all_goals try exact⟨KP⟩
    all_goals try exact KX
    all_goals try exact⟨KW⟩
    all_goals try exact KK
   ·have g1:=ni C hC pd s1 (d+es.length) ins q lv x hq k (cQ x.locals t.fab) 1 false rfl hro hch hpd1 (by omega) hxf (by have:=jL x.locals t.fab;omega)
    have gI:=gR x.locals t.fab (by omega)
    rw[←hq.locals]at gI g1
    have hz:=k1 (.inr hk1)
    unfold iZ Br
    rw[if_neg (by omega),if_pos hk1,←hq.locals]
    generalize cQ q.locals t.fab=ix at *
    repeat' ((conv=>whnf);first|apply Wx|apply W6|refine cg g1 ?_|apply oi|(apply fi<;>intro h)|refine cl gI ?_|refine⟨_,rfl,?_⟩|exact rfl)
    all_goals try exact⟨KP⟩
    all_goals try exact KX
    all_goals try exact⟨KW⟩
    all_goals try exact KK
   ·obtain⟨f,hf,hfa⟩:=hca t (List.mem_of_getElem? ht) hk7
    obtain⟨hfl,y,hy,hy0,_⟩:=fe hf
    have hfun:bz C f:=⟨y,hy,hy0⟩
    have hkk:=k2 hk7
    have gF:=eC C.p t.fab (by omega)
    rw[show eH C.p t.fab=(f:Int) from ba hf]at gF
    have g1:=si C hC pd s1 (d+es.length) ins q lv f hro (by rw[hq.chain];exact hchn) (by omega) hfl
    unfold iZ
    rw[if_neg (by omega),if_neg (by omega),if_pos hk7,hf]
    dsimp only
    cases hrb:bU C ins f s1.items.length with
    | true=>
     have g2:=hR x q ins pd lv k f b s1 (d+es.length) (aL hk) hfun hrb ⟨hx,hq,⟨by omega,hr2,by omega,by omega⟩,hb2,hbm,hpl2⟩
     rw[hrb]at g1
     rw[if_pos rfl]
     repeat' ((conv=>whnf);first|apply Wx|apply W6|refine cg g1 ?_|refine cg g2 ?_|apply oi|(apply fi<;>intro h)|refine cl gF ?_|refine⟨_,rfl,?_⟩|exact rfl)
     all_goals try exact⟨KP⟩
     all_goals try exact KX
     all_goals try exact⟨KW⟩
     all_goals try exact KK
    | false=>
     rw[hrb]at g1
     rw[if_neg (by simp)]
     have g2:=rR C hC pd s1 (d+es.length) ins f hfun
     have g3:=bD C pd s1 (d+es.length) ins q lv k 12 (kX C.p f) (1 - t.fai) hro hch' hpd1 (by omega) (by omega)
     have hw1:IntKind.i64.wrap (1 - t.fai)=1 - t.fai:=by rw[IntWalk.i64_in _ (by omega)]
     rw[←hw1,hq.chain]at g3
     repeat' ((conv=>whnf);first|apply Wx|apply W6|refine cg g1 ?_|refine cg g2 ?_|refine cg g3 ?_|apply oi|(apply fi<;>intro h)|refine cl gF ?_|refine⟨_,rfl,?_⟩|exact rfl)
     all_goals try exact⟨KP⟩
     all_goals try exact KX
     all_goals try exact⟨KW⟩
     all_goals try exact KK
   ·have g1:=bD C pd s1 (d+es.length) ins q lv k (5+t.faa - 2) 0 (-1) hro hch' hpd1 (by omega) (by omega)
    rw[hq.chain]at g1
    have hw5:IntKind.i64.wrap (IntKind.i64.wrap (5+t.faa) - 2)=5+t.faa - 2:=by simp(disch:=omega)only[IntWalk.i64_in]
    rw[←hw5]at g1
    have hz:=k3 hk26.1 hk26.2
    unfold iZ
    rw[if_neg (by omega),if_neg (by omega),if_neg (by omega),←hw5]
    repeat' ((conv=>whnf);first|apply Wx|apply W6|refine cg g1 ?_|apply oi|(apply fi<;>intro h)|refine⟨_,rfl,?_⟩|exact rfl)
    all_goals try exact⟨KP⟩
    all_goals try exact KX
    all_goals try exact⟨KW⟩
    all_goals try exact KK
def sH (C:Cx)(lev:Nat):Prop:=∀(x:Sc) (q:Ib) (ins pd:List Nat) (s:Gs) (d:Int),ScOk C x ins→IbOk C x q→q.f=(x.f:Int)→q.e=(jV C.p x.f:Int)→q.base=d→s.start=false→(∀i∈pd,i < s.items.length)→
 s.items.length+(jV C.p x.f - x.f) * (20 * bW lev+3)≤68719476736→((lev+(ins.length - 1):Nat):Int)=C.b.faj→0≤d→d+30+100 * (lev:Int)≤1900→
 bx Tryz.prog 252 [cL,ibP] (ic (0,0,1) (0,0,2) (0,1,1) C pd s d ins q []) (.tup []) (ic (1,0,1) (1,0,2) (1,1,1) C pd (aQ C (aT C lev) x ins d s).1 (if x.outer=true then d else d+1) ins q (aQ C (aT C lev) x ins d s).2)
theorem DS {C:Cx}(hC:CxOk C){lev:Nat}(hL:sH C lev):yO C (lev+1):=by
 intro x q ins pd lv k g b s d hk hg hrb hr
 refine aD hΓ ao Tryz.func274 rfl (by decide) rfl rfl ?_
 obtain⟨hx,hq,hrm,hbg,hbm,hpl2⟩:=hr
 obtain⟨r1,r2,r3,r4⟩:=dS hrb
 obtain⟨y,hy,hy0⟩:=hg
 have h60:=hC.len
 have hin:=hC.inl
 have hloc:=cG hC ⟨y,hy,hy0⟩
 have hA:argsN C.p g=y.faf.length:=by rw[argsN,hy]
 have hLo:=gM C.p (g:Int) (by omega) (fun z hz=>aA hC.small hz)
 have htop:=oW hC hx
 have hxl:x.locals.length≤8:=by obtain⟨_,_,_,_,_,h⟩:=hx.endE hC;exact h
 have hxf:=hx.first
 have ha:=hC.args
 have hch:=hx.chain
 obtain⟨q1,q2,q3,q4⟩:=hrm
 have hyS:=kv hC hx k ⟨y,hy,hy0⟩
 obtain⟨ye,ye1,ye2,ye3,ye4,_⟩:=hyS.endE hC
 have gE:=cH C.p (g:Int) (by omega)
 have hee:be C.p (g:Int)=(ye:Int):=by rw[bb];exact ba ye1
 rw[hee]at gE r2
 have hyl:(y.faf.map ag).length=y.faf.length:=by simp
 have hxll:(x.locals.map ag).length=x.locals.length:=by simp
 have hcl:(x.chain.map aa).length=x.chain.length:=by simp
 obtain⟨qf,qe,ql,qa,qi,qc,qb⟩:=q
 obtain⟨i1,i2,i3,i4,i5,i6⟩:=hq
 dsimp only at i1 i2 i3 i4
 subst i1;subst i2;subst i3
 have e2:IntKind.i64.wrap (x.first+(x.locals.length:Int))=x.first+x.locals.length:=by rw[IntWalk.i64_in _ (by omega)]
 repeat' ((conv=>whnf);first|(with_reducible apply W1;fail_if_success (with_reducible show Wo _ _ _ _ (Code.region 1 _ _) _ _))|(with_reducible first|apply W2|apply W3|apply W4|apply W5|apply W6|apply W7|apply W8|apply W9)|apply aZ|apply oi|(apply fi<;>intro h)|refine⟨g,y.tr,rfl,ab hy,?_⟩|refine cl gE ?_|refine cl hLo ?_|refine⟨_,rfl,?_⟩|exact rfl)
 all_goals try exact⟨KP⟩
 all_goals try exact⟨⟨by simp <;> omega,by simp <;> omega⟩⟩
 conv=>whnf
 refine iE ⟨[(0,cL),(1,ibP),(2,tI .i64 (k:Int)),(3,tI .i64 (g:Int)),(4,tI .i64 (b:Int)),(10,.r (.c (.ptr (48,0,0) 0)))],
  [((0,0,0),some (uB C s d (0,0,1) (0,0,2))),((0,0,1),some (.dar 7 (itR (clr pd (s).items)) none)),((0,0,2),some (.arr false 1 (kK ins))),((0,1,0),some (ibB ⟨qf,qe,x.locals,qa,x.first,x.chain,qb⟩ (0,1,1))),((0,1,1),some (.arr false 1 (lv.map aa))),((48,0,0),some (.box [.t (.int .i64 (g:Int)),.t (.int .i64 (ye:Int)),.t (.lst 1 ((localsOf C.p (g:Int)).map ag)),.t (.int .i64 (argsN C.p g:Int)),.t (.int .i64 0),.t (.lst 1 ((x.chain++[(k:Int)]).map aa)),.t (.int .i64 0),.nils 1]))],_⟩ ?_ ?_ rfl ?_
 ·exact⟨.inl rfl,.inl rfl,.inl rfl,.inl rfl,.inl rfl,.inl rfl,trivial⟩
 ·refine⟨.inr (.inl rfl),.inr (.inl rfl),.inr (.inl rfl),.inr (.inl rfl),.inr (.inl rfl),.inr (.inr (.inl ⟨_,_,rfl,rfl,.inl rfl,.inl rfl,.inr (.inr ⟨_,rfl,rfl,?_⟩),.inl ?_,.inl rfl,.inr (.inr ⟨_,rfl,?_,?_⟩),.inl rfl,.inr (.inl ⟨_,_,rfl,rfl⟩),trivial⟩)),trivial⟩
  ·intro q hq;simp only[AC.ids,List.mem_cons,List.not_mem_nil,or_false]at hq;subst hq;rfl
  ·rw[hyl,hA]
  ·show Tr.lst 1 _=Tr.lst 1 ([]++List.map aa x.chain++[[Tr.int .i64 (k:Int)]])
   simp[aa]
  ·intro q hq;simp only[AC.ids,List.mem_cons,List.not_mem_nil,or_false]at hq;subst hq;rfl
 repeat' ((conv=>whnf);first|(with_reducible apply W1;fail_if_success (with_reducible show Wo _ _ _ _ (Code.seq (Code.region 2 _ _) _) _ _))|(with_reducible first|apply W2|apply W3|apply W4|apply W5|apply W6|apply W7|apply W8|apply W9)|apply aZ|apply oi|(apply fi<;>intro h)|refine⟨_,rfl,?_⟩|exact rfl)
 all_goals try exact⟨KP⟩
 conv=>whnf
 refine ip Unit (fun _=>⟨[(0,cL),(1,ibP),(2,tI .i64 (k:Int)),(3,tI .i64 (g:Int)),(4,tI .i64 (b:Int)),(10,.r (.c (.ptr (48,0,0) 0)))],
  [((0,0,0),some (uB C s d (0,0,1) (0,0,2))),((0,0,1),some (.dar 7 (itR (clr pd (s).items)) none)),((0,0,2),some (.arr false 1 (kK ins))),((0,1,0),some (ibB ⟨qf,qe,x.locals,qa,x.first,x.chain,qb⟩ (0,1,1))),((0,1,1),some (.arr false 1 (lv.map aa))),((48,0,0),some (.box [.t (.int .i64 (g:Int)),.t (.int .i64 (ye:Int)),.t (.lst 1 ((localsOf C.p (g:Int)).map ag)),.t (.int .i64 (argsN C.p g:Int)),.t (.int .i64 (bp C x)),.t (.lst 1 ((x.chain++[(k:Int)]).map aa)),.t (.int .i64 0),.nils 1]))],[48,0]⟩) ?_ ?_
 ·cases ho:x.outer with
  | true=>
   have c1:=i5.1 ho
   have c2:=i6 ho
   have c3:=i4 ho
   have c4:bp C x=(x.locals.length:Int) - C.args:=by unfold bp;rw[if_pos ho]
   have c5:IntKind.i64.wrap (IntKind.i64.wrap (x.first+((x.locals.map ag).length:Int)) - qa)=bp C x:=by rw[c4,hxll,e2,c2,c3,IntWalk.i64_in _ (by omega)];omega
   repeat' ((conv=>whnf);first|apply Wx|apply W6|apply oi|(apply fi<;>intro h)|refine⟨_,rfl,?_⟩|exact rfl)
   all_goals try exact⟨KP⟩
   all_goals try(exfalso;rw[c1]at h;simp at h;done)
   all_goals(conv=>whnf)
   all_goals(refine⟨(),?_⟩)
   repeat' ((conv=>whnf);first|apply Wx|apply W6|apply oi|(apply fi<;>intro h)|refine⟨_,rfl,?_⟩|exact rfl)
   all_goals try exact⟨KP⟩
   all_goals exact⟨congrArg (Tr.int .i64) c5⟩
  | false=>
   have hne:x.chain≠[]:=fun e=>by rw[i5.2 e]at ho;cases ho
   have c4:bp C x=x.first+x.locals.length:=by unfold bp;rw[if_neg (by simp[ho])]
   have c5:IntKind.i64.wrap (x.first+((x.locals.map ag).length:Int))=bp C x:=by rw[c4,hxll,e2]
   repeat' ((conv=>whnf);first|apply Wx|apply W6|apply oi|(apply fi<;>intro h)|refine⟨_,rfl,?_⟩|exact rfl)
   all_goals try exact⟨KP⟩
   all_goals try(exfalso;simp at h;exact hne h)
   all_goals(conv=>whnf)
   all_goals(refine⟨(),?_⟩)
   repeat' ((conv=>whnf);first|apply Wx|apply W6|apply oi|(apply fi<;>intro h)|refine⟨_,rfl,?_⟩|exact rfl)
   all_goals try exact⟨KP⟩
   all_goals exact⟨congrArg (Tr.int .i64) c5⟩
 intro _
 have hll:((localsOf C.p (g:Int)).map ag).length=(localsOf C.p (g:Int)).length:=by simp
 have em:IntKind.i64.wrap (bp C x+(((localsOf C.p (g:Int)).map ag).length:Int))=bp C x+((localsOf C.p (g:Int)).length:Int):=by rw[hll,IntWalk.i64_in _ (by omega)]
 obtain⟨s0,hs0⟩:∃s0:Gs,(⟨s.items,max s.most (bp C x+(localsOf C.p (g:Int)).length),s.start⟩:Gs)=s0:=⟨_,rfl⟩
 have z1:s.items=s0.items:=by rw[←hs0]
 have z2:max s.most (bp C x+(localsOf C.p (g:Int)).length)=s0.most:=by rw[←hs0]
 have hb0:Beg b s0:=by rw[←hs0];exact⟨hbg.1,hbg.2⟩
 obtain⟨T1,hT1⟩:∃T1,cz C (bC C x k g) x.chain k (argsN C.p g) d s0=T1:=⟨_,rfl⟩
 have hst:∀{t:Gs},Beg b t→t.start=true→t.items.length∈pd:=fun{t} hb h=>by rw[hb.2.1 h];exact hbm
 repeat' ((conv=>whnf);first|apply Wx|apply W6|apply oi|(apply fi<;>intro h)|refine⟨_,rfl,?_⟩|exact rfl)
 all_goals try exact⟨KP⟩
 conv=>whnf
 refine⟨{r:Nat×Gs // r.1≤argsN C.p g∧cz C (bC C x k g) x.chain k r.1 (d - ((argsN C.p g - r.1:Nat):Int)) r.2=T1∧r.2.items.length≤300 - r.1∧Beg b r.2},fun r=>⟨[(0,cL),(1,ibP),(2,tI .i64 (k:Int)),(3,tI .i64 (g:Int)),(4,tI .i64 (b:Int)),(10,.r (.c (.ptr (48,0,0) 0))),(11,.r (.c (.ptr (117,0,0) 0))),(12,tI .i64 ((r.1.1:Int) - 1))],
  [((0,0,0),some (uB C r.1.2 (d - ((argsN C.p g - r.1.1:Nat):Int)) (48,0,2) (48,0,3))),((48,0,2),some (.dar 7 (itR (clr pd (r.1.2).items)) none)),((48,0,3),some (.arr false 1 (kK ins))),((0,1,0),some (ibB ⟨qf,qe,x.locals,qa,x.first,x.chain,qb⟩ (0,1,1))),((0,1,1),some (.arr false 1 (lv.map aa))),((48,0,0),some (.box [.t (.int .i64 (g:Int)),.t (.int .i64 (ye:Int)),.t (.lst 1 ((localsOf C.p (g:Int)).map ag)),.t (.int .i64 (argsN C.p g:Int)),.t (.int .i64 (bp C x)),.t (.lst 1 ((x.chain++[(k:Int)]).map aa)),.t (.int .i64 0),.own (48,0,1)])),((48,0,1),some (.arr false 1 [])),((117,0,0),some (ibB ⟨0,0,localsOf C.p (g:Int),0,bp C x,x.chain,0⟩ (117,0,1))),((117,0,1),some (.arr false 1 []))],[117,48,0]⟩,fun r=>r.1.1,⟨(argsN C.p g,s0),by dsimp only;omega,by rw[←hT1];simp,by dsimp only;rw[←z1];omega,hb0⟩,?_,?_⟩
 ·skip
  repeat' ((conv=>whnf);first|apply Wx|apply W6|apply oi|(apply fi<;>intro h)|refine⟨_,rfl,?_⟩|exact rfl)
  all_goals try exact⟨KP⟩
  all_goals try exact⟨congrArg (fun l=>itR (clr pd l)) z1⟩
  all_goals try exact⟨congrArg (Tr.int _) (by rw[em];exact z2)⟩
  all_goals try exact⟨KW⟩
 intro⟨⟨m,t⟩,hm,ht,htl,htb⟩
 dsimp only at hm ht htl htb ⊢
 cases m with
 | succ m=>
  have g1:=qU C pd t (d - ((argsN C.p g - (m+1):Nat):Int)) ins ⟨0,0,localsOf C.p (g:Int),0,bp C x,x.chain,0⟩ [] (bC C x k g) k m rfl rfl (by unfold bl;omega) (by dsimp only;omega) (hst htb) (by omega) (by show 0≤bp C x∧bp C x≤1000;omega) (by omega)
  rw[cz]at ht
  rw[show((m+1:Nat):Int) - 1=(m:Int) by omega]
  repeat' ((conv=>whnf);first|apply Wx|apply W6|refine cg g1 ?_|apply oi|(apply fi<;>intro h)|refine⟨_,rfl,?_⟩|exact rfl)
  all_goals try exact⟨KP⟩
  all_goals try exact KX
  conv=>whnf
  refine⟨⟨(m,dp C (bC C x k g) t (d - ((argsN C.p g - (m+1):Nat):Int)) m k x.chain),by dsimp only;omega,by rw[←ht];dsimp only;congr 1;omega,by dsimp only;simp only[dp,au,List.length_append,List.length_cons,List.length_nil];omega,by unfold dp;exact htb.emit ..⟩,?_,KD⟩
  repeat' ((conv=>whnf);first|apply Wx|apply W6|apply oi|(apply fi<;>intro h)|refine⟨_,rfl,?_⟩|exact rfl)
  all_goals try exact⟨KP⟩
  all_goals try exact⟨KW⟩
 | zero=>
  have e0:t=T1:=by rw[←ht];rfl
  subst e0
  have ed:d - ((argsN C.p g - 0:Nat):Int)=d - argsN C.p g:=by rw[Nat.sub_zero]
  rw[ed]
  obtain⟨T2,hT2⟩:∃T2,cT C (bC C x k g) x.chain k (d - argsN C.p g) ((localsOf C.p (g:Int)).length - argsN C.p g) (argsN C.p g) t=T2:=⟨_,rfl⟩
  repeat' ((conv=>whnf);first|apply Wx|apply W6|apply oi|(apply fi<;>intro h)|refine⟨_,rfl,?_⟩|exact rfl)
  all_goals try exact⟨KP⟩
  all_goals try exact KX
  conv=>whnf
  refine⟨{r:Nat×Gs // r.1≤(localsOf C.p (g:Int)).length∧cT C (bC C x k g) x.chain k (d - argsN C.p g) ((localsOf C.p (g:Int)).length - r.1) r.1 r.2=T2∧r.2.items.length≤400 - 2 * ((localsOf C.p (g:Int)).length - r.1)∧Beg b r.2},fun r=>⟨[(0,cL),(1,ibP),(2,tI .i64 (k:Int)),(3,tI .i64 (g:Int)),(4,tI .i64 (b:Int)),(10,.r (.c (.ptr (48,0,0) 0))),(11,.r (.c (.ptr (117,0,0) 0))),(13,tI .i64 (r.1.1:Int))],
   [((0,0,0),some (uB C r.1.2 (d - argsN C.p g) (48,0,2) (48,0,3))),((48,0,2),some (.dar 7 (itR (clr pd (r.1.2).items)) none)),((48,0,3),some (.arr false 1 (kK ins))),((0,1,0),some (ibB ⟨qf,qe,x.locals,qa,x.first,x.chain,qb⟩ (0,1,1))),((0,1,1),some (.arr false 1 (lv.map aa))),((48,0,0),some (.box [.t (.int .i64 (g:Int)),.t (.int .i64 (ye:Int)),.t (.lst 1 ((localsOf C.p (g:Int)).map ag)),.t (.int .i64 (argsN C.p g:Int)),.t (.int .i64 (bp C x)),.t (.lst 1 ((x.chain++[(k:Int)]).map aa)),.t (.int .i64 0),.own (48,0,1)])),((48,0,1),some (.arr false 1 [])),((117,0,0),some (ibB ⟨0,0,localsOf C.p (g:Int),0,bp C x,x.chain,0⟩ (117,0,1))),((117,0,1),some (.arr false 1 []))],[117,48,0]⟩,fun r=>(localsOf C.p (g:Int)).length - r.1.1,⟨(argsN C.p g,t),by dsimp only;omega,hT2,by dsimp only;omega,htb⟩,?_,?_⟩
  ·skip
   repeat' ((conv=>whnf);first|apply Wx|apply W6|apply oi|(apply fi<;>intro h)|refine⟨_,rfl,?_⟩|exact rfl)
   all_goals try exact⟨KP⟩
  intro⟨⟨i,u⟩,hi,hu,hul,hub⟩
  dsimp only at hi hu hul hub ⊢
  by_cases hil2:i < (localsOf C.p (g:Int)).length
  ·obtain⟨c,hc⟩:∃c,(localsOf C.p (g:Int)).length - i=c+1:=⟨(localsOf C.p (g:Int)).length - i - 1,by omega⟩
   rw[hc,cT]at hu
   have g1:=bD C pd u (d - argsN C.p g) ins ⟨qf,qe,x.locals,qa,x.first,x.chain,qb⟩ lv k 0 0 1 (by unfold bl;omega) (by dsimp only;omega) (hst hub) (by omega) (by omega)
   have g2:=qU C pd (au C u (d - argsN C.p g) 0 0 k x.chain) (d - argsN C.p g+1) ins ⟨0,0,localsOf C.p (g:Int),0,bp C x,x.chain,0⟩ [] (bC C x k g) k i rfl rfl (by unfold bl au;simp only[List.length_append,List.length_cons,List.length_nil];omega) (by dsimp only;omega) (hst (hub.emit ..)) (by omega) (by show 0≤bp C x∧bp C x≤1000;omega) (by omega)
   repeat' ((conv=>whnf);first|apply Wx|apply W6|refine cg g1 ?_|refine cg g2 ?_|apply oi|(apply fi<;>intro h)|refine⟨_,rfl,?_⟩|exact rfl)
   all_goals try exact⟨KP⟩
   all_goals try exact KX
   conv=>whnf
   refine⟨⟨(i+1,dp C (bC C x k g) (au C u (d - argsN C.p g) 0 0 k x.chain) (d - argsN C.p g+1) i k x.chain),by dsimp only;omega,by rw[←hu];dsimp only;rw[show(localsOf C.p (g:Int)).length - (i+1)=c by omega],by dsimp only;simp only[dp,au,List.length_append,List.length_cons,List.length_nil];omega,by unfold dp;exact(hub.emit ..).emit ..⟩,?_,KD⟩
   repeat' ((conv=>whnf);first|apply Wx|apply W6|apply oi|(apply fi<;>intro h)|refine⟨_,rfl,?_⟩|exact rfl)
   all_goals try exact⟨KP⟩
   all_goals try exact⟨KW⟩
  ·have hie:i=(localsOf C.p (g:Int)).length:=by omega
   subst hie
   rw[Nat.sub_self,cT]at hu
   subst hu
   have hpre:dK C x k g d s=u:=by rw[dK,hs0,hT1,hT2]
   repeat' ((conv=>whnf);first|(with_reducible apply W1;fail_if_success (with_reducible show Wo _ _ _ _ (Code.seq (Code.region 15 _ _) _) _ _))|(with_reducible first|apply W2|apply W3|apply W4|apply W5|apply W6|apply W7|apply W8|apply W9)|apply aZ|apply oi|(apply fi<;>intro h)|refine⟨_,rfl,?_⟩|exact rfl)
   all_goals try exact⟨KP⟩
   all_goals try exact KX
   conv=>whnf
   obtain⟨v,hv⟩:∃v,bO C x k (d - argsN C.p g) u=v:=⟨_,rfl⟩
   have hvl:v.items.length≤500:=by rw[←hv,bO];split <;> first|(simp[au];omega)|omega
   obtain⟨hvb,hvs⟩:=nY (C:=C) (x:=x) (line:=k) (d:=d - argsN C.p g) hub
   rw[hv]at hvb hvs
   have hlen:=bv pd u.items
   refine ip Unit (fun _=>⟨[(0,cL),(1,ibP),(2,tI .i64 (k:Int)),(3,tI .i64 (g:Int)),(4,tI .i64 (b:Int)),(10,.r (.c (.ptr (48,0,0) 0)))],
    [((0,0,0),some (uB C v (d - argsN C.p g) (48,0,2) (48,0,3))),((48,0,2),some (.dar 7 (itR (clr pd (v).items)) none)),((48,0,3),some (.arr false 1 (kK ins))),((0,1,0),some (ibB ⟨qf,qe,x.locals,qa,x.first,x.chain,qb⟩ (0,1,1))),((0,1,1),some (.arr false 1 (lv.map aa))),((48,0,0),some (.box [.t (.int .i64 (g:Int)),.t (.int .i64 (ye:Int)),.t (.lst 1 ((localsOf C.p (g:Int)).map ag)),.t (.int .i64 (argsN C.p g:Int)),.t (.int .i64 (bp C x)),.t (.lst 1 ((x.chain++[(k:Int)]).map aa)),.t (.int .i64 0),.own (48,0,1)])),((48,0,1),some (.arr false 1 []))],[117,48,0]⟩) ?_ ?_
   ·have g3:=bD C pd u (d - argsN C.p g) ins ⟨qf,qe,x.locals,qa,x.first,x.chain,qb⟩ lv k 15 0 0 (by unfold bl;omega) (by dsimp only;omega) (hst hub) (by omega) (by omega)
    unfold bO at hv
    cases hst2:u.start with
    | true=>
     rw[if_pos hst2]at hv
     subst hv
     have hub2:=hub.2.1 hst2
     repeat' ((conv=>whnf);first|apply Wx|apply W6|refine cg g3 ?_|apply oi|(apply fi<;>intro h)|refine⟨_,rfl,?_⟩|exact rfl)
     all_goals try exact⟨KP⟩
     ·conv=>whnf
      refine⟨(),?_⟩
      repeat' ((conv=>whnf);first|apply Wx|apply W6|apply oi|(apply fi<;>intro h)|refine⟨_,rfl,?_⟩|exact rfl)
      all_goals try exact⟨KP⟩
      all_goals try exact⟨KW⟩
     ·exfalso;rw[hlen,hub2]at h;simp at h
    | false=>
     rw[if_neg (by simp[hst2])]at hv
     subst hv
     repeat' ((conv=>whnf);first|apply Wx|apply W6|refine cg g3 ?_|apply oi|(apply fi<;>intro h)|refine⟨_,rfl,?_⟩|exact rfl)
     all_goals try exact⟨KP⟩
     ·exfalso
      rw[hlen]at h
      have h9:=hub.2.2 (by have:=eq_of_beq h;omega)
      rw[hst2]at h9
      cases h9
     ·conv=>whnf
      refine⟨(),?_⟩
      repeat' ((conv=>whnf);first|apply Wx|apply W6|apply oi|(apply fi<;>intro h)|refine⟨_,rfl,?_⟩|exact rfl)
      all_goals try exact⟨KP⟩
      all_goals try exact⟨KW⟩
   intro _
   have hye:jV C.p (bC C x k g).f - (bC C x k g).f≤9:=by
    rw[ye4]
    show ye - g≤9
    omega
   have h3:=qo (n:=lev) (by omega)
   have hmul:=Nat.mul_le_mul hye (show 20 * bW lev+3≤20 * 8679837+3 by omega)
   have hvne:v.items.length≠b:=fun e=>by have:=hvb.2.2 e;rw[hvs]at this;cases this
   have hgL:=hL (bC C x k g) ⟨(g:Int),(ye:Int),localsOf C.p (g:Int),(argsN C.p g:Int),bp C x,x.chain++[(k:Int)],d - argsN C.p g⟩ (ins++[g]) pd v (d - argsN C.p g) hyS ⟨rfl,rfl,rfl,fun h=>(by cases h),hyS.out,fun h=>(by cases h)⟩ rfl (by rw[ye4]) rfl hvs (fun i hi=>by have:=hpl2 i hi;have:=hvb.1;omega) (by omega) (by rw[List.length_append,List.length_cons,List.length_nil];have h9:=hch;omega) q3 (by omega)
   rw[if_neg (by simp[bC])]at hgL
   have hgr2:=gr (lev:=lev) (rep:=aT C lev) (fun line g d s hg hr=>cK hC lev line g d s hyS hg hr) hC hyS (d - argsN C.p g) v
   obtain⟨hlvl,hin2⟩:=vA (lev:=lev) (rep:=aT C lev) (fun line g d s hg hr=>cK hC lev line g d s hyS hg hr) hC hyS (d - argsN C.p g) v
   obtain⟨r,hr⟩:∃r,aQ C (aT C lev) (bC C x k g) (ins++[g]) (d - argsN C.p g) v=r:=⟨_,rfl⟩
   rw[hr]at hgL hgr2 hlvl hin2
   have hrle:=hgr2.le
   have hil:(kK ins).length=ins.length:=by simp
   have hil2':(kK (ins++[g])).length=ins.length+1:=by simp
   have hw2:IntKind.i64.wrap (((kK (ins++[g])).length:Int) - 1)=(ins.length:Int):=by rw[hil2',IntWalk.i64_in _ (by omega)];omega
   have hle2:ins.length≤(kK (ins++[g])).length:=by omega
   have hcut:(kK (ins++[g])).take ins.length=kK ins:=by rw[←List.map_take,List.take_left' rfl]
   have hap:kK ins++[[Tr.int .i64 (g:Int)]]=kK (ins++[g]):=by simp[aa]
   have hrl:(r.2.map aa).length=r.2.length:=by simp
   have hfin:aT C (lev+1) x ins k g d s=⟨cn r.1.items r.1.items.length r.2,r.1.most,r.1.start⟩:=by
    show go C (aQ C (aT C lev)) x ins k g d s=_
    unfold go
    rw[hpre,hv,hr]
   rw[hfin]
   repeat' ((conv=>whnf);first|apply Wx|apply W6|refine cg hgL ?_|apply oi|(apply fi<;>intro h)|refine⟨ins.length,hw2,hle2,?_⟩|refine⟨_,rfl,?_⟩|exact rfl)
   all_goals try exact⟨KP⟩
   all_goals try exact⟨⟨by rw[hil];simp <;> omega,by rw[hil];simp <;> omega⟩⟩
   all_goals try exact⟨hap⟩
   conv=>whnf
   refine⟨{j:Nat // j≤r.2.length},fun j=>⟨[(0,cL),(10,.r (.c (.ptr (48,0,0) 0))),(202,.r (.c (.own (48,0,1)))),(203,tI .i64 (r.2.length:Int)),(204,tI .i64 (j.1:Int))],
    [((0,0,0),some (uB C ⟨cn r.1.items r.1.items.length (r.2.take j.1),r.1.most,r.1.start⟩ (d - argsN C.p g+1) (48,0,2) (48,0,3))),((48,0,2),some (.dar 7 (itR (clr pd (cn r.1.items r.1.items.length (r.2.take j.1)))) none)),((48,0,3),some (.arr false 1 (kK ins))),((0,1,0),some (ibB ⟨qf,qe,x.locals,qa,x.first,x.chain,qb⟩ (0,1,1))),((0,1,1),some (.arr false 1 (lv.map aa))),((48,0,0),some (ibB ⟨(g:Int),(ye:Int),localsOf C.p (g:Int),(argsN C.p g:Int),bp C x,x.chain++[(k:Int)],d - argsN C.p g⟩ (48,0,1))),((48,0,1),some (.arr false 1 (r.2.map aa)))],[117,48,0]⟩,fun j=>r.2.length - j.1,⟨0,by omega⟩,?_,?_⟩
   ·skip
    repeat' ((conv=>whnf);first|apply Wx|apply W6|apply oi|(apply fi<;>intro h)|refine⟨_,rfl,?_⟩|exact rfl)
    all_goals try exact⟨KP⟩
    all_goals try exact⟨KW⟩
    all_goals try exact⟨congrArg (Tr.int _) (by rw[hrl])⟩
    all_goals try exact⟨hle2⟩
    all_goals try exact⟨hcut⟩
   intro⟨j,hj3⟩
   dsimp only at hj3 ⊢
   have hpl:=fa (r.1.items.length:Int) (r.2.take j) r.1.items
   have hil4:(itR (clr pd (cn r.1.items r.1.items.length (r.2.take j)))).length=r.1.items.length:=by rw[bv,hpl]
   by_cases hlj:j < r.2.length
   ·obtain⟨a,haj⟩:=ae hlj
    obtain⟨j1,j2⟩:=hin2 a (List.mem_of_getElem? haj)
    obtain⟨jn,rfl⟩:=Int.eq_ofNat_of_zero_le j1
    have hjl:jn < (itR (clr pd (cn r.1.items r.1.items.length (r.2.take j)))).length:=by rw[hil4];omega
    obtain⟨it,hit⟩:=ae (l:=clr pd (cn r.1.items r.1.items.length (r.2.take j))) (k:=jn) (by rw[mA,hpl];omega)
    have hnext:r.2.take (j+1)=r.2.take j++[(jn:Int)]:=by rw[List.take_add_one,haj];rfl
    have hps:=lw r.1.items.length (jn:Int) (r.2.take j) r.1.items
    have hjr:j < (r.2.map aa).length:=by omega
    repeat' ((conv=>whnf);first|apply Wx|apply W6|apply oi|(apply fi<;>intro h)|refine⟨j,rfl,hjr,?_⟩|refine⟨(aa jn),(ab haj),?_⟩|refine⟨jn,rfl,hjl,?_⟩|refine⟨_,(eO hit),?_⟩|refine⟨_,rfl,?_⟩|exact rfl)
    all_goals try exact⟨KP⟩
    all_goals try exact KX
    conv=>whnf
    refine⟨⟨j+1,by omega⟩,?_,KD⟩
    repeat' ((conv=>whnf);first|apply Wx|apply W6|apply oi|(apply fi<;>intro h)|refine⟨_,rfl,?_⟩|exact rfl)
    all_goals try exact⟨KP⟩
    all_goals try exact⟨KW⟩
    all_goals(refine⟨?_⟩;rw[hil4];dsimp only;rw[hnext,hps,nW,iP hit];rfl)
   ·have hje:j=r.2.length:=by omega
    subst hje
    rw[List.take_length]
    repeat' ((conv=>whnf);first|apply Wx|apply W6|apply oi|(apply fi<;>intro h)|refine⟨_,rfl,?_⟩|exact rfl)
    all_goals try exact⟨KP⟩
    all_goals try exact KX
    all_goals try exact⟨KW⟩
abbrev kI (n:Int):Tr:= .int .i64 n
theorem vY {a:Int}{q:Tr}(h:bX (kI a) q=true):∃k,q= .int k a:=by
 cases q with
 | int k n=>simp only[bX,beq_iff_eq]at h;exact⟨k,by rw[h]⟩
 | str s=>simp[bX]at h
 | bool b=>simp[bX]at h
 | lst sz rows=>simp[bX]at h
theorem tQ {a b:Int}{q:Tr}(hab:a≠b)(h:bX (kI a) q=true):bX (kI b) q=false:=by
 obtain⟨k,rfl⟩:=vY h
 simp only[bX,beq_eq_false_iff_ne]
 exact fun e=>hab e.symm
theorem Ao (a b:Tr):bX a b=bX b a:=by
 cases a <;> cases b <;> first|rfl|(simp only[bX];rw[Bool.eq_iff_iff];simp only[beq_iff_eq];exact eq_comm)
theorem uy (a:Int):bX (kI a) (kI a)=true:=by simp[bX]
theorem fo (v:Int)(a:Int):∀es:List (Tr×Int),bt (cm es (kI a) v) (kI a)=some v
 | []=>by simp[bt,cm,jt,dC,bX]
 |(q,x)::r=>by
  have ih:=fo v a r
  unfold bt cm at ih ⊢
  rw[jt]
  cases h:bX (kI a) q with
  | true=>simp[dC,h]
  | false=>simp only[cond_false];rw[dC,h,cond_false];exact ih
theorem cX {a b:Int}(hab:a≠b)(v:Int):∀es:List (Tr×Int),bt (cm es (kI a) v) (kI b)=bt es (kI b)
 | []=>by
  simp only[bt,cm,jt,dC]
  rw[tQ hab (uy a),cond_false]
 |(q,x)::r=>by
  have ih:=cX hab v r
  unfold bt cm at ih ⊢
  rw[jt]
  cases h:bX (kI a) q with
  | true=>simp only[cond_true];rw[dC,dC,tQ hab h];rfl
  | false=>simp only[cond_false];rw[dC,dC,ih]
theorem pR {a b:Int}(hab:a≠b):∀es:List (Tr×Int),bt (fO es (kI a)) (kI b)=bt es (kI b)
 | []=>rfl
 |(q,x)::r=>by
  have ih:=pR hab r
  unfold bt fO at ih ⊢
  rw[na]
  cases h:bX (kI a) q with
  | true=>simp only[cond_true];rw[dC,tQ hab h,cond_false]
  | false=>simp only[cond_false];rw[dC,dC,ih]
def Uniq:List (Tr×Int)→Prop
 | []=>True
 |(q,_)::r=>(∀e∈r,bX q e.1=false)∧Uniq r
theorem rC {k:Tr}:∀{es:List (Tr×Int)},(∀e∈es,bX k e.1=false)→dC (bX k) es=none
 | [],_=>rfl
 |(q,x)::r,h=>by rw[dC,h (q,x) (by simp),cond_false];exact rC fun e he=>h e (by simp[he])
theorem lY {a:Int}:∀{es:List (Tr×Int)},Uniq es→bt (fO es (kI a)) (kI a)=none
 | [],_=>rfl
 |(q,x)::r,h=>by
  have ih:=lY (a:=a) h.2
  unfold bt fO at ih ⊢
  rw[na]
  cases hq:bX (kI a) q with
  | true=>
   simp only[cond_true]
   refine rC fun e he=>?_
   obtain⟨k,rfl⟩:=vY hq
   have:=h.1 e he
   cases e with
   | mk e1 e2=>
    cases e1 <;> simp_all[bX]
  | false=>simp only[cond_false];rw[dC,hq,cond_false];exact ih
theorem tc {k key:Tr}{v:Int}(hk:bX k key=true):∀(es:List (Tr×Int)) (q:Tr),(∀e∈es,bX q e.1=false)→bX q key=false→∀e∈jt (bX k) key v es,bX q e.1=false
 | [],q,_,hq,e,he=>by
  simp only[jt,List.mem_cons,List.not_mem_nil,or_false]at he
  subst he;exact hq
 |(q2,x)::r,q,h,hq,e,he=>by
  rw[jt]at he
  cases hb:bX k q2 with
  | true=>
   rw[hb,cond_true]at he
   rcases List.mem_cons.1 he with rfl|he
   ·exact h (q2,x) (by simp)
   ·exact h e (by simp[he])
  | false=>
   rw[hb,cond_false]at he
   rcases List.mem_cons.1 he with rfl|he
   ·exact h (q2,x) (by simp)
   ·exact tc hk r q (fun e he=>h e (by simp[he])) hq e he
theorem Uniq.put {a:Int}{v:Int}:∀{es:List (Tr×Int)},Uniq es→Uniq (cm es (kI a) v)
 | [],_=>by unfold cm jt;exact⟨fun e he=>(by cases he),trivial⟩
 |(q,x)::r,h=>by
  have ih:=Uniq.put (a:=a) (v:=v) h.2
  unfold cm at ih ⊢
  rw[jt]
  cases hb:bX (kI a) q with
  | true=>exact⟨h.1,h.2⟩
  | false=>exact⟨tc (uy a) r q h.1 (by rw[Ao];exact hb),ih⟩
theorem vG {f:Tr→Bool}:∀{es:List (Tr×Int)} {e:Tr×Int},e∈na f es→e∈es
 | [],_,h=>h
 |(q,x)::r,e,h=>by
  rw[na]at h
  cases hb:f q with
  | true=>rw[hb,cond_true]at h;exact List.mem_cons_of_mem _ h
  | false=>
   rw[hb,cond_false]at h
   rcases List.mem_cons.1 h with rfl|h
   ·simp
   ·exact List.mem_cons_of_mem _ (vG h)
theorem Uniq.del {k:Tr}:∀{es:List (Tr×Int)},Uniq es→Uniq (fO es k)
 | [],_=>trivial
 |(q,x)::r,h=>by
  have ih:=Uniq.del (k:=k) h.2
  unfold fO at ih ⊢
  rw[na]
  cases hb:bX k q with
  | true=>exact h.2
  | false=>exact⟨fun e he=>h.1 e (vG he),ih⟩
structure MapOk (C:Cx) (x:Sc) (k:Nat) (pos heads:List Int) (zs os fs:List (Tr×Int)):Prop where
 uniq:Uniq zs
 zero:∀i:Nat,x.f < i→i < k→(cb C.p i=3∨cb C.p i=5)→bt zs (kI i)=(match elseAt C.p i with|some j=>if j < k then none else some (atL pos i)|none=>some (atL pos i))
 over:∀i:Nat,x.f < i→i < k→(cb C.p i=3∨cb C.p i=5)→bt os (kI i)=(match elseAt C.p i with|some j=>if j < k then some (atL pos j)else none|none=>none)
 fresh:∀i:Nat,k≤i→bt os (kI i)=none
 first:∀i:Nat,x.f < i→i < k→cb C.p i=5→bt fs (kI i)=some (atL heads i)
section
variable {C:Cx} {x:Sc} {ins:List Nat} {k e:Nat} {pos heads:List Int} {zs os fs:List (Tr×Int)}
theorem sn {p:List FX}{i k:Nat}{j:Nat}(h:elseAt p i=some j)(hk:cb p k≠4):j≠k:=by
 rintro rfl
 obtain⟨_,_,_,_,_,_,_,y,hy,h4⟩:=aW h
 exact hk (by rw[bf hy];exact h4)
theorem MapOk.plain (h:MapOk C x k pos heads zs os fs)(hk:cb C.p k≠3∧cb C.p k≠4∧cb C.p k≠5)(hd:Int)(v:Int):MapOk C x (k+1) pos (heads.set k hd) zs os (cm fs (kI k) v):=by
 refine⟨h.uniq,fun i h1 h2 h3=>?_,fun i h1 h2 h3=>?_,fun i h1=>h.fresh i (by omega),fun i h1 h2 h3=>?_⟩
 ·have hik:i≠k:=fun e=>by subst e;omega
  rw[h.zero i h1 (by omega) h3]
  cases he:elseAt C.p i with
  | none=>rfl
  | some j=>
   have:=sn he hk.2.1
   dsimp only
   by_cases hj:j < k
   ·rw[if_pos hj,if_pos (by omega)]
   ·rw[if_neg hj,if_neg (by omega)]
 ·have hik:i≠k:=fun e=>by subst e;omega
  rw[h.over i h1 (by omega) h3]
  cases he:elseAt C.p i with
  | none=>rfl
  | some j=>
   have:=sn he hk.2.1
   dsimp only
   by_cases hj:j < k
   ·rw[if_pos hj,if_pos (by omega)]
   ·rw[if_neg hj,if_neg (by omega)]
 ·have hik:i≠k:=fun e=>by subst e;omega
  rw[cX (by omega),ey hik]
  exact h.first i h1 (by omega) h3
theorem MapOk.opens (h:MapOk C x k pos heads zs os fs)(hk:cb C.p k=3∨cb C.p k=5)(hp:k < pos.length)(hh:k < heads.length)(pv hd:Int):MapOk C x (k+1) (pos.set k pv) (heads.set k hd) (cm zs (kI k) pv) os (cm fs (kI k) hd):=by
 have helse:∀j,elseAt C.p k=some j→k < j:=fun j hj=>by obtain⟨_,_,_,_,_,h,_⟩:=aW hj;exact h
 refine⟨h.uniq.put,fun i h1 h2 h3=>?_,fun i h1 h2 h3=>?_,fun i h1=>h.fresh i (by omega),fun i h1 h2 h3=>?_⟩
 ·by_cases hik:i=k
  ·subst hik
   rw[fo,gy hp]
   cases he:elseAt C.p i with
   | none=>rfl
   | some j=>dsimp only;rw[if_neg (by have:=helse j he;omega)]
  ·rw[cX (by omega),h.zero i h1 (by omega) h3,ey hik]
   cases he:elseAt C.p i with
   | none=>rfl
   | some j=>
    have:=sn (k:=k) he (by omega)
    dsimp only
    by_cases hj:j < k
    ·rw[if_pos hj,if_pos (by omega)]
    ·rw[if_neg hj,if_neg (by omega)]
 ·by_cases hik:i=k
  ·subst hik
   rw[h.fresh i (Nat.le_refl _)]
   cases he:elseAt C.p i with
   | none=>rfl
   | some j=>dsimp only;rw[if_neg (by have:=helse j he;omega)]
  ·rw[h.over i h1 (by omega) h3]
   cases he:elseAt C.p i with
   | none=>rfl
   | some j=>
    have:=sn (k:=k) he (by omega)
    dsimp only
    rw[ey this]
    by_cases hj:j < k
    ·rw[if_pos hj,if_pos (by omega)]
    ·rw[if_neg hj,if_neg (by omega)]
 ·by_cases hik:i=k
  ·subst hik
   rw[fo,gy hh]
  ·rw[cX (by omega),ey hik]
   exact h.first i h1 (by omega) h3
theorem MapOk.else (h:MapOk C x k pos heads zs os fs)(hk:cb C.p k=4)(ho:elseAt C.p (aF C.p k)=some k)(ho1:aF C.p k < k)(hp:k < pos.length)(pv v:Int):MapOk C x (k+1) (pos.set k pv) heads (fO zs (kI (aF C.p k:Int))) (cm os (kI (aF C.p k:Int)) pv) (cm fs (kI k) v):=by
 have huq:∀i j,elseAt C.p i=some j→i≠aF C.p k→j≠k:=fun i j hj hi e=>by subst e;exact hi (km hj ho)
 refine⟨h.uniq.del,fun i h1 h2 h3=>?_,fun i h1 h2 h3=>?_,fun i h1=>?_,fun i h1 h2 h3=>?_⟩
 ·have hik:i≠k:=fun e=>by subst e;omega
  by_cases hio:i=aF C.p k
  ·subst hio
   rw[lY h.uniq,ho]
   dsimp only
   rw[if_pos (by omega)]
  ·rw[pR (by omega),h.zero i h1 (by omega) h3,ey hik]
   cases he:elseAt C.p i with
   | none=>rfl
   | some j=>
    have:=huq i j he hio
    dsimp only
    by_cases hj:j < k
    ·rw[if_pos hj,if_pos (by omega)]
    ·rw[if_neg hj,if_neg (by omega)]
 ·have hik:i≠k:=fun e=>by subst e;omega
  by_cases hio:i=aF C.p k
  ·subst hio
   rw[fo,ho]
   dsimp only
   rw[if_pos (by omega),gy hp]
  ·rw[cX (by omega),h.over i h1 (by omega) h3]
   cases he:elseAt C.p i with
   | none=>rfl
   | some j=>
    have:=huq i j he hio
    dsimp only
    rw[ey this]
    by_cases hj:j < k
    ·rw[if_pos hj,if_pos (by omega)]
    ·rw[if_neg hj,if_neg (by omega)]
 ·rw[cX (by omega)]
  exact h.fresh i (by omega)
 ·have hik:i≠k:=fun e=>by subst e;omega
  rw[cX (by omega)]
  exact h.first i h1 (by omega) h3
theorem MapOk.end (h:MapOk C x k pos heads zs os fs)(hk:cb C.p k=7)(v:Int):MapOk C x (k+1) pos heads zs os (cm fs (kI k) v):=by
 have h':=h.plain (by omega) (atL heads k) v
 refine⟨h'.uniq,h'.zero,h'.over,h'.fresh,fun i h1 h2 h3=>?_⟩
 have hik:i≠k:=fun e=>by subst e;omega
 rw[h'.first i h1 h2 h3,ey hik]
theorem MapOk.exit (h:MapOk C x k pos heads zs os fs){i:Nat}(hi:aF C.p k=i)(h1:x.f < i)(h2:i < k)(hk:cb C.p i=3∨cb C.p i=5)(hj:∀j,elseAt C.p i=some j→j < k):
  (bt zs (kI i)=some (atL pos (gV C.p k))∧bt os (kI i)=none)∨(bt zs (kI i)=none∧bt os (kI i)=some (atL pos (gV C.p k))):=by
 have hz:=h.zero i h1 h2 hk
 have ho:=h.over i h1 h2 hk
 unfold gV
 rw[hi]
 cases he:elseAt C.p i with
 | none=>rw[he]at hz ho;exact .inl ⟨hz,ho⟩
 | some j=>
  rw[he]at hz ho
  dsimp only at hz ho ⊢
  rw[if_pos (hj j he)]at hz ho
  exact .inr ⟨hz,ho⟩
end
abbrev mpV (o:Sim.Id):AV:= .r (.c (.mpv o))
abbrev mpH (zs os fs:List (Tr×Int)):List (Sim.Id×AO):=[((0,2,0),.mp (some .i64) zs),((0,2,1),.mp (some .i64) os),((0,2,2),.mp (some .i64) fs)]
theorem sL (C:Cx)(hC:CxOk C)(pd:List Nat)(s:Gs)(d:Int)(ins:List Nat)(q:Ib)(lv:List Int)(x:Sc)(hq:IbOk C x q)(k g:Nat)(hg:bz C g)(zs os fs:List (Tr×Int))(h1:s.items.length+2≤68719476736)(h2:x.chain.length≤100)(h3:s.start=true→s.items.length∈pd)(h4:-1000≤d∧d≤1990)(hlv:lv.length≤68719476736)(hd p:List Int):
  bx Tryz.prog 271 [cL,ibP,tI .i64 (k:Int),tI .i64 (g:Int),mpV (0,2,0),mpV (0,2,1),mpV (0,2,2)] (ic (0,0,1) (0,0,2) (0,1,1) C pd s d ins q lv++mpH zs os fs) (.tup [])
   (ic (1,0,1) (0,0,2) (1,1,1) C pd (aP C x k true (d+1) ⟨au C s d 0 0 k x.chain,hd,p,lv⟩).g (if x.outer=true then d else d+1) ins q (aP C x k true (d+1) ⟨au C s d 0 0 k x.chain,hd,p,lv⟩).lv++mpH zs os fs):=by
 refine aD hΓ ao Tryz.func271 rfl (by decide) rfl rfl ?_
 obtain⟨y,hy,hy0⟩:=hg
 have g1:=bD C pd s d ins q lv k 0 0 1 (by unfold bl;omega) (by rw[hq.chain];exact h2) h3 (by omega) (by omega)
 rw[hq.chain]at g1
 have g2:=oK C hC pd (au C s d 0 0 k x.chain) (d+1) ins q lv x hq k true (by unfold bl au;simp only[List.length_append,List.length_cons,List.length_nil];omega) h2 (fun h=>by cases h) (by omega) hlv hd p
 have hdd:(if x.outer=false∧true=true then d+1 else d+1 - 1)=if x.outer=true then d else d+1:=by
  cases x.outer
  ·rw[if_pos ⟨rfl,rfl⟩,if_neg (by simp)]
  ·rw[if_neg (by simp),if_pos rfl];omega
 rw[hdd]at g2
 repeat' ((conv=>whnf);first|apply Wx|apply W6|refine cg g1 ?_|refine cg g2 ?_|apply oi|(apply fi<;>intro h)|refine⟨g,y.tr,rfl,ab hy,?_⟩|refine⟨_,rfl,?_⟩|exact rfl)
 all_goals try exact⟨KP⟩
 all_goals try exact KK
theorem rZ (C:Cx)(hC:CxOk C)(pd:List Nat)(s:Gs)(d:Int)(ins:List Nat)(q:Ib)(lv:List Int)(x:Sc)(hq:IbOk C x q)(k g:Nat)(y:FX)(hy:C.p[g]?=some y)(hk:y.faa=3∨y.faa=5)(zs os fs:List (Tr×Int))(j:Nat)(hd:Int)
  (hm:(bt zs (kI g)=some (j:Int)∧bt os (kI g)=none)∨(bt zs (kI g)=none∧bt os (kI g)=some (j:Int))) (hf:y.faa=5→bt fs (kI g)=some hd) (hj:j < s.items.length) (h1:s.items.length+2≤68719476736) (h2:x.chain.length≤100) (h3:s.start=true→s.items.length∈pd) (h4:-1000≤d∧d≤1990) (hlv:lv.length≤68719476736) (s1:Gs) (hs1:s1=if y.faa=5 then au C s d 10 hd k x.chain else s):
  bx Tryz.prog 271 [cL,ibP,tI .i64 (k:Int),tI .i64 (g:Int),mpV (0,2,0),mpV (0,2,1),mpV (0,2,2)] (ic (0,0,1) (0,0,2) (0,1,1) C pd s d ins q lv++mpH zs os fs) (.tup [])
   (ic (1,0,1) (0,0,2) (0,1,1) C pd ⟨bK s1.items j s1.items.length,s1.most,s1.start⟩ d ins q lv++mpH zs os fs):=by
 refine aD hΓ ao Tryz.func271 rfl (by decide) rfl rfl ?_
 have hl1:j < s1.items.length:=by rw[hs1];split <;> first|(simp[au];omega)|omega
 have hil:=bv pd s1.items
 have hjl:j < (itR (clr pd s1.items)).length:=by omega
 obtain⟨it,hit⟩:=ae (l:=clr pd s1.items) (k:=j) (by rw[mA];exact hl1)
 have hfin:itR (clr pd (bK s1.items j s1.items.length))=(itR (clr pd s1.items)).set j [.d (.int .i64 it.fag.fac),.d (.int .i64 (s1.items.length:Int)),.d (.int .i64 it.fan),.d (.bool it.fah),.d (.lst 1 (it.far.map aa)),.d (.int .i64 it.fas),.d (.bool it.faw)]:=by rw[nW,iP hit]
 have hne:¬y.faa=0:=by omega
 by_cases h5:y.faa=5
 ·rw[if_pos h5]at hs1
  have hf5:=hf h5
  have g1:=bD C pd s d ins q lv k 10 hd 0 (by unfold bl;omega) (by rw[hq.chain];exact h2) h3 (by omega) (by omega)
  rw[hq.chain,←hs1,Int.add_zero]at g1
  have hfv:jT (bt fs (kI g))=hd:=by rw[hf5];rfl
  rw[←hfv]at g1
  rcases hm with⟨m1,m2⟩|⟨m1,m2⟩
  ·have hv:jT (bt zs (kI g))=(j:Int):=by rw[m1];rfl
   repeat' ((conv=>whnf);first|apply Wx|apply W6|refine cg g1 ?_|apply oi|(apply fi<;>intro h)|refine⟨g,y.tr,rfl,ab hy,?_⟩|refine⟨j,hv,hjl,?_⟩|refine⟨_,(eO hit),?_⟩|refine⟨_,rfl,?_⟩|exact rfl)
   all_goals try exact⟨KP⟩
   all_goals try(exfalso;(simp only[m1,m2,Option.isSome_some,Option.isSome_none,Bool.false_eq_true,Bool.true_eq_false,beq_iff_eq,beq_eq_false_iff_ne,ne_eq]at *) <;> first|omega|contradiction)
   all_goals(refine⟨?_⟩;rw[hil,hfin];rfl)
  ·have hv:jT (bt os (kI g))=(j:Int):=by rw[m2];rfl
   repeat' ((conv=>whnf);first|apply Wx|apply W6|refine cg g1 ?_|apply oi|(apply fi<;>intro h)|refine⟨g,y.tr,rfl,ab hy,?_⟩|refine⟨j,hv,hjl,?_⟩|refine⟨_,(eO hit),?_⟩|refine⟨_,rfl,?_⟩|exact rfl)
   all_goals try exact⟨KP⟩
   all_goals try(exfalso;(simp only[m1,m2,Option.isSome_some,Option.isSome_none,Bool.false_eq_true,Bool.true_eq_false,beq_iff_eq,beq_eq_false_iff_ne,ne_eq]at *) <;> first|omega|contradiction)
   all_goals(refine⟨?_⟩;rw[hil,hfin];rfl)
 ·rw[if_neg h5]at hs1
  subst hs1
  rcases hm with⟨m1,m2⟩|⟨m1,m2⟩
  ·have hv:jT (bt zs (kI g))=(j:Int):=by rw[m1];rfl
   repeat' ((conv=>whnf);first|apply Wx|apply W6|apply oi|(apply fi<;>intro h)|refine⟨g,y.tr,rfl,ab hy,?_⟩|refine⟨j,hv,hjl,?_⟩|refine⟨_,(eO hit),?_⟩|refine⟨_,rfl,?_⟩|exact rfl)
   all_goals try exact⟨KP⟩
   all_goals try(exfalso;(simp only[m1,m2,Option.isSome_some,Option.isSome_none,Bool.false_eq_true,Bool.true_eq_false,beq_iff_eq,beq_eq_false_iff_ne,ne_eq]at *) <;> first|omega|contradiction)
   all_goals(refine⟨?_⟩;rw[hil,hfin];rfl)
  ·have hv:jT (bt os (kI g))=(j:Int):=by rw[m2];rfl
   repeat' ((conv=>whnf);first|apply Wx|apply W6|apply oi|(apply fi<;>intro h)|refine⟨g,y.tr,rfl,ab hy,?_⟩|refine⟨j,hv,hjl,?_⟩|refine⟨_,(eO hit),?_⟩|refine⟨_,rfl,?_⟩|exact rfl)
   all_goals try exact⟨KP⟩
   all_goals try(exfalso;(simp only[m1,m2,Option.isSome_some,Option.isSome_none,Bool.false_eq_true,Bool.true_eq_false,beq_iff_eq,beq_eq_false_iff_ne,ne_eq]at *) <;> first|omega|contradiction)
   all_goals(refine⟨?_⟩;rw[hil,hfin];rfl)
theorem BC {pd:List Nat}{l:List FW}:clr (l.length::pd) l=clr pd l:=by
 apply List.ext_getElem?
 intro i
 rw[eS,eS]
 cases hx:l[i]? with
 | none=>rfl
 | some x=>
  have:=aL hx
  simp only[Option.map_some,jo,List.contains_cons]
  rw[show(i==l.length)=false by simp;omega,Bool.false_or]
theorem pC {pd:List Nat}{l:List FW}{n:Nat}{it:FW}(hx:l[n]?=some it)(hs:it.fah=true)(hn:n∉pd):(itR (clr (n::pd) l)).set n [.d (.int .i64 it.fag.fac),.d (.int .i64 it.fag.fak),.d (.int .i64 it.fan),.d (.bool true),.d (.lst 1 (it.far.map aa)),.d (.int .i64 it.fas),.d (.bool it.faw)]=itR (clr pd l):=by
 have h1:clr pd l=(clr (n::pd) l).set n it:=by
  apply List.ext_getElem?
  intro i
  rw[List.getElem?_set,mA,eS,eS]
  by_cases h:n=i
  ·subst h
   rw[if_pos rfl,if_pos (aL hx),hx]
   simp only[Option.map_some,jo]
   rw[if_neg (by simpa using hn)]
  ·rw[if_neg h]
   cases l[i]? with
   | none=>rfl
   | some y=>
    simp only[Option.map_some,jo,List.contains_cons]
    rw[show(i==n)=false by simp;omega,Bool.false_or]
 rw[h1]
 simp only[itR,ah,List.map_set]
 congr 1
 simp[FW.tr,hs]
theorem Dm {C:Cx}(hC:CxOk C){lev:Nat}{x:Sc}{ins:List Nat}(hx:ScOk C x ins)(hlev:((lev+(ins.length - 1):Nat):Int)=C.b.faj){line b:Nat}:∀(e:Ex) {d:Int} {s:Gs},(∀t∈e.toks,t.faa=7→∃f,findN C.p 0 t.fab=some f)→Beg b s→(dJ C (aT C lev) x ins line e d s).start=false
 | .node t es,d,s,hca,hb=>by
  rw[dJ]
  have hb2:=mv (C:=C) (x:=x) (ins:=ins) (line:=line) (rep:=aT C lev) (fun g d s hg hr hb=>yh hC lev line g d s hx hg hr hb) es d hb
  obtain⟨s1,hs1⟩:∃s1,da C (aT C lev) x ins line es d s=s1:=⟨_,rfl⟩
  rw[hs1]at hb2 ⊢
  unfold iZ
  split
  ·rfl
  ·split
   ·rfl
   ·split
    ·rename_i h7
     obtain⟨f,hf⟩:=hca t (by simp[Ex.toks]) h7
     rw[hf]
     dsimp only
     split
     ·rename_i hr
      obtain⟨r1,_⟩:=dS hr
      have hc:=hx.chain
      obtain⟨m,rfl⟩:∃m,lev=m+1:=⟨lev - 1,by omega⟩
      exact Cz hb2
     ·rfl
    ·rfl
theorem Ai {C:Cx}(hC:CxOk C){lev:Nat}(hE:Fx C lev):sH C lev:=by
 intro x q ins pd s d hx hq hqf hqe hqb hst hpd hroom hlev hd0 hd1
 refine aD hΓ ao Tryz.func252 rfl (by decide) rfl rfl ?_
 obtain⟨e,he,hfe,hel,hen,hll⟩:=hx.endE hC
 rw[hen]at hqe hroom
 have h60:=hC.len
 have hin:=hC.inl
 have hchn:=hx.chain
 have h3:=qo (n:=lev) (by omega)
 have hch:x.chain.length≤100:=by omega
 have hch':q.chain.length≤100:=by rw[hq.chain];exact hch
 have hxf:0≤x.first∧x.first≤1000:=by have:=hx.first;omega
 have gO:=vb C.p h60
 have hol:=oN C.p C.p.length
 obtain⟨R,hR⟩:∃R,jw C (aT C lev) x ins d (e+1 - (x.f+1)) (x.f+1) (ce C s)=R:=⟨_,rfl⟩
 have hfin:aQ C (aT C lev) x ins d s=(R.g,R.lv):=by
  unfold aQ
  rw[hen,show e - x.f=e+1 - (x.f+1) by omega,hR]
 rw[hfin]
 have hI0:LInv C lev x ins d e R (x.f+1) (ce C s):=⟨Nat.le_refl _,by omega,by simp[ce],by simp[ce],fun i h1 h2=>by omega,⟨by simp[ce],fun j hj=>by simp[ce]at hj⟩,by rw[show e+1 - (x.f+1)=e - x.f by omega];exact hroom,hR⟩
 have hM0:MapOk C x (x.f+1) (ce C s).pos (ce C s).heads [] [] []:=⟨trivial,fun i h1 h2=>by omega,fun i h1 h2=>by omega,fun i _=>rfl,fun i h1 h2=>by omega⟩
 repeat' ((conv=>whnf);first|apply Wx|apply W6|apply oi|(apply fi<;>intro h)|refine cl gO ?_|refine⟨_,rfl,?_⟩|exact rfl)
 all_goals try exact⟨KP⟩
 conv=>whnf
 refine⟨{r:(Nat×Ls×Int)×(List (Tr×Int)×List (Tr×Int)×List (Tr×Int)) // LInv C lev x ins d e R r.1.1 r.1.2.1∧MapOk C x r.1.1 r.1.2.1.pos r.1.2.1.heads r.2.1 r.2.2.1 r.2.2.2∧(r.1.1=e+1→r.1.2.2=if x.outer=true then d else d+1)∧s.items.length≤r.1.2.1.g.items.length∧r.1.2.1.g.start=false},
  fun r=>⟨[(0,cL),(1,ibP),(4,.r (.c (.own (15,0,0)))),(5,mpV (16,0,0)),(6,mpV (17,0,0)),(7,mpV (18,0,0)),(8,tI .i64 (r.1.1.1:Int))],
   [(
    (0,0,0),some (uB C r.1.1.2.1.g r.1.1.2.2 (15,0,1) (15,0,2))),((15,0,1),some (.dar 7 (itR (clr pd r.1.1.2.1.g.items)) none)),((15,0,2),some (.arr false 1 (kK ins))),((0,1,0),some (ibB q (15,0,3))),((15,0,3),some (.arr false 1 (r.1.1.2.1.lv.map aa))),((15,0,0),some (.arr true 1 ((jF C.p C.p.length).map aa))),
    ((16,0,0),some (.mp (some .i64) r.1.2.1)),((17,0,0),some (.mp (some .i64) r.1.2.2.1)),((18,0,0),some (.mp (some .i64) r.1.2.2.2))],[18,17,16,15,0]⟩,
  fun r=>e+1 - r.1.1.1,⟨((x.f+1,ce C s,d),([],[],[])),hI0,hM0,fun h=>by dsimp only at h;omega,Nat.le_refl _,hst⟩,?_,?_⟩
 ·skip
  repeat' ((conv=>whnf);first|apply Wx|apply W6|apply oi|(apply fi<;>intro h)|refine⟨_,rfl,?_⟩|exact rfl)
  all_goals try exact⟨KP⟩
  all_goals try exact⟨KW⟩
 intro⟨⟨⟨k,L,dep⟩,⟨zs,os,fs⟩⟩,hI,hM,hdep,hgs,hL0⟩
 dsimp only at hI hM hdep hgs hL0 ⊢
 by_cases hke:k≤e
 ·obtain⟨ln,hl⟩:=ae (l:=C.p) (k:=k) (by omega)
  have h0:=jh hC hx he hI.lo hke hl
  obtain⟨hk0,hk7,_,h20,hexp⟩:=hC.line _ _ hl
  obtain⟨hsh,hnm⟩:=kS hC hl
  have hkf:=hI.lo
  have hIr:=hI.room
  have hIh:=hI.heads
  have hIp:=hI.pos
  have hlvl:=hI.lv.1
  have hkk:=bf hl
  have hIroom:L.g.items.length+20 * bW lev+3≤68719476736:=by
   obtain⟨n,hn⟩:∃n,e+1 - k=n+1:=⟨e - k,by omega⟩
   rw[hn,Nat.add_mul]at hIr
   omega
  obtain⟨A,hA⟩:∃A,dn C (aT C lev) x ins d k ln L=A:=⟨_,rfl⟩
  have hrepG:∀line g d s,bz C g→bU C ins g s.items.length=true→Grow (bW lev) s (aT C lev x ins line g d s):=fun line g d s hg hr=>cK hC lev line g d s hx hg hr
  have hN:=LInv.next hC hx he hI hke hl
  have hAo:A.g.start=false:=by rw[←hA];exact vu hL0
  have hAg:=(kh (x:=x) (ins:=ins) (rep:=aT C lev) (lev:=lev) hrepG hC hl h0 d L).ge
  rw[hA]at hN hAg
  obtain⟨b1,b2,b3,b4,b5,b6⟩:=od (C:=C) (x:=x) k ln A
  have hBo:(aS C x k ln A).g.start=false:=by rw[b6];exact hAo
  have hsg:s.items.length≤(aS C x k ln A).g.items.length:=by rw[b4];omega
  have hitl:=bv pd L.g.items
  have hro:bl L.g:=by unfold bl;omega
  have hpdn:∀i∈pd,i < L.g.items.length:=fun i hi=>by have:=hpd i hi;omega
  have gH:=lQ ln.faa
  have hpk:k < L.pos.length:=by omega
  have hhk:k < L.heads.length:=by omega
  have hown:∀i:Nat,(endAt C.p i=some k∨elseAt C.p i=some k)→((jF C.p C.p.length).map aa)[k]?=some (aa (i:Int)):=fun i hi=>by
   have hi2:i < C.p.length:=by
    rcases hi with h|h
    ·obtain⟨_,hx,_⟩:=aC h;exact aL hx
    ·obtain⟨_,_,hx,_⟩:=aW h;exact aL hx
   rw[List.getElem?_map,yC hi (by omega) _ hi2]
   rfl
  have hkol:k < ((jF C.p C.p.length).map aa).length:=by rw[List.length_map,hol];omega
  have hkne:ln.faa≠7→k < e:=fun h=>by
   rcases Nat.lt_or_eq_of_le hke with h'|h'
   ·exact h'
   ·subst h'
    obtain⟨z,hz,hz7⟩:=bu he
    rw[hl]at hz
    injection hz with hz
    subst hz
    exact absurd hz7 h
  have hcalls:ln.faa≠7→mw C ln.fad:=fun h=>by
   obtain⟨l0,q1,q2⟩:=hx.fn
   obtain⟨e',q3,_,_,q4⟩:=hC.fn _ _ q1 q2
   rw[he]at q3
   injection q3 with q3
   subst q3
   exact(q4 k ln (by omega) (hkne h) hl).2.1
  obtain⟨g1,hg1⟩:∃g1,dJ C (aT C lev) x ins k (exL ln.fad) d ⟨L.g.items,L.g.most,true⟩=g1:=⟨_,rfl⟩
  have hbeg:Beg L.g.items.length (⟨L.g.items,L.g.most,true⟩:Gs):=⟨Nat.le_refl _,⟨fun _=>rfl,fun _=>rfl⟩⟩
  have hX:bi ln.fad=true→ln.faa≠7→bx Tryz.prog 268 [cL,ibP,tI .i64 (k:Int),.r (.c (.t (.lst 3 (ln.fad.map Gf.tr)))),tI .i64 (0:Int),tI .i64 (L.g.items.length:Int)] (ic (0,0,1) (0,0,2) (0,1,1) C (L.g.items.length::pd) ⟨L.g.items,L.g.most,true⟩ d ins q L.lv) (.tup []) (ic (1,0,1) (1,0,2) (0,1,1) C (L.g.items.length::pd) g1 (d+1) ins q L.lv):=fun hx1 hx7=>by
   obtain⟨eo,et⟩:=pS hx1
   have h20':(exL ln.fad).toks.length≤20:=by rw[←et];exact h20
   have hmu:=Nat.mul_le_mul_right (bW lev) h20'
   have:=hE (exL ln.fad) x q ins (L.g.items.length::pd) L.lv k 0 L.g.items.length ln ⟨L.g.items,L.g.most,true⟩ d eo hl ⟨[],by rw[List.drop_zero,List.append_nil];exact et⟩ (hcalls hx7) ⟨hx,hq,⟨by dsimp only;omega,hlev,hd0,by omega⟩,hbeg,by simp,fun i hi=>by
    rcases List.mem_cons.1 hi with rfl|hi
    ·exact Nat.le_refl _
    ·have:=hpdn i hi;omega⟩
   rw[hg1]at this
   exact this
  have hGr:bi ln.fad=true→ln.faa≠7→g1.items.length≤L.g.items.length+20 * bW lev∧g1.start=false∧∃it,g1.items[L.g.items.length]?=some it∧it.fah=true:=fun hx1 hx7=>by
   have:=(ku (x:=x) (ins:=ins) (rep:=aT C lev) (line:=k) (lev:=lev) (fun g d s hg hr=>cK hC lev k g d s hx hg hr) hC hl hx1 d ⟨L.g.items,L.g.most,true⟩).le
   have et:=(pS hx1).2
   have ho:=Dm hC hx hlev (line:=k) (exL ln.fad) (d:=d) (by rw[←et];exact fun t ht h7=>by obtain⟨f,hf,_⟩:=hcalls hx7 t ht h7;exact⟨f,hf⟩) hbeg
   have hm:=ws (C:=C) (rep:=aT C lev) (b:=L.g.items.length) (fun x ins line g d s h=>BZ lev x ins line g d s h) x ins k (exL ln.fad) d ⟨L.g.items,L.g.most,true⟩ (.inl ⟨rfl,rfl⟩)
   rw[hg1]at this ho hm
   refine⟨this,ho,?_⟩
   rcases hm with⟨hm,_⟩|hm
   ·rw[ho]at hm;cases hm
   ·exact hm
  unfold dn at hA
  rw[hg1]at hA
  dsimp only at hA
  have hfr:=BC (pd:=pd) (l:=L.g.items)
  have hcase:ln.faa=4∨ln.faa=7∨ln.faa=1∨ln.faa=2∨ln.faa=6∨(ln.faa=3∨ln.faa=5):=by omega
  rcases hcase with h4|h7|h1|h2|h6|h35
  ·
   rw[if_pos h4]at hA
   obtain⟨o1,o2,o3,o4⟩:=hx.own4 hC he (by omega) hke hl h4
   obtain⟨y,m,hy,y3,hm,_⟩:=aW o1
   have hky:=bf hy
   have hhe:cR ln.faa=false:=by rw[h4];rfl
   rw[hhe]at gH
   have gS:=bD C pd L.g d ins q L.lv k 10 0 0 hro hch' (fun h=>by rw[hL0]at h;cases h) (by omega) (by omega)
   rw[hq.chain,Int.add_zero]at gS
   have a1:A.g=⟨bK (au C L.g d 10 0 k x.chain).items (atL L.pos (aF C.p k)) (au C L.g d 10 0 k x.chain).items.length,(au C L.g d 10 0 k x.chain).most,(au C L.g d 10 0 k x.chain).start⟩:=by rw[←hA]
   have a4:A.heads=L.heads:=by rw[←hA]
   have a5:A.pos=L.pos.set k L.g.items.length:=by rw[←hA]
   have a6:A.lv=L.lv:=by rw[←hA]
   have hM2:=hM.else (by omega) o1 o3 hpk (L.g.items.length:Int) (L.g.items.length:Int)
   have hB:aS C x k ln A=A:=by unfold aS;rw[if_neg (by omega)]
   have hz:=hM.zero _ o2 o3 (.inl (by omega))
   rw[o1]at hz
   dsimp only at hz
   rw[if_neg (by omega)]at hz
   obtain⟨p1,p2⟩:=hI.at_ _ o2 o3 (by unfold jumps;omega)
   obtain⟨jn,hjn⟩:=Int.eq_ofNat_of_zero_le p1
   have hzv:jT (bt zs (kI (aF C.p k:Int)))=(jn:Int):=by rw[hz];exact hjn
   have hel1:(au C L.g d 10 0 k x.chain).items.length=L.g.items.length+1:=by simp[au]
   have hjl:jn < (itR (clr pd (au C L.g d 10 0 k x.chain).items)).length:=by rw[bv,hel1];omega
   obtain⟨it,hit⟩:=ae (l:=clr pd (au C L.g d 10 0 k x.chain).items) (k:=jn) (by rw[mA,hel1];omega)
   have hsa:itR (clr pd (bK (au C L.g d 10 0 k x.chain).items (atL L.pos (aF C.p k)) (au C L.g d 10 0 k x.chain).items.length))=(itR (clr pd (au C L.g d 10 0 k x.chain).items)).set jn [.d (.int .i64 it.fag.fac),.d (.int .i64 ((itR (clr pd (au C L.g d 10 0 k x.chain).items)).length:Int)),.d (.int .i64 it.fan),.d (.bool it.fah),.d (.lst 1 (it.far.map aa)),.d (.int .i64 it.fas),.d (.bool it.faw)]:=by rw[nW,hjn,iP hit,bv]
   have hok:=hown _ (.inr o1)
   repeat' ((conv=>whnf);first|(with_reducible apply W1;fail_if_success (with_reducible show Wo _ _ _ _ (Code.region 10 _ _) _ _))|(with_reducible first|apply W2|apply W3|apply W4|apply W5|apply W6|apply W7|apply W8|apply W9)|apply aZ|apply oi|(apply fi<;>intro h)|refine⟨k,ln.tr,rfl,ab hl,?_⟩|refine⟨_,rfl,?_⟩|exact rfl)
   all_goals try exact⟨KP⟩
   all_goals try(exfalso;rw[hqe]at h;have:=of_decide_eq_false h;omega)
   conv=>whnf
   rw[hitl]
   repeat' ((conv=>whnf);first|apply Wx|apply W6|refine cg gS ?_|apply oi|(apply fi<;>intro h)|refine cl gH ?_|refine⟨k,rfl,hkol,?_⟩|refine⟨_,hok,?_⟩|refine⟨jn,hzv,hjl,?_⟩|refine⟨_,(eO hit),?_⟩|refine⟨_,rfl,?_⟩|exact rfl)
   all_goals try exact⟨KP⟩
   all_goals try exact⟨congrArg (Tr.int .i64) hqb.symm⟩
   all_goals try exact KK
   all_goals(conv=>whnf)
   all_goals(refine⟨⟨((k+1,aS C x k ln A,d),(fO zs (kI (aF C.p k:Int)),cm os (kI (aF C.p k:Int)) (L.g.items.length:Int),cm fs (kI k) (L.g.items.length:Int))),hN,by dsimp only;rw[b2,b1];rw[a5,a4];exact hM2,fun h=>by have:=hkne (by omega);dsimp only at h;omega,hsg,hBo⟩,?_,KD⟩)
   repeat' ((conv=>whnf);first|apply Wx|apply W6|apply oi|(apply fi<;>intro h)|refine⟨_,rfl,?_⟩|exact rfl)
   all_goals try exact⟨KP⟩
   all_goals try exact⟨KW⟩
   all_goals(refine⟨?_⟩;dsimp only;simp only[hB,a1,a4,a5,a6,hsa,hitl];try rfl)
  ·
   rw[if_neg (by omega),if_pos h7]at hA
   have hhe:cR ln.faa=false:=by rw[h7];rfl
   rw[hhe]at gH
   obtain⟨o1,o2⟩:=hx.own7 hC he (by omega) hke hl h7
   have hok:=hown _ (.inl o1)
   have hM2:=hM.end (by omega) (L.g.items.length:Int)
   rcases o2 with⟨o2,o3⟩|⟨o2,o3,o4,y,hy,o5⟩
   ·subst o2
    rw[if_pos o3]at hA
    rw[o3]at hok
    have gS:=sL C hC pd L.g d ins q L.lv x hq k x.f hx.fn zs os (cm fs (kI k) (L.g.items.length:Int)) (by omega) hch (fun h=>by rw[hL0]at h;cases h) (by omega) (by omega) L.heads L.pos
    rw[show aP C x k true (d+1) ⟨au C L.g d 0 0 k x.chain,L.heads,L.pos,L.lv⟩=A from hA]at gS
    have a4:A.heads=L.heads:=by rw[←hA];unfold aP;(repeat' split) <;> rfl
    have a5:A.pos=L.pos:=by rw[←hA];unfold aP;(repeat' split) <;> rfl
    have hB:aS C x k ln A=A:=by unfold aS;rw[if_neg (by rintro⟨_,h⟩;exact h o3)]
    repeat' ((conv=>whnf);first|(with_reducible apply W1;fail_if_success (with_reducible show Wo _ _ _ _ (Code.region 10 _ _) _ _))|(with_reducible first|apply W2|apply W3|apply W4|apply W5|apply W6|apply W7|apply W8|apply W9)|apply aZ|apply oi|(apply fi<;>intro h)|refine⟨k,ln.tr,rfl,ab hl,?_⟩|refine⟨_,rfl,?_⟩|exact rfl)
    all_goals try exact⟨KP⟩
    all_goals try(exfalso;rw[hqe]at h;have:=of_decide_eq_false h;omega)
    conv=>whnf
    rw[hitl]
    repeat' ((conv=>whnf);first|apply Wx|apply W6|refine cg gS ?_|apply oi|(apply fi<;>intro h)|refine cl gH ?_|refine⟨k,rfl,hkol,?_⟩|refine⟨_,hok,?_⟩|refine⟨_,rfl,?_⟩|exact rfl)
    all_goals try exact⟨KP⟩
    all_goals try exact⟨congrArg (Tr.int .i64) hqb.symm⟩
    all_goals try exact KK
    all_goals(conv=>whnf)
    all_goals(refine⟨⟨((k+1,aS C x k ln A,(if x.outer=true then d else d+1)),(zs,os,cm fs (kI k) (L.g.items.length:Int))),hN,by dsimp only;rw[b2,b1];rw[a5,a4];exact hM2,fun _=>rfl,hsg,hBo⟩,?_,KD⟩)
    repeat' ((conv=>whnf);first|apply Wx|apply W6|apply oi|(apply fi<;>intro h)|refine⟨_,rfl,?_⟩|exact rfl)
    all_goals try exact⟨KP⟩
    all_goals try exact⟨KW⟩
    all_goals(refine⟨?_⟩;dsimp only;simp only[hB];try rfl)
   ·rw[if_neg (by omega)]at hA
    have hky:=bf hy
    have a1:A.g=if y.faa=5 then au C L.g d 10 (atL L.heads (aF C.p k)) k x.chain else L.g:=by rw[←hA,hky];split <;> rfl
    have a4:A.heads=L.heads:=by rw[←hA];split <;> rfl
    have a5:A.pos=L.pos:=by rw[←hA];split <;> rfl
    have a6:A.lv=L.lv:=by rw[←hA];split <;> rfl
    have hex:=hM.exit (i:=aF C.p k) rfl o3 o4 (by omega) (fun j hj=>by
     obtain⟨_,e2,_,_,q1,_,q2,_⟩:=aW hj
     rw[o1]at q1
     injection q1 with q1
     omega)
    obtain⟨x1,x2,x3,_⟩:=xA hC hx he (by omega) (by omega) hl h7
    obtain⟨p1,p2⟩:=hI.at_ _ (by omega) x2 x3
    obtain⟨jn,hjn⟩:=Int.eq_ofNat_of_zero_le p1
    rw[hjn]at hex
    have hfs:y.faa=5→bt (cm fs (kI k) (L.g.items.length:Int)) (kI (aF C.p k:Int))=some (atL L.heads (aF C.p k)):=fun h5=>by rw[cX (by omega)];exact hM.first _ o3 o4 (by omega)
    have gS:=rZ C hC pd L.g d ins q L.lv x hq k (aF C.p k) y hy o5 zs os (cm fs (kI k) (L.g.items.length:Int)) jn (atL L.heads (aF C.p k)) hex hfs (by omega) (by omega) hch (fun h=>by rw[hL0]at h;cases h) (by omega) (by omega) A.g a1
    have hB:(aS C x k ln A).g=⟨bK A.g.items (jn:Int) A.g.items.length,A.g.most,A.g.start⟩:=by unfold aS;rw[if_pos ⟨h7,by omega⟩,a5,hjn]
    repeat' ((conv=>whnf);first|(with_reducible apply W1;fail_if_success (with_reducible show Wo _ _ _ _ (Code.region 10 _ _) _ _))|(with_reducible first|apply W2|apply W3|apply W4|apply W5|apply W6|apply W7|apply W8|apply W9)|apply aZ|apply oi|(apply fi<;>intro h)|refine⟨k,ln.tr,rfl,ab hl,?_⟩|refine⟨_,rfl,?_⟩|exact rfl)
    all_goals try exact⟨KP⟩
    all_goals try(exfalso;rw[hqe]at h;have:=of_decide_eq_false h;omega)
    conv=>whnf
    rw[hitl]
    repeat' ((conv=>whnf);first|apply Wx|apply W6|refine cg gS ?_|apply oi|(apply fi<;>intro h)|refine cl gH ?_|refine⟨k,rfl,hkol,?_⟩|refine⟨_,hok,?_⟩|refine⟨_,rfl,?_⟩|exact rfl)
    all_goals try exact⟨KP⟩
    all_goals try exact⟨congrArg (Tr.int .i64) hqb.symm⟩
    all_goals try exact KK
    all_goals(conv=>whnf)
    all_goals(refine⟨⟨((k+1,aS C x k ln A,d),(zs,os,cm fs (kI k) (L.g.items.length:Int))),hN,by dsimp only;rw[b2,b1];rw[a5,a4];exact hM2,fun h=>by dsimp only at h;omega,hsg,hBo⟩,?_,KD⟩)
    repeat' ((conv=>whnf);first|apply Wx|apply W6|apply oi|(apply fi<;>intro h)|refine⟨_,rfl,?_⟩|exact rfl)
    all_goals try exact⟨KP⟩
    all_goals try exact⟨KW⟩
    all_goals(refine⟨?_⟩;dsimp only;simp only[hB,b3,a6];try rfl)
  ·
   rw[if_neg (by omega),if_neg (by omega),if_pos h1]at hA
   have hx1:=hexp (.inl h1)
   have gX:=hX hx1 (by omega)
   obtain⟨hG1,hG2,it,hit1,hit2⟩:=hGr hx1 (by omega)
   have hnp:L.g.items.length∉pd:=fun h=>by have:=hpdn _ h;omega
   have hmk:=pC (pd:=pd) hit1 hit2 hnp
   have hitx:(clr (L.g.items.length::pd) g1.items)[L.g.items.length]?=some (ze it):=by rw[eS,hit1];simp[jo]
   have hnl:L.g.items.length < (itR (clr (L.g.items.length::pd) g1.items)).length:=by rw[bv];exact aL hit1
   have hhe:cR ln.faa=true:=hasExpr_iff.2 (.inl h1)
   rw[hhe]at gH
   have hix:=jL x.locals ln.fab
   have gI:=gR x.locals ln.fab (by omega)
   have gS:=ni C hC pd g1 (d+1) ins q L.lv x hq k (cQ x.locals ln.fab) (-1) true rfl (by unfold bl;omega) hch (fun h=>by rw[hG2]at h;cases h) (by omega) hxf (by omega)
   rw[show d+1+-1=d by omega]at gS
   have a1:A.g=au C g1 (d+1) (bZ C true) (cw C x (d+1) (cQ x.locals ln.fab)) k x.chain:=by rw[←hA];rfl
   have a4:A.heads=L.heads.set k L.g.items.length:=by rw[←hA]
   have a5:A.pos=L.pos:=by rw[←hA]
   have a6:A.lv=L.lv:=by rw[←hA]
   rw[←hq.locals]at gI gS a1
   have hM2:=hM.plain (by omega) (L.g.items.length:Int) (L.g.items.length:Int)
   have hB:aS C x k ln A=A:=by unfold aS;rw[if_neg (by omega)]
   generalize cQ q.locals ln.fab=ix at *
   repeat' ((conv=>whnf);first|(with_reducible apply W1;fail_if_success (with_reducible show Wo _ _ _ _ (Code.region 10 _ _) _ _))|(with_reducible first|apply W2|apply W3|apply W4|apply W5|apply W6|apply W7|apply W8|apply W9)|apply aZ|apply oi|(apply fi<;>intro h)|refine⟨k,ln.tr,rfl,ab hl,?_⟩|refine⟨_,rfl,?_⟩|exact rfl)
   all_goals try exact⟨KP⟩
   all_goals try(exfalso;rw[hqe]at h;have:=of_decide_eq_false h;omega)
   conv=>whnf
   rw[hitl]
   repeat' ((conv=>whnf);first|apply Wx|apply W6|refine cg gX ?_|refine cg gS ?_|apply oi|(apply fi<;>intro h)|refine cl gH ?_|refine⟨L.g.items.length,rfl,hnl,?_⟩|refine⟨_,(eO hitx),?_⟩|refine cl gI ?_|refine⟨_,rfl,?_⟩|exact rfl)
   all_goals try exact⟨KP⟩
   all_goals try exact⟨congrArg (Tr.int .i64) hqb.symm⟩
   all_goals try exact⟨congrArg itR hfr.symm⟩
   all_goals try exact⟨hmk⟩
   all_goals try exact KK
   all_goals(conv=>whnf)
   all_goals(refine⟨⟨((k+1,aS C x k ln A,d),(zs,os,cm fs (kI k) (L.g.items.length:Int))),hN,by dsimp only;rw[b2,b1];rw[a5,a4];exact hM2,fun h=>by have:=hkne (by omega);dsimp only at h;omega,hsg,hBo⟩,?_,KD⟩)
   repeat' ((conv=>whnf);first|apply Wx|apply W6|apply oi|(apply fi<;>intro h)|refine⟨_,rfl,?_⟩|exact rfl)
   all_goals try exact⟨KP⟩
   all_goals try exact⟨KW⟩
   all_goals(refine⟨?_⟩;dsimp only;simp only[hB,a1,a4,a5,a6];try rfl)
  ·
   rw[if_neg (by omega),if_neg (by omega),if_neg (by omega),if_pos h2]at hA
   have hx1:=hexp (.inr (.inl h2))
   have gX:=hX hx1 (by omega)
   obtain⟨hG1,hG2,it,hit1,hit2⟩:=hGr hx1 (by omega)
   have hnp:L.g.items.length∉pd:=fun h=>by have:=hpdn _ h;omega
   have hmk:=pC (pd:=pd) hit1 hit2 hnp
   have hitx:(clr (L.g.items.length::pd) g1.items)[L.g.items.length]?=some (ze it):=by rw[eS,hit1];simp[jo]
   have hnl:L.g.items.length < (itR (clr (L.g.items.length::pd) g1.items)).length:=by rw[bv];exact aL hit1
   have hhe:cR ln.faa=true:=hasExpr_iff.2 (.inr (.inl h2))
   rw[hhe]at gH
   have gS:=bD C pd g1 (d+1) ins q L.lv k 17 0 (-1) (by unfold bl;omega) hch' (fun h=>by rw[hG2]at h;cases h) (by omega) (by omega)
   rw[hq.chain,show d+1+-1=d by omega]at gS
   have a1:A.g=au C g1 (d+1) 17 0 k x.chain:=by rw[←hA]
   have a4:A.heads=L.heads.set k L.g.items.length:=by rw[←hA]
   have a5:A.pos=L.pos:=by rw[←hA]
   have a6:A.lv=L.lv:=by rw[←hA]
   have hM2:=hM.plain (by omega) (L.g.items.length:Int) (L.g.items.length:Int)
   have hB:aS C x k ln A=A:=by unfold aS;rw[if_neg (by omega)]
   repeat' ((conv=>whnf);first|(with_reducible apply W1;fail_if_success (with_reducible show Wo _ _ _ _ (Code.region 10 _ _) _ _))|(with_reducible first|apply W2|apply W3|apply W4|apply W5|apply W6|apply W7|apply W8|apply W9)|apply aZ|apply oi|(apply fi<;>intro h)|refine⟨k,ln.tr,rfl,ab hl,?_⟩|refine⟨_,rfl,?_⟩|exact rfl)
   all_goals try exact⟨KP⟩
   all_goals try(exfalso;rw[hqe]at h;have:=of_decide_eq_false h;omega)
   conv=>whnf
   rw[hitl]
   repeat' ((conv=>whnf);first|apply Wx|apply W6|refine cg gX ?_|refine cg gS ?_|apply oi|(apply fi<;>intro h)|refine cl gH ?_|refine⟨L.g.items.length,rfl,hnl,?_⟩|refine⟨_,(eO hitx),?_⟩|refine⟨_,rfl,?_⟩|exact rfl)
   all_goals try exact⟨KP⟩
   all_goals try exact⟨congrArg (Tr.int .i64) hqb.symm⟩
   all_goals try exact⟨congrArg itR hfr.symm⟩
   all_goals try exact⟨hmk⟩
   all_goals try exact KK
   all_goals(conv=>whnf)
   all_goals(refine⟨⟨((k+1,aS C x k ln A,d),(zs,os,cm fs (kI k) (L.g.items.length:Int))),hN,by dsimp only;rw[b2,b1];rw[a5,a4];exact hM2,fun h=>by have:=hkne (by omega);dsimp only at h;omega,hsg,hBo⟩,?_,KD⟩)
   repeat' ((conv=>whnf);first|apply Wx|apply W6|apply oi|(apply fi<;>intro h)|refine⟨_,rfl,?_⟩|exact rfl)
   all_goals try exact⟨KP⟩
   all_goals try exact⟨KW⟩
   all_goals(refine⟨?_⟩;dsimp only;simp only[hB,a1,a4,a5,a6];try rfl)
  ·
   rw[if_neg (by omega),if_neg (by omega),if_neg (by omega),if_neg (by omega),if_pos h6]at hA
   have hx1:=hexp (.inr (.inr (.inr (.inr h6))))
   have gX:=hX hx1 (by omega)
   obtain⟨hG1,hG2,it,hit1,hit2⟩:=hGr hx1 (by omega)
   have hnp:L.g.items.length∉pd:=fun h=>by have:=hpdn _ h;omega
   have hmk:=pC (pd:=pd) hit1 hit2 hnp
   have hitx:(clr (L.g.items.length::pd) g1.items)[L.g.items.length]?=some (ze it):=by rw[eS,hit1];simp[jo]
   have hnl:L.g.items.length < (itR (clr (L.g.items.length::pd) g1.items)).length:=by rw[bv];exact aL hit1
   have hhe:cR ln.faa=true:=hasExpr_iff.2 (.inr (.inr (.inr (.inr h6))))
   rw[hhe]at gH
   have gS:=oK C hC pd g1 (d+1) ins q L.lv x hq k false (by unfold bl;omega) hch (fun h=>by rw[hG2]at h;cases h) (by omega) (by omega) (L.heads.set k L.g.items.length) L.pos
   rw[hA,if_neg (by simp),Int.add_sub_cancel]at gS
   have a4:A.heads=L.heads.set k L.g.items.length:=by rw[←hA];unfold aP;(repeat' split) <;> rfl
   have a5:A.pos=L.pos:=by rw[←hA];unfold aP;(repeat' split) <;> rfl
   have hM2:=hM.plain (by omega) (L.g.items.length:Int) (L.g.items.length:Int)
   have hB:aS C x k ln A=A:=by unfold aS;rw[if_neg (by omega)]
   repeat' ((conv=>whnf);first|(with_reducible apply W1;fail_if_success (with_reducible show Wo _ _ _ _ (Code.region 10 _ _) _ _))|(with_reducible first|apply W2|apply W3|apply W4|apply W5|apply W6|apply W7|apply W8|apply W9)|apply aZ|apply oi|(apply fi<;>intro h)|refine⟨k,ln.tr,rfl,ab hl,?_⟩|refine⟨_,rfl,?_⟩|exact rfl)
   all_goals try exact⟨KP⟩
   all_goals try(exfalso;rw[hqe]at h;have:=of_decide_eq_false h;omega)
   conv=>whnf
   rw[hitl]
   repeat' ((conv=>whnf);first|apply Wx|apply W6|refine cg gX ?_|refine cg gS ?_|apply oi|(apply fi<;>intro h)|refine cl gH ?_|refine⟨L.g.items.length,rfl,hnl,?_⟩|refine⟨_,(eO hitx),?_⟩|refine⟨_,rfl,?_⟩|exact rfl)
   all_goals try exact⟨KP⟩
   all_goals try exact⟨congrArg (Tr.int .i64) hqb.symm⟩
   all_goals try exact⟨congrArg itR hfr.symm⟩
   all_goals try exact⟨hmk⟩
   all_goals try exact KK
   all_goals(conv=>whnf)
   all_goals(refine⟨⟨((k+1,aS C x k ln A,d),(zs,os,cm fs (kI k) (L.g.items.length:Int))),hN,by dsimp only;rw[b2,b1];rw[a5,a4];exact hM2,fun h=>by have:=hkne (by omega);dsimp only at h;omega,hsg,hBo⟩,?_,KD⟩)
   repeat' ((conv=>whnf);first|apply Wx|apply W6|apply oi|(apply fi<;>intro h)|refine⟨_,rfl,?_⟩|exact rfl)
   all_goals try exact⟨KP⟩
   all_goals try exact⟨KW⟩
   all_goals(refine⟨?_⟩;dsimp only;simp only[hB,a4,a5];try rfl)
  ·
   rw[if_neg (by omega),if_neg (by omega),if_neg (by omega),if_neg (by omega),if_neg (by omega)]at hA
   have hx1:=hexp (by omega)
   have gX:=hX hx1 (by omega)
   obtain⟨hG1,hG2,it,hit1,hit2⟩:=hGr hx1 (by omega)
   have hnp:L.g.items.length∉pd:=fun h=>by have:=hpdn _ h;omega
   have hmk:=pC (pd:=pd) hit1 hit2 hnp
   have hitx:(clr (L.g.items.length::pd) g1.items)[L.g.items.length]?=some (ze it):=by rw[eS,hit1];simp[jo]
   have hnl:L.g.items.length < (itR (clr (L.g.items.length::pd) g1.items)).length:=by rw[bv];exact aL hit1
   have hhe:cR ln.faa=true:=hasExpr_iff.2 (by omega)
   rw[hhe]at gH
   have gS:=bD C pd g1 (d+1) ins q L.lv k 11 0 (-1) (by unfold bl;omega) hch' (fun h=>by rw[hG2]at h;cases h) (by omega) (by omega)
   rw[hq.chain,show d+1+-1=d by omega]at gS
   have a1:A.g=au C g1 (d+1) 11 0 k x.chain:=by rw[←hA]
   have hitg:=bv pd g1.items
   have a4:A.heads=L.heads.set k L.g.items.length:=by rw[←hA]
   have a5:A.pos=L.pos.set k g1.items.length:=by rw[←hA]
   have a6:A.lv=L.lv:=by rw[←hA]
   have hM2:=hM.opens (by omega) hpk hhk (g1.items.length:Int) (L.g.items.length:Int)
   have hB:aS C x k ln A=A:=by unfold aS;rw[if_neg (by omega)]
   repeat' ((conv=>whnf);first|(with_reducible apply W1;fail_if_success (with_reducible show Wo _ _ _ _ (Code.region 10 _ _) _ _))|(with_reducible first|apply W2|apply W3|apply W4|apply W5|apply W6|apply W7|apply W8|apply W9)|apply aZ|apply oi|(apply fi<;>intro h)|refine⟨k,ln.tr,rfl,ab hl,?_⟩|refine⟨_,rfl,?_⟩|exact rfl)
   all_goals try exact⟨KP⟩
   all_goals try(exfalso;rw[hqe]at h;have:=of_decide_eq_false h;omega)
   conv=>whnf
   rw[hitl]
   repeat' ((conv=>whnf);first|apply Wx|apply W6|refine cg gX ?_|refine cg gS ?_|apply oi|(apply fi<;>intro h)|refine cl gH ?_|refine⟨L.g.items.length,rfl,hnl,?_⟩|refine⟨_,(eO hitx),?_⟩|refine⟨_,rfl,?_⟩|exact rfl)
   all_goals try exact⟨KP⟩
   all_goals try exact⟨congrArg (Tr.int .i64) hqb.symm⟩
   all_goals try exact⟨congrArg itR hfr.symm⟩
   all_goals try exact⟨hmk⟩
   all_goals try exact KK
   all_goals(conv=>whnf)
   all_goals(refine⟨⟨((k+1,aS C x k ln A,d),(cm zs (kI k) (g1.items.length:Int),os,cm fs (kI k) (L.g.items.length:Int))),hN,by dsimp only;rw[b2,b1];rw[a5,a4];exact hM2,fun h=>by have:=hkne (by omega);dsimp only at h;omega,hsg,hBo⟩,?_,KD⟩)
   repeat' ((conv=>whnf);first|apply Wx|apply W6|apply oi|(apply fi<;>intro h)|refine⟨_,rfl,?_⟩|exact rfl)
   all_goals try exact⟨KP⟩
   all_goals try exact⟨KW⟩
   all_goals(refine⟨?_⟩;dsimp only;simp only[hB,a1,a4,a5,a6,List.length_set,bv];try rfl)
 ·have hk1:k=e+1:=by have:=hI.hi;omega
  subst hk1
  have hf:=hI.fin
  rw[Nat.sub_self,jw]at hf
  subst hf
  rw[hdep rfl]
  repeat' ((conv=>whnf);first|apply Wx|apply W6|apply oi|(apply fi<;>intro h)|refine⟨_,rfl,?_⟩|exact rfl)
  all_goals try exact⟨KP⟩
  all_goals try(exfalso;rw[hqe]at h;have:=of_decide_eq_true h;omega)
theorem Ar {C:Cx}(hC:CxOk C):∀lev,yO C lev∧sH C lev:=by
 have hL:∀lev,yO C lev→sH C lev:=fun lev hR=>Ai hC fun e x q ins pd lv k p b ln s d h1 h2 h3 h4 h5=>wA hC hR e.toks.length e (Nat.le_refl _) x q ins pd lv k p b ln s d h1 h2 h3 h4 h5
 intro lev
 induction lev with
 | zero=>
  have hR:yO C 0:=by
   intro x q ins pd lv k g b s d hk hg hrb hr
   obtain⟨r1,_⟩:=dS hrb
   have h1:=hr.rm.depth
   have h2:=hr.sc.chain
   omega
  exact⟨hR,hL 0 hR⟩
 | succ n ih=>
  have hR:=DS hC ih.2
  exact⟨hR,hL _ hR⟩
abbrev bV (b:FO):AV:= .r (.agg [.t (.int .i64 b.fat),.t (.int .i64 b.faj),.t (.bool b.fax),.t (.bool b.fav)])
theorem ly (C:Cx)(hC:CxOk C)(g:Nat)(hg:bz C g)(e5:C.args=argsN C.p g):
  bx Tryz.prog 219 [vP C.p,tI .i64 (g:Int),bV C.b,tB C.framed,tI .i64 C.words] [] (.tup [.c (.own (1,0,0)),.c (.t (.int .i64 (cF C g).most))]) [((1,0,0),.dar 7 (ah ((cF C g).items.map FW.tr)) none)]:=by
 refine aD hΓ ao Tryz.func219 rfl (by decide) rfl rfl ?_
 obtain⟨y,hy,hy0⟩:=hg
 have h60:=hC.len
 have hw:=hC.words
 have hin:=hC.inl
 have hA:argsN C.p g=y.faf.length:=by rw[argsN,hy]
 have h4:=(hC.line g y hy).2.2.1
 have hloc:=cG hC ⟨y,hy,hy0⟩
 have hyl:(y.faf.map ag).length=y.faf.length:=by simp
 have hll:((localsOf C.p (g:Int)).map ag).length=(localsOf C.p (g:Int)).length:=by simp
 have hS:ScOk C (bq C g) [g]:=⟨⟨y,hy,hy0⟩,rfl,⟨Int.le_refl _,by simp[bq]⟩,rfl,by simp[bq],fun _=>e5,rfl⟩
 obtain⟨e,he1,he2,he3,he4,_⟩:=hS.endE hC
 have gL:=gM C.p (g:Int) (by omega) (fun z hz=>aA hC.small hz)
 have gE:=cH C.p (g:Int) (by omega)
 have hee:be C.p (g:Int)=(e:Int):=by rw[bb];exact ba he1
 rw[hee]at gE
 have hlev:((C.b.faj.toNat:Nat):Int)=C.b.faj:=Int.toNat_of_nonneg hin.1
 have h3:=qo (n:=C.b.faj.toNat) (by omega)
 have gLs:=(Ar hC C.b.faj.toNat).2 (bq C g) ⟨(g:Int),(e:Int),localsOf C.p (g:Int),C.args,0,[],C.words⟩ [g] [] (dR C g) C.words hS ⟨rfl,rfl,rfl,fun _=>rfl,hS.out,fun _=>rfl⟩ rfl (by rw[he4]) rfl rfl (fun i hi=>by cases hi) (by
  rw[he4]
  have:=Nat.mul_le_mul (show e - (bq C g).f≤60 by omega) (show 20 * bW C.b.faj.toNat+3≤20 * 8679837+3 by omega)
  simp only[dR,au,List.length_append,List.length_nil,List.length_cons]
  omega) (by simpa using hlev) hw.1 (by omega)
 rw[if_pos (by rfl)]at gLs
 have g1:=fun code=>bD C [] ⟨[],(localsOf C.p (g:Int)).length - C.args,false⟩ 0 [g] ⟨(g:Int),(e:Int),localsOf C.p (g:Int),C.args,0,[],C.words⟩ [] g code C.words C.words (by unfold bl;simp) (by simp) (fun h=>by cases h) (by omega) (by omega)
 have hwm:IntKind.i64.wrap ((((localsOf C.p (g:Int)).map ag).length:Int) - C.args)=((localsOf C.p (g:Int)).length:Int) - C.args:=by rw[hll,IntWalk.i64_in _ (by omega)]
 repeat' ((conv=>whnf);first|(with_reducible apply W1;fail_if_success (with_reducible show Wo _ _ _ _ (Code.region 3 _ _) _ _))|(with_reducible first|apply W2|apply W3|apply W4|apply W5|apply W6|apply W7|apply W8|apply W9)|apply aZ|apply oi|(apply fi<;>intro h)|refine cl gE ?_|refine cl gL ?_|refine⟨g,y.tr,rfl,ab hy,?_⟩|refine⟨_,rfl,?_⟩|exact rfl)
 all_goals try exact⟨KP⟩
 conv=>whnf
 refine iE ⟨[(0,vP C.p),(1,tI .i64 (g:Int)),(3,tB C.framed),(4,tI .i64 C.words),(12,.r (.c (.ptr (22,0,0) 0))),(13,.r (.c (.ptr (38,0,0) 0)))],
  [(
   (22,0,0),some (.box [.t (.lst 4 (C.p.map FX.tr)),.t (.int .i64 C.b.fat),.t (.int .i64 C.b.faj),.t (.bool C.b.fax),.t (.bool C.b.fav),.t (.bool C.framed),.t (.int .i64 C.words),.t (.int .i64 0),.nils 0,.t (.int .i64 0),.own (20,0,0)])),((20,0,0),some (.arr true 1 [aa (g:Int)])),
   ((38,0,0),some (.box [.t (.int .i64 (g:Int)),.t (.int .i64 (e:Int)),.t (.lst 1 ((localsOf C.p (g:Int)).map ag)),.t (.int .i64 C.args),.t (.int .i64 0),.t (.lst 1 []),.t (.int .i64 C.words),.nils 0]))],_⟩ ?_ ?_ rfl ?_
 ·exact⟨.inl rfl,.inl rfl,.inl rfl,.inl rfl,.inl rfl,.inl rfl,trivial⟩
 ·refine⟨.inr (.inl rfl),.inr (.inl rfl),.inr (.inr (.inl ⟨_,_,rfl,rfl,.inl rfl,.inl rfl,.inr (.inr ⟨_,rfl,rfl,?_⟩),.inl ?_,.inl rfl,.inr (.inr ⟨_,rfl,⟨_,rfl⟩,?_⟩),.inl rfl,.inl rfl,trivial⟩)),trivial⟩
  ·intro q hq;simp only[AC.ids,List.mem_cons,List.not_mem_nil,or_false]at hq;subst hq;rfl
  ·rw[e5,hyl,hA]
  ·intro q hq;simp[AC.ids]at hq
 refine pn ⟨[(0,vP C.p),(1,tI .i64 (g:Int)),(3,tB C.framed),(4,tI .i64 C.words),(12,.r (.c (.ptr (22,0,0) 0))),(13,.r (.c (.ptr (38,0,0) 0)))],
  [((22,0,0),some (uB C ⟨[],0,false⟩ 0 (22,0,1) (22,0,2))),((22,0,1),some (.dar 7 (itR (clr [] [])) none)),((22,0,2),some (.arr false 1 (kK [g]))),((38,0,0),some (ibB ⟨(g:Int),(e:Int),localsOf C.p (g:Int),C.args,0,[],C.words⟩ (38,0,1))),((38,0,1),some (.arr false 1 []))],[38,22,0]⟩ ?_ ?_
 ·skip
  repeat' ((conv=>whnf);first|apply Wx|apply W6|apply oi|(apply fi<;>intro h)|refine⟨_,rfl,?_⟩|exact rfl)
  all_goals try exact⟨KP⟩
  all_goals try exact⟨by rw[wN]⟩
 cases hfm:C.framed with
 | true=>
  have hh:dR C g=au C ⟨[],(localsOf C.p (g:Int)).length - C.args,false⟩ 0 13 C.words g []:=by rw[dR,if_pos hfm]
  rw[hh]at gLs
  have g2:=g1 13
  rw[Int.zero_add]at g2
  have hcr:cF C g=(aQ C (aT C C.b.faj.toNat) (bq C g) [g] C.words (au C ⟨[],(localsOf C.p (g:Int)).length - C.args,false⟩ 0 13 C.words g [])).1:=by rw[cF,hh]
  rw[hcr]
  repeat' ((conv=>whnf);first|apply Wx|apply W6|refine cg g2 ?_|refine cg gLs ?_|apply oi|(apply fi<;>intro h)|refine⟨_,rfl,?_⟩|exact rfl)
  all_goals try exact⟨KP⟩
  all_goals try(exfalso;rw[hfm]at h;cases h;done)
  all_goals try exact⟨congrArg (Tr.int .i64) hwm.symm⟩
  all_goals try exact⟨by rw[wN]⟩
 | false=>
  have hh:dR C g=au C ⟨[],(localsOf C.p (g:Int)).length - C.args,false⟩ 0 15 C.words g []:=by rw[dR,if_neg (by simp[hfm])]
  rw[hh]at gLs
  have g2:=g1 15
  rw[Int.zero_add]at g2
  have hcr:cF C g=(aQ C (aT C C.b.faj.toNat) (bq C g) [g] C.words (au C ⟨[],(localsOf C.p (g:Int)).length - C.args,false⟩ 0 15 C.words g [])).1:=by rw[cF,hh]
  rw[hcr]
  repeat' ((conv=>whnf);first|apply Wx|apply W6|refine cg g2 ?_|refine cg gLs ?_|apply oi|(apply fi<;>intro h)|refine⟨_,rfl,?_⟩|exact rfl)
  all_goals try exact⟨KP⟩
  all_goals try(exfalso;rw[hfm]at h;cases h;done)
  all_goals try exact⟨congrArg (Tr.int .i64) hwm.symm⟩
  all_goals try exact⟨by rw[wN]⟩
theorem kF (p:List FX)(f:Int)(b:FO)(hs:ay 1048576 (.lst 4 (p.map FX.tr))):bx Tryz.prog 159 [vP p,tI .i64 f,bV b] [] (.r (.c (.own (1,0,0)))) [((1,0,0),.dar 7 (ah ((aH p f b).map FW.tr)) none)]:=by
 refine aD hΓ ao Tryz.func159 rfl (by decide) rfl rfl ?_
 have hP:=eu p hs
 have hB:=iO b
 have hl:=aI hs
 have gF:=br p (by omega)
 have hfl:((an p).map fun n:Nat=>aa n).length=(an p).length:=by simp
 have hfl2:=my p 0
 change(an p).length≤_ at hfl2
 have hww:IntKind.i64.wrap ((((an p).map fun n:Nat=>aa n).length:Int) - 1)=((an p).length:Int) - 1:=by rw[hfl,IntWalk.i64_in _ (by omega)]
 have gb:=aE f 0 (IntKind.i64.wrap ((((an p).map fun n:Nat=>aa n).length:Int) - 1))
 have hbw:af f 0 (IntKind.i64.wrap ((((an p).map fun n:Nat=>aa n).length:Int) - 1))=decide (0≤f∧f < (an p).length):=by
  rw[hww,af];by_cases h:0≤f∧f < (an p).length <;> simp[h] <;> omega
 rw[hbw]at gb
 by_cases hc:az p=true∧aU b=true∧0≤f∧f < (an p).length
 ·have hcf:aH p f b=gq p f.toNat b:=by rw[aH,if_pos hc]
  rw[hcf]
  obtain⟨h1,h2,h3,h4⟩:=hc
  rw[show decide (0≤f∧f < (an p).length)=true from decide_eq_true ⟨h3,h4⟩]at gb
  obtain⟨f,rfl⟩:=Int.eq_ofNat_of_zero_le h3
  rw[Int.toNat_natCast]
  rw[h1]at hP
  rw[h2]at hB
  have hb:0≤b.faj∧b.faj≤3:=by
   unfold aU at h2
   simp only[Bool.and_eq_true,within_iff]at h2
   exact h2.2
  obtain⟨g,hg⟩:=ae (l:=an p) (k:=f) (by omega)
  have hpg:=(sG hs h1).foldIf b
  have hg':(an (foldIf p b))[f]?=some g:=by rw[jf];exact hg
  obtain⟨hgl,y,hy,hy0⟩:=gZ (List.mem_of_getElem? hg')
  have h4':=(hpg.line g y hy).2.2.1
  have ha:(0:Int)≤(argsN (foldIf p b) g:Int)∧(argsN (foldIf p b) g:Int)≤4:=by rw[argsN,hy];dsimp only;omega
  have hC0:CxOk (ctx (foldIf p b) f g b 0):=hpg.cx ha (by omega) hb
  have hm:=nE hC0 ⟨y,hy,hy0⟩ rfl
  have hC1:CxOk (ctx (foldIf p b) f g b (cF (ctx (foldIf p b) f g b 0) g).most):=hpg.cx ha hm hb
  have g0:=ly _ hC0 g ⟨y,hy,hy0⟩ rfl
  have g1:=ly _ hC1 g ⟨y,hy,hy0⟩ rfl
  have hcd:gq p f b=(cF (ctx (foldIf p b) f g b (cF (ctx (foldIf p b) f g b 0) g).most) g).items:=by rw[gq,hg']
  rw[hcd]
  generalize cF (ctx (foldIf p b) f g b 0) g=R0 at *
  generalize cF (ctx (foldIf p b) f g b R0.most) g=R1 at *
  have hfo:=nX p hs
  rw[show dg p=p.map aN by rw[dg,if_pos h1]]at hfo
  have gF2:=br (foldIf p b) (Nat.le_trans hpg.len (by omega))
  rw[jf]at gF2
  have hfr:f < ((an p).map fun n:Nat=>aa n).length:=by omega
  have hfg:((an p).map fun n:Nat=>aa n)[f]?=some (aa (g:Int)):=by rw[List.getElem?_map,hg];rfl
  obtain⟨fr,inl,fold,sp⟩:=b
  cases fold with
  | true=>
   have e:foldIf p ⟨fr,inl,true,sp⟩=p.map aN:=rfl
   simp only[ctx,e]at g0 g1 gF2
   repeat' ((conv=>whnf);first|apply Wx|apply W6|apply oi|(apply fi<;>intro h)|refine cl hP ?_|refine cl hB ?_|refine cl gF ?_|refine cl gb ?_|refine cl hfo ?_|refine cl gF2 ?_|refine⟨f,rfl,hfr,?_⟩|refine⟨_,hfg,?_⟩|refine⟨_,rfl,?_⟩|exact rfl)
   all_goals try exact⟨KP⟩
   all_goals try exact⟨by omega⟩
   all_goals try exact⟨rfl⟩
   conv=>whnf
   refine cg (g0) ?_
   repeat' ((conv=>whnf);first|apply Wx|apply W6|refine cg g1 ?_|apply oi|(apply fi<;>intro h)|refine⟨_,rfl,?_⟩|exact rfl)
   all_goals try exact⟨KP⟩
   all_goals try exact⟨mu _⟩
   all_goals try exact⟨by omega⟩
   all_goals try exact⟨rfl⟩
   all_goals try exact KX
  | false=>
   have e:foldIf p ⟨fr,inl,false,sp⟩=p:=rfl
   simp only[ctx,e]at g0 g1 gF2
   repeat' ((conv=>whnf);first|apply Wx|apply W6|apply oi|(apply fi<;>intro h)|refine cl hP ?_|refine cl hB ?_|refine cl gF ?_|refine cl gb ?_|refine⟨f,rfl,hfr,?_⟩|refine⟨_,hfg,?_⟩|refine⟨_,rfl,?_⟩|exact rfl)
   all_goals try exact⟨KP⟩
   all_goals try exact⟨by omega⟩
   all_goals try exact⟨rfl⟩
   conv=>whnf
   refine cg (g0) ?_
   repeat' ((conv=>whnf);first|apply Wx|apply W6|refine cg g1 ?_|apply oi|(apply fi<;>intro h)|refine⟨_,rfl,?_⟩|exact rfl)
   all_goals try exact⟨KP⟩
   all_goals try exact⟨mu _⟩
   all_goals try exact⟨by omega⟩
   all_goals try exact⟨rfl⟩
   all_goals try exact KX
 ·have hcf:aH p f b=[]:=by rw[aH,if_neg hc]
  rw[hcf]
  cases h1:az p with
  | false=>
   rw[h1]at hP
   repeat' ((conv=>whnf);first|apply Wx|apply W6|apply oi|(apply fi<;>intro h)|refine cl hP ?_|refine cl hB ?_|refine cl gF ?_|refine cl gb ?_|refine⟨_,rfl,?_⟩|exact rfl)
   all_goals try exact⟨KP⟩
   all_goals try exact KX
  | true=>
   rw[h1]at hP
   cases h2:aU b with
   | false=>
    rw[h2]at hB
    repeat' ((conv=>whnf);first|apply Wx|apply W6|apply oi|(apply fi<;>intro h)|refine cl hP ?_|refine cl hB ?_|refine cl gF ?_|refine cl gb ?_|refine⟨_,rfl,?_⟩|exact rfl)
    all_goals try exact⟨KP⟩
    all_goals try exact KX
   | true=>
    rw[h2]at hB
    have hc':¬(0≤f∧f < (an p).length):=fun hh=>hc ⟨h1,h2,hh⟩
    rw[show decide (0≤f∧f < (an p).length)=false from decide_eq_false hc']at gb
    repeat' ((conv=>whnf);first|apply Wx|apply W6|apply oi|(apply fi<;>intro h)|refine cl hP ?_|refine cl hB ?_|refine cl gF ?_|refine cl gb ?_|refine⟨_,rfl,?_⟩|exact rfl)
    all_goals try exact⟨KP⟩
    all_goals try exact KX
theorem kU (p:List FX)(f:Int)(b:FO)(hs:ay 1048576 (.lst 4 (p.map FX.tr))):Sim.Spec Tryz.prog 159 [tvP p,tvI f,.agg b.tr] (rL 7 ((aH p f b).map FW.tr)):=
 Aq (ts:=[tvP p,tvI f,.agg b.tr]) (kF p f b hs)
theorem sU (f:Nat)(b:FO)(image:Int)(hf:f≤100):Sim.Spec Tryz.prog 157 [tvI (f:Int),.agg b.tr,tvI image] (rB (lD b image f)):=by
 refine aJ hΓ ao Tryz.func157 rfl (by decide) rfl ?_
 unfold lD
 have hm:(f:Int).tmod 2=(f:Int) % 2:=Int.tmod_eq_emod_of_nonneg (by omega)
 repeat' ((conv=>whnf);first|apply Wx|apply W6|apply oi|(apply fi<;>intro h)|refine⟨_,rfl,?_⟩|exact rfl)
 all_goals try exact⟨KP⟩
 all_goals exact⟨by simp[h,hm]⟩
theorem nV (p:List FX)(b:FO)(image:Int)(hs:ay 1048576 (.lst 4 (p.map FX.tr)))(h1:az p=true)(h2:aU b=true):bx Tryz.prog 79 [vP p,bV b,tI .i64 image] [] (.tup [.c (.own (1,0,0)),.c (.own (1,0,1))]) [((1,0,0),.arr true 1 (dM (cu p b image (an p).length 0 0))),((1,0,1),.dar 1 (ah (dm (cu p b image (an p).length 0 0))) none)]:=by
 refine aD hΓ ao Tryz.func79 rfl (by decide) rfl rfl ?_
 obtain⟨h6,h60⟩:=gA h1
 have gF:=br p (by omega)
 have hfl:((an p).map fun n:Nat=>aa n).length=(an p).length:=by simp
 repeat' ((conv=>whnf);first|apply Wx|apply W6|apply oi|(apply fi<;>intro h)|refine cl gF ?_|refine⟨_,rfl,?_⟩|exact rfl)
 all_goals try exact⟨KP⟩
 conv=>whnf
 refine⟨EM p b image,fun q=>⟨[(0,vP p),(2,tI .i64 image),(4,.r (.c (.ptr (4,0,0) 0))),(8,.r (.c (.own (14,0,0)))),(9,.r (.c (.own (15,0,0)))),(10,tI .i64 q.1.2.1),(18,tI .i64 (((an p).map fun n:Nat=>aa n).length:Int)),(19,tI .i64 (q.1.1:Int))],[((14,0,0),some (.arr true 1 (dM q.1.2.2))),((15,0,0),some (.dar 1 (ah (dm q.1.2.2)) none)),((4,0,0),some (.box [.t (.int .i64 b.fat),.t (.int .i64 b.faj),.t (.bool b.fax),.t (.bool b.fav)]))],[14,15,4,0]⟩,fun q=>(an p).length - q.1.1,⟨(0,0,[]),by simp,by simp,by simp,by simp⟩,?_,?_⟩
 ·skip
  repeat' ((conv=>whnf);first|apply Wx|apply W6|apply oi|(apply fi<;>intro h)|refine⟨_,rfl,?_⟩|exact rfl)
  all_goals try exact⟨KP⟩
 intro⟨⟨f,at0,acc⟩,hk,ha,hal,hr⟩
 dsimp only at hk ha hal hr ⊢
 have hnl:(dM acc).length=acc.length:=by simp[dM]
 have hrl:(ah (dm acc)).length=acc.length:=by rw[aR];simp[dm]
 by_cases hlt:f < (an p).length
 ·obtain⟨n,hn⟩:∃n,(an p).length - f=n+1:=⟨(an p).length - f - 1,by omega⟩
  have hi:=sU f b image (by omega)
  rw[hn,jW]at hr
  cases hin:lD b image f with
  | false=>
   rw[hin]at hi hr
   rw[if_neg (by simp)]at hr
   repeat' ((conv=>whnf);first|apply Wx|apply W6|apply oi|(apply fi<;>intro h)|refine cl hi ?_|refine⟨_,rfl,?_⟩|exact rfl)
   all_goals try exact⟨KP⟩
   all_goals try exact KX
   conv=>whnf
   refine⟨⟨(f+1,at0,acc),by dsimp only;omega,by dsimp only;omega,by dsimp only;omega,by dsimp only;rw[show(an p).length - (f+1)=n by omega];exact hr⟩,?_,KD⟩
   repeat' ((conv=>whnf);first|apply Wx|apply W6|apply oi|(apply fi<;>intro h)|refine⟨_,rfl,?_⟩|exact rfl)
   all_goals try exact⟨KP⟩
   all_goals try exact⟨KW⟩
  | true=>
   rw[hin]at hi hr
   rw[if_pos rfl]at hr
   have hcs:=kU p (f:Int) b hs
   obtain⟨f1,f2,f3⟩:=Dr (f:=f) hs h1 h2 hlt
   have hch:=(fy (p:=p) (f:=(f:Int)) (b:=b) hs).2
   generalize aH p (f:Int) b=I at *
   have gP:=lj I at0 f2 (by omega) f3 (fun x hx=>by have:=hch x hx;omega)
   obtain⟨y,y1,y2,y3,y4⟩:=xg (at0:=at0) f1
   have ye:=AU (l:=I) (at0:=at0)
   have hz:=fT y.fal.fag.fac
   have ho:=gl y.fal.fag.fac
   have hpl:=dc I at0
   have hdl:(ah ((cJ I at0).map Ga.tr)).length=I.length:=by rw[aR,List.length_map,hpl]
   have hix:IntKind.i64.wrap (((ah ((cJ I at0).map Ga.tr)).length:Int) - 1)=((I.length - 1:Nat):Int):=by rw[hdl,IntWalk.i64_in _ (by omega)];omega
   have hlx:I.length - 1 < (ah ((cJ I at0).map Ga.tr)).length:=by omega
   have hgx:(ah ((cJ I at0).map Ga.tr))[I.length - 1]?=some (y.tr.map .d):=by rw[ah,List.getElem?_map,List.getElem?_map,y1];rfl
   repeat' ((conv=>whnf);first|apply Wx|apply W6|refine cg gP ?_|apply oi|(apply fi<;>intro h)|refine cl hi ?_|refine cl hcs ?_|refine⟨_,hix,hlx,?_⟩|refine⟨_,hgx,?_⟩|refine cl ho ?_|refine⟨_,rfl,?_⟩|exact rfl)
   all_goals try exact⟨KP⟩
   all_goals try exact KX
   all_goals try exact⟨mu _⟩
   all_goals try exact⟨⟨by simp only[List.length_nil,List.length_cons,hnl,hrl] <;> omega,by simp only[List.length_nil,List.length_cons,hnl,hrl] <;> omega⟩⟩
   conv=>whnf
   refine⟨⟨(f+1,sj at0 I,acc++[(f,cJ I at0)]),by dsimp only;omega,by dsimp only;omega,by simp;omega,by dsimp only;rw[List.append_assoc,show(an p).length - (f+1)=n by omega];exact hr⟩,?_,KD⟩
   repeat' ((conv=>whnf);first|apply Wx|apply W6|apply oi|(apply fi<;>intro h)|refine⟨_,rfl,?_⟩|exact rfl)
   all_goals try exact⟨KP⟩
   all_goals try exact⟨KW⟩
   all_goals try exact⟨congrArg (Tr.int .i64) (by rw[IntWalk.i64_in _ (by omega),y2])⟩
   all_goals try exact⟨by rw[dM,dM,List.map_append];rfl⟩
   all_goals try exact⟨by rw[dm,dm,List.map_append,cC];rfl⟩
 ·rw[show(an p).length - f=0 by omega]at hr
  have hr2:acc=cu p b image (an p).length 0 0:=by rw[←hr];simp[cu]
  repeat' ((conv=>whnf);first|apply Wx|apply W6|apply oi|(apply fi<;>intro h)|refine⟨_,rfl,?_⟩|exact rfl)
  all_goals try exact⟨KP⟩
  all_goals try exact KX
  all_goals exact⟨by rw[hr2]⟩
theorem nP (p:List FX)(b:FO)(image:Int)(hs:ay 1048576 (.lst 4 (p.map FX.tr)))(h1:az p=true)(h2:aU b=true):Sim.Spec Tryz.prog 79 [tvP p,.agg b.tr,tvI image] (.tup [.c (.arr 1 (dM (cu p b image (an p).length 0 0))),.c (.arr 1 (dm (cu p b image (an p).length 0 0)))]):=by
 refine wd (ts:=[tvP p,.agg b.tr,tvI image]) (nV p b image hs h1 h2) rfl ⟨trivial,trivial,trivial⟩ ⟨rfl,rfl,?_⟩
 conv=>whnf
 refine⟨rfl,rfl,?_⟩
 conv=>whnf
 exact⟨trivial,rfl,rfl,rfl,rfl⟩
theorem gu (p:List FX)(b:FO)(image:Int)(hs:ay 1048576 (.lst 4 (p.map FX.tr))):Sim.Spec Tryz.prog 87 [tvP p,.agg b.tr,tvI image] (.r (.agg ((aB p b image).tr.map zh))):=by
 refine aJ hΓ ao Tryz.func87 rfl (by decide) rfl ?_
 have hP:=eu p hs
 have hB:=iO b
 have gb:=aE image 0 1
 by_cases hc:az p=true∧aU b=true∧af image 0 1=true
 ·have hcf:aB p b image=⟨aG (aO (cu p b image (an p).length 0 0)),bN p 0 (cu p b image (an p).length 0 0)⟩:=by rw[aB,if_pos hc]
  rw[hcf]
  obtain⟨h1,h2,h3⟩:=hc
  rw[h1]at hP
  rw[h2]at hB
  rw[h3]at gb
  obtain⟨h6,h60⟩:=gA h1
  have gF:=br p (by omega)
  have hfl:((an p).map fun n:Nat=>aa n).length=(an p).length:=by simp
  have gi:=nP p b image hs h1 h2
  have hll:=jO p b image (an p).length 0 0
  have hlc:=fun x (hx:x∈cu p b image (an p).length 0 0)=>(jI hs hx).1
  have hlf:=fun x (hx:x∈cu p b image (an p).length 0 0)=>(lR hx).2
  generalize cu p b image (an p).length 0 0=L at *
  have hrl:(dm L).length=L.length:=by simp[dm]
  have hnl:(dM L).length=L.length:=by simp[dM]
  repeat' ((conv=>whnf);first|apply Wx|apply W6|apply oi|(apply fi<;>intro h)|refine cl hP ?_|refine cl hB ?_|refine cl gb ?_|refine cl gi ?_|refine⟨_,rfl,?_⟩|exact rfl)
  all_goals try exact⟨KP⟩
  conv=>whnf
  refine⟨{k:Nat // k≤L.length},fun k=>⟨[(0,vP p),(6,.r (.c (.ptr (6,0,0) 0))),(7,.r (.c (.ptr (7,0,0) 0))),(8,.r (.c (.own (34,0,0)))),(37,.r (.c (.own (34,1,0)))),(38,tI .i64 ((dm L).length:Int)),(39,tI .i64 (k.1:Int))],[((6,0,0),some (.box [.t (.str []),.nils 0])),((7,0,0),some (.box [.t (.str (aG (aO (L.take k.1)))),.own (7,0,1)])),((7,0,1),some (.arr true 3 ((bN p 0 (L.take k.1)).map Ge.tr))),((34,0,0),some (.arr true 1 (dM L))),((34,1,0),some (.arr true 1 (dm L)))],[34,7,6]⟩,fun k=>L.length - k.1,⟨0,by omega⟩,?_,?_⟩
  ·skip
   repeat' ((conv=>whnf);first|apply Wx|apply W6|apply oi|(apply fi<;>intro h)|refine⟨_,rfl,?_⟩|exact rfl)
   all_goals try exact⟨KP⟩
  intro⟨k,hk⟩
  dsimp only
  have hpl:=qd hlc hk
  have hcl:=eW (aO (L.take k))
  have hsy:(bN p 0 (L.take k)).length=k:=by rw[iV,List.length_take];omega
  by_cases hlt:k < L.length
  ·obtain⟨x,hx⟩:=ae hlt
   have hxl:=hlc x (List.mem_of_getElem? hx)
   have hxf:=hlf x (List.mem_of_getElem? hx)
   obtain⟨g,hg⟩:=ae (l:=an p) (k:=x.1) (by omega)
   obtain⟨hgl,ln,hln,_⟩:=gZ (List.mem_of_getElem? hg)
   have hnm:bm p x.1=ln.fab:=by rw[bm,hg];dsimp only;rw[hln]
   have hxr:(dm L)[k]?=some [.lst 8 (x.2.map Ga.tr)]:=by rw[dm,List.getElem?_map,hx];rfl
   have hxn:(dM L)[k]?=some (aa (x.1:Int)):=by rw[dM,List.getElem?_map,hx];rfl
   have hfg:((an p).map fun n:Nat=>aa (n:Int))[x.1]?=some (aa (g:Int)):=by rw[List.getElem?_map,hg];rfl
   have hkr:k < (dm L).length:=by omega
   have hkn:k < (dM L).length:=by omega
   have hxm:(x.2.map Ga.tr).length=x.2.length:=by simp
   have hfgl:x.1 < ((an p).map fun n:Nat=>aa (n:Int)).length:=by rw[hfl];omega
   have hsn:bN p 0 (L.take (k+1))=bN p 0 (L.take k)++[⟨bm p x.1,0+(aG (aO (L.take k))).length,(aG x.2).length⟩]:=by rw[ck hx,lP]
   have hcn:aG (aO (L.take (k+1)))=aG (aO (L.take k))++aG x.2:=by rw[ck hx,kD,cr]
   have hcx:=eW x.2
   generalize hSS:bN p 0 (L.take (k+1))=S1 at *
   generalize hS0:bN p 0 (L.take k)=S0 at *
   generalize hCC:aG (aO (L.take (k+1)))=C1 at *
   generalize hC0:aG (aO (L.take k))=C0 at *
   repeat' ((conv=>whnf);first|apply Wx|apply W6|apply oi|(apply fi<;>intro h)|refine⟨k,rfl,hkr,?_⟩|refine⟨_,hxr,?_⟩|refine⟨_,rfl,?_⟩|exact rfl)
   all_goals try exact⟨KP⟩
   all_goals try exact KX
   conv=>whnf
   refine⟨{j:Nat // j≤x.2.length},fun j=>⟨[(0,vP p),(6,.r (.c (.ptr (6,0,0) 0))),(7,.r (.c (.ptr (7,0,0) 0))),(8,.r (.c (.own (34,0,0)))),(37,.r (.c (.own (34,1,0)))),(38,tI .i64 ((dm L).length:Int)),(39,tI .i64 (k:Int)),(10,tI .i64 (k:Int)),(12,tI .i64 (C0.length:Int)),(47,.r (.c (.t (.lst 8 (x.2.map Ga.tr))))),(48,tI .i64 ((x.2.map Ga.tr).length:Int)),(49,tI .i64 (j.1:Int))],[((6,0,0),some (.box [.t (.str []),.nils 0])),((7,0,0),some (.box [.t (.str (C0++aG (x.2.take j.1))),.own (7,0,1)])),((7,0,1),some (.arr true 3 ((S0).map Ge.tr))),((34,0,0),some (.arr true 1 (dM L))),((34,1,0),some (.arr true 1 (dm L)))],[34,7,6]⟩,fun j=>x.2.length - j.1,⟨0,by omega⟩,?_,?_⟩
   ·skip
    repeat' ((conv=>whnf);first|apply Wx|apply W6|apply oi|(apply fi<;>intro h)|refine⟨_,rfl,?_⟩|exact rfl)
    all_goals try exact⟨KP⟩
    all_goals try exact⟨by simp[aG]⟩
   intro⟨j,hj⟩
   dsimp only
   have hct:=eW (x.2.take j)
   have hjt:(x.2.take j).length≤2500:=by rw[List.length_take];omega
   by_cases hjl:j < x.2.length
   ·obtain⟨y,hy⟩:=ae hjl
    have hE:=sk y.fal.fag
    have hE5:=ls y.fal.fag
    have hym:=ab (f:=Ga.tr) hy
    have hcy:aG (x.2.take (j+1))=aG (x.2.take j)++cM y.fal.fag:=by rw[ck hy,cr,iB]
    repeat' ((conv=>whnf);first|apply Wx|apply W6|apply oi|(apply fi<;>intro h)|refine⟨j,y.tr,rfl,hym,?_⟩|refine cl hE ?_|refine⟨_,rfl,?_⟩|exact rfl)
    all_goals try exact⟨KP⟩
    all_goals try exact KX
    all_goals try exact⟨K9⟩
    conv=>whnf
    refine⟨⟨j+1,by omega⟩,?_,KD⟩
    repeat' ((conv=>whnf);first|apply Wx|apply W6|apply oi|(apply fi<;>intro h)|refine⟨_,rfl,?_⟩|exact rfl)
    all_goals try exact⟨KP⟩
    all_goals try exact⟨KW⟩
    all_goals try exact⟨by dsimp only;rw[hcy,List.append_assoc]⟩
   ·have hjx:j=x.2.length:=by omega
    subst hjx
    rw[List.take_of_length_le (Nat.le_refl _),←hcn]
    repeat' ((conv=>whnf);first|apply Wx|apply W6|apply oi|(apply fi<;>intro h)|refine cl gF ?_|refine⟨k,rfl,hkn,?_⟩|refine⟨_,hxn,?_⟩|refine⟨x.1,rfl,hfgl,?_⟩|refine⟨_,hfg,?_⟩|refine⟨g,ln.tr,rfl,ab hln,?_⟩|refine⟨_,rfl,?_⟩|exact rfl)
    all_goals try exact⟨KP⟩
    all_goals try exact KX
    all_goals try exact⟨⟨by simp only[List.length_nil,List.length_cons,List.length_map,hsy] <;> omega,by simp only[List.length_nil,List.length_cons,List.length_map,hsy] <;> omega⟩⟩
    conv=>whnf
    refine⟨⟨k+1,by omega⟩,?_,KD⟩
    repeat' ((conv=>whnf);first|apply Wx|apply W6|apply oi|(apply fi<;>intro h)|refine⟨_,rfl,?_⟩|exact rfl)
    all_goals try exact⟨KP⟩
    all_goals try exact⟨KW⟩
    all_goals try exact⟨by rw[hCC]⟩
    all_goals exact⟨by
     have e:C1.length=C0.length+(aG x.2).length:=by rw[hcn,List.length_append]
     dsimp only
     rw[hSS,hsn,List.map_append,hnm,IntWalk.i64_in _ (by omega),show(C1.length:Int) - C0.length=((aG x.2).length:Int) by omega,Int.zero_add]
     rfl⟩
  ·have hkl:k=L.length:=by omega
   subst hkl
   rw[List.take_of_length_le (Nat.le_refl _)]
   repeat' ((conv=>whnf);first|apply Wx|apply W6|apply oi|(apply fi<;>intro h)|refine⟨_,rfl,?_⟩|exact rfl)
   all_goals try exact⟨KP⟩
   all_goals try exact KX
 ·have hcf:aB p b image=⟨[],[]⟩:=by rw[aB,if_neg hc]
  rw[hcf]
  cases h1:az p with
  | false=>
   rw[h1]at hP
   repeat' ((conv=>whnf);first|apply Wx|apply W6|apply oi|(apply fi<;>intro h)|refine cl hP ?_|refine cl hB ?_|refine cl gb ?_|refine⟨_,rfl,?_⟩|exact rfl)
   all_goals try exact⟨KP⟩
   all_goals try exact KX
  | true=>
   rw[h1]at hP
   cases h2:aU b with
   | false=>
    rw[h2]at hB
    repeat' ((conv=>whnf);first|apply Wx|apply W6|apply oi|(apply fi<;>intro h)|refine cl hP ?_|refine cl hB ?_|refine cl gb ?_|refine⟨_,rfl,?_⟩|exact rfl)
    all_goals try exact⟨KP⟩
    all_goals try exact KX
   | true=>
    rw[h2]at hB
    cases h3:af image 0 1 with
    | true=>exact absurd ⟨h1,h2,h3⟩ hc
    | false=>
     rw[h3]at gb
     repeat' ((conv=>whnf);first|apply Wx|apply W6|apply oi|(apply fi<;>intro h)|refine cl hP ?_|refine cl hB ?_|refine cl gb ?_|refine⟨_,rfl,?_⟩|exact rfl)
     all_goals try exact⟨KP⟩
     all_goals try exact KX
abbrev rIm (i:FU):List DC:=[.d (.str i.fac),.d (.lst 3 (i.fae.map Ge.tr))]
theorem EJ {i0 i1 im:FU}{j:Nat}(h:[i0.tr,i1.tr][j]?=some im.tr)(hj:j < 2):[rIm i0,rIm i1][j]?=some (rIm im)∧[rIm i0,rIm i1].set j ((rIm im).set (0+1) (.d (.lst 3 (im.fae.map Ge.tr))))=[rIm i0,rIm i1]:=by
 have key:∀{a c:FU},a.tr=c.tr→rIm a=rIm c:=fun{a c} e=>by
  simp only[FU.tr,List.cons.injEq,Tr.str.injEq,Tr.lst.injEq]at e
  simp only[rIm,e.1,e.2.1.2]
 rcases(show j=0∨j=1 by omega)with rfl|rfl
 ·simp only[List.getElem?_cons_zero,Option.some.injEq]at h
  have:=key h
  refine⟨congrArg some this,?_⟩
  show [rIm im,rIm i1]=_
  rw[this]
 ·simp only[List.getElem?_cons_succ,List.getElem?_cons_zero,Option.some.injEq]at h
  have:=key h
  refine⟨congrArg some this,?_⟩
  show [rIm i0,rIm im]=_
  rw[this]
theorem Cm (l:List Ge):flat (l.map Ge.tr):=dr _ (by intro x c hc sz rs e;subst e;simp[Ge.tr]at hc)
theorem qh (p:List FX)(b:FO)(first second:Int)(hs:ay 1048576 (.lst 4 (p.map FX.tr))):bx Tryz.prog 35 [vP p,bV b,tI .i64 first,tI .i64 second] []
  (.tup [.agg [.own (1,0,0),.own (1,0,1),.own (1,0,2)],.c (.t (.bool (dQ p b first second).isSome))])
  [((1,0,0),.dar 2 (ah ((oSp (dQ p b first second)).fam.map FU.tr)) none),((1,0,1),.arr true 1 ((oSp (dQ p b first second)).fao.map aa)),((1,0,2),.arr true 1 ((oSp (dQ p b first second)).faq.map aa))]:=by
 refine aD hΓ ao Tryz.func35 rfl (by decide) rfl rfl ?_
 have hP:=eu p hs
 have hB:=iO b
 cases h1:az p with
 | false=>
  rw[h1]at hP
  rw[show dQ p b first second=none by rw[dQ,if_neg (by rw[h1];simp)]]
  repeat' ((conv=>whnf);first|apply Wx|apply W6|apply oi|(apply fi<;>intro h)|refine cl hP ?_|refine cl hB ?_|refine⟨_,rfl,?_⟩|exact rfl)
  all_goals try exact⟨KP⟩
  all_goals try exact KX
 | true=>
  rw[h1]at hP
  cases h2:aU b with
  | false=>
   rw[h2]at hB
   rw[show dQ p b first second=none by rw[dQ,if_neg (by rw[h2];simp)]]
   repeat' ((conv=>whnf);first|apply Wx|apply W6|apply oi|(apply fi<;>intro h)|refine cl hP ?_|refine cl hB ?_|refine⟨_,rfl,?_⟩|exact rfl)
   all_goals try exact⟨KP⟩
   all_goals try exact KX
  | true=>
   rw[h2]at hB
   obtain⟨h6,h60⟩:=gA h1
   have hA0:=gu p b 0 hs
   have hA1:=gu p b 1 hs
   have gF:=br p (by omega)
   have hfl:((an p).map fun n:Nat=>aa n).length=(an p).length:=by simp
   have hsp:=tA (eL p b first second) (nQ hs h6)
   repeat' ((conv=>whnf);first|(with_reducible apply W1;fail_if_success (with_reducible show Wo _ _ _ _ (Code.region 4 _ _) _ _))|(with_reducible first|apply W2|apply W3|apply W4|apply W5|apply W6|apply W7|apply W8|apply W9)|apply aZ|apply oi|(apply fi<;>intro h)|refine cl hP ?_|refine cl hB ?_|refine cl hA0 ?_|refine cl hA1 ?_|refine⟨_,rfl,?_⟩|exact rfl)
   all_goals try exact⟨KP⟩
   all_goals try exact KX
   all_goals try exact⟨dr _ (by intro x c hc sz rs e;subst e;simp[Ge.tr]at hc)⟩
   have hS0:(aB p b 0).fae.length≤6:=gf h6
   have hS1:(aB p b 1).fae.length≤6:=gf h6
   have hE:∀f,f < (an p).length→mV p b (aB p b 0) (aB p b 1) first second f=[kx p b first second f]:=fun f hf=>Eo h1 h2 hf first second
   have hall:dA (mV p b (aB p b 0) (aB p b 1) first second) (an p).length=entries p b first second:=qH hE
   have hld:dQ p b first second=if gg (eL p b first second)=true then some (eL p b first second)else none:=by
    rw[dQ]
    by_cases hso:gg (eL p b first second)=true
    ·rw[if_pos hso,if_pos ⟨h1,h2,hso⟩]
    ·rw[if_neg hso,if_neg fun h=>hso h.2.2]
   have hcand:(eL p b first second).tr=[.lst 2 [(aB p b 0).tr,(aB p b 1).tr],.lst 1 [aa first,aa second],.lst 1 ((entries p b first second).map aa)]:=rfl
   have hcI:(eL p b first second).fam=[aB p b 0,aB p b 1]:=rfl
   have hcB:(eL p b first second).fao=[first,second]:=rfl
   have hcE:(eL p b first second).faq=entries p b first second:=rfl
   rw[hld]
   generalize eL p b first second=cd at *
   generalize aB p b 0=i0 at *
   generalize aB p b 1=i1 at *
   have hEl:∀f,(mV p b i0 i1 first second f).length≤12:=fun f=>by
    unfold mV
    have:=iz (bm p f) second i1.fae
    have:=iz (bm p f) first i0.fae
    rw[List.length_append]
    omega
   have hEt:=nD hEl
   conv=>whnf
   refine pn ⟨[(0,vP p),(5,.r (.c (.ptr (5,0,0) 0))),(8,.r (.c (.ptr (8,0,0) 0))),(10,.r (.c (.ptr (10,0,0) 0)))],[((5,0,0),some (.box (b.tr.map .t))),((8,0,0),some (.box [.nils 0,.nils 0,.nils 0])),((10,0,0),some (.box [.own (10,0,1001),.own (10,0,2),.own (10,0,3)])),((10,0,1001),some (.dar 2 [rIm i0,rIm i1] none)),((10,0,2),some (.arr true 1 [aa first,aa second])),((10,0,3),some (.arr true 1 []))],[10,8,5,0]⟩ ?_ ?_
   ·skip
    repeat' ((conv=>whnf);first|apply Wx|apply W6|apply oi|(apply fi<;>intro h)|refine⟨_,rfl,?_⟩|exact rfl)
    all_goals try exact⟨KP⟩
   repeat' ((conv=>whnf);first|apply Wx|apply W6|apply oi|(apply fi<;>intro h)|refine cl gF ?_|refine⟨_,rfl,?_⟩|exact rfl)
   all_goals try exact⟨KP⟩
   conv=>whnf
   refine⟨{f:Nat // f≤(an p).length},fun q=>⟨[(0,vP p),(5,.r (.c (.ptr (5,0,0) 0))),(8,.r (.c (.ptr (8,0,0) 0))),(10,.r (.c (.ptr (10,0,0) 0))),(38,.r (.c (.own (10,0,4)))),(39,tI .i64 (((an p).map fun n:Nat=>aa (n:Int)).length:Int)),(40,tI .i64 (q.1:Int))],[((5,0,0),some (.box (b.tr.map .t))),((8,0,0),some (.box [.nils 0,.nils 0,.nils 0])),((10,0,0),some (.box [.own (10,0,1001),.own (10,0,2),.own (10,0,3)])),((10,0,1001),some (.dar 2 [rIm i0,rIm i1] none)),((10,0,2),some (.arr true 1 [aa first,aa second])),((10,0,4),some (.arr true 1 ((an p).map fun n:Nat=>aa (n:Int)))),((10,0,3),some (.arr true 1 ((dA (mV p b i0 i1 first second) q.1).map aa)))],[10,8,5,0]⟩,fun q=>(an p).length - q.1,⟨0,by omega⟩,?_,?_⟩
   ·skip
    repeat' ((conv=>whnf);first|apply Wx|apply W6|apply oi|(apply fi<;>intro h)|refine⟨_,rfl,?_⟩|exact rfl)
    all_goals try exact⟨KP⟩
   intro⟨f,hf⟩
   dsimp only
   have hef:=hEt f
   by_cases hlt:f < (an p).length
   ·obtain⟨g,hg⟩:=ae hlt
    obtain⟨ln,hln,_,hnm,_⟩:=pI h1 hg
    have hes:mV p b i0 i1 first second f=eE ln.fab first i0.fae++eE ln.fab second i1.fae:=by rw[mV,hnm]
    have hfr:f < ((an p).map fun n:Nat=>aa n).length:=by omega
    have hfg:((an p).map fun n:Nat=>aa n)[f]?=some (aa (g:Int)):=by rw[List.getElem?_map,hg];rfl
    have hh0:=iz ln.fab first i0.fae
    repeat' ((conv=>whnf);first|apply Wx|apply W6|apply oi|(apply fi<;>intro h)|refine⟨f,rfl,hfr,?_⟩|refine⟨_,hfg,?_⟩|refine⟨_,rfl,?_⟩|exact rfl)
    all_goals try exact⟨KP⟩
    all_goals try exact KX
    conv=>whnf
    refine⟨{j:Nat // j≤2},fun q=>⟨[(0,vP p),(5,.r (.c (.ptr (5,0,0) 0))),(8,.r (.c (.ptr (8,0,0) 0))),(10,.r (.c (.ptr (10,0,0) 0))),(38,.r (.c (.own (10,0,4)))),(39,tI .i64 (((an p).map fun n:Nat=>aa (n:Int)).length:Int)),(40,tI .i64 (f:Int)),(12,tI .i64 (g:Int)),(45,.r (.c (.own (10,0,1001)))),(46,tI .i64 2),(47,tI .i64 (q.1:Int))],[((5,0,0),some (.box (b.tr.map .t))),((8,0,0),some (.box [.nils 0,.nils 0,.nils 0])),((10,0,0),some (.box [.own (10,0,1001),.own (10,0,2),.own (10,0,3)])),((10,0,1001),some (.dar 2 [rIm i0,rIm i1] none)),((10,0,2),some (.arr true 1 [aa first,aa second])),((10,0,4),some (.arr true 1 ((an p).map fun n:Nat=>aa (n:Int)))),((10,0,3),some (.arr true 1 ((dA (mV p b i0 i1 first second) f++(if 0 < q.1 then eE ln.fab first i0.fae else [])++(if 1 < q.1 then eE ln.fab second i1.fae else [])).map aa)))],[10,8,5,0]⟩,fun q=>2 - q.1,⟨0,by omega⟩,?_,?_⟩
    ·skip
     repeat' ((conv=>whnf);first|apply Wx|apply W6|apply oi|(apply fi<;>intro h)|refine⟨_,rfl,?_⟩|exact rfl)
     all_goals try exact⟨KP⟩
     all_goals try exact⟨KW⟩
     all_goals try exact⟨by simp⟩
    intro⟨j,hj2⟩
    dsimp only
    by_cases hj:j < 2
    ·obtain⟨im,base,acc,him,hbase,hsy,hacc,hnx,hal⟩:∃(im:FU) (base:Int) (acc:List Int),[i0.tr,i1.tr][j]?=some im.tr∧[aa first,aa second][j]?=some (aa base)∧im.fae.length≤6∧dA (mV p b i0 i1 first second) f++(if 0 < j then eE ln.fab first i0.fae else [])++(if 1 < j then eE ln.fab second i1.fae else [])=acc∧dA (mV p b i0 i1 first second) f++(if 0 < j+1 then eE ln.fab first i0.fae else [])++(if 1 < j+1 then eE ln.fab second i1.fae else [])=acc++eE ln.fab base im.fae∧acc.length≤100:=by
      rcases(show j=0∨j=1 by omega)with rfl|rfl
      ·exact⟨i0,first,dA (mV p b i0 i1 first second) f,rfl,rfl,hS0,by simp,by simp,by omega⟩
      ·exact⟨i1,second,dA (mV p b i0 i1 first second) f++eE ln.fab first i0.fae,rfl,rfl,hS1,by simp,by simp,by rw[List.length_append];omega⟩
     rw[hacc]
     have hjl:j < [i0.tr,i1.tr].length:=by simp;omega
     have hjb:j < [aa first,aa second].length:=by simp;omega
     have hsl:(im.fae.map Ge.tr).length=im.fae.length:=by simp
     obtain⟨hIm,hSet⟩:=EJ him hj
     have hjl2:j < [rIm i0,rIm i1].length:=by simp;omega
     have hfl:=Cm im.fae
     repeat' ((conv=>whnf);first|apply Wx|apply W6|apply oi|(apply fi<;>intro h)|refine⟨j,rfl,hjl2,?_⟩|refine⟨_,hIm,?_⟩|refine⟨_,rfl,?_⟩|exact rfl)
     all_goals try exact⟨KP⟩
     all_goals try exact KX
     all_goals try exact⟨hfl⟩
     conv=>whnf
     refine⟨{k:Nat // k≤im.fae.length},fun q=>⟨[(0,vP p),(5,.r (.c (.ptr (5,0,0) 0))),(8,.r (.c (.ptr (8,0,0) 0))),(10,.r (.c (.ptr (10,0,0) 0))),(38,.r (.c (.own (10,0,4)))),(39,tI .i64 (((an p).map fun n:Nat=>aa (n:Int)).length:Int)),(40,tI .i64 (f:Int)),(12,tI .i64 (g:Int)),(45,.r (.c (.own (10,0,1001)))),(46,tI .i64 2),(47,tI .i64 (j:Int)),(13,tI .i64 (j:Int)),(14,.r (.c (.ptr (14,0,0) 0))),(53,.r (.c (.own (53,0,0)))),(54,tI .i64 ((im.fae.map Ge.tr).length:Int)),(55,tI .i64 (q.1:Int))],[((5,0,0),some (.box (b.tr.map .t))),((8,0,0),some (.box [.nils 0,.nils 0,.nils 0])),((10,0,0),some (.box [.own (10,0,1001),.own (10,0,2),.own (10,0,3)])),((10,0,1001),some (.dar 2 [rIm i0,rIm i1] (some (j,1,(53,0,0))))),((53,0,0),some (.arr false 3 (im.fae.map Ge.tr))),((10,0,2),some (.arr true 1 [aa first,aa second])),((10,0,4),some (.arr true 1 ((an p).map fun n:Nat=>aa (n:Int)))),((10,0,3),some (.arr true 1 ((acc++eE ln.fab base (im.fae.take q.1)).map aa)))],[53,14,10,8,5,0]⟩,fun q=>im.fae.length - q.1,⟨0,by omega⟩,?_,?_⟩
     ·skip
      repeat' ((conv=>whnf);first|apply Wx|apply W6|apply oi|(apply fi<;>intro h)|refine⟨_,rfl,?_⟩|exact rfl)
      all_goals try exact⟨KP⟩
      all_goals try exact⟨by simp[yV]⟩
     intro⟨k,hk⟩
     dsimp only
     by_cases hkl:k < im.fae.length
     ·obtain⟨y,hy⟩:=ae hkl
      have hyt:(im.fae.map Ge.tr)[k]?=some y.tr:=ab hy
      have hht:=vp (nm:=ln.fab) (b:=base) hy
      have hkl3:k < (im.fae.map Ge.tr).length:=by omega
      have hhl:=iz ln.fab base (im.fae.take k)
      rw[List.length_take]at hhl
      cases hq:(y.fab==ln.fab)with
      | true=>
       rw[hq,if_pos rfl]at hht
       repeat' ((conv=>whnf);first|apply Wx|apply W6|apply oi|(apply fi<;>intro h)|refine⟨k,rfl,hkl3,?_⟩|refine⟨_,hyt,?_⟩|refine⟨g,ln.tr,rfl,ab hln,?_⟩|refine⟨j,rfl,hjb,?_⟩|refine⟨_,hbase,?_⟩|refine⟨_,rfl,?_⟩|exact rfl)
       all_goals try exact⟨KP⟩
       all_goals try exact KX
       all_goals try(exfalso;rw[hq]at h;cases h;done)
       all_goals try exact⟨⟨by simp <;> omega,by simp <;> omega⟩⟩
       conv=>whnf
       refine⟨⟨k+1,by omega⟩,?_,KD⟩
       repeat' ((conv=>whnf);first|apply Wx|apply W6|apply oi|(apply fi<;>intro h)|refine⟨_,rfl,?_⟩|exact rfl)
       all_goals try exact⟨KP⟩
       all_goals try exact⟨KW⟩
       all_goals exact⟨by dsimp only;rw[hht];simp[List.append_assoc,aa]⟩
      | false=>
       rw[hq,if_neg (by simp)]at hht
       repeat' ((conv=>whnf);first|apply Wx|apply W6|apply oi|(apply fi<;>intro h)|refine⟨k,rfl,hkl3,?_⟩|refine⟨_,hyt,?_⟩|refine⟨g,ln.tr,rfl,ab hln,?_⟩|refine⟨j,rfl,hjb,?_⟩|refine⟨_,hbase,?_⟩|refine⟨_,rfl,?_⟩|exact rfl)
       all_goals try exact⟨KP⟩
       all_goals try exact KX
       all_goals try(exfalso;rw[hq]at h;cases h;done)
       conv=>whnf
       refine⟨⟨k+1,by omega⟩,?_,KD⟩
       repeat' ((conv=>whnf);first|apply Wx|apply W6|apply oi|(apply fi<;>intro h)|refine⟨_,rfl,?_⟩|exact rfl)
       all_goals try exact⟨KP⟩
       all_goals try exact⟨KW⟩
       all_goals exact⟨by dsimp only;rw[hht,List.append_nil]⟩
     ·obtain rfl:k=im.fae.length:=by omega
      rw[List.take_of_length_le (Nat.le_refl _),←hnx]
      refine Ad (10,0,1001) ?_
      conv=>whnf
      refine⟨hfl,_,hIm,by omega,?_⟩
      conv=>whnf
      rw[hSet]
      repeat' ((conv=>whnf);first|apply Wx|apply W6|apply oi|(apply fi<;>intro h)|refine⟨_,rfl,?_⟩|exact rfl)
      all_goals try exact⟨KP⟩
      all_goals try exact KX
      conv=>whnf
      refine⟨⟨j+1,by omega⟩,?_,KD⟩
      repeat' ((conv=>whnf);first|apply Wx|apply W6|apply oi|(apply fi<;>intro h)|refine⟨_,rfl,?_⟩|exact rfl)
      all_goals try exact⟨KP⟩
      all_goals try exact⟨KW⟩
    ·obtain rfl:j=2:=by omega
     have hfin:dA (mV p b i0 i1 first second) f++(if 0 < 2 then eE ln.fab first i0.fae else [])++(if 1 < 2 then eE ln.fab second i1.fae else [])=dA (mV p b i0 i1 first second) (f+1):=by
      rw[if_pos (by decide),if_pos (by decide),List.append_assoc,←hes];rfl
     rw[hfin]
     repeat' ((conv=>whnf);first|apply Wx|apply W6|apply oi|(apply fi<;>intro h)|refine⟨_,rfl,?_⟩|exact rfl)
     all_goals try exact⟨KP⟩
     all_goals try exact KX
     conv=>whnf
     refine⟨⟨f+1,by omega⟩,?_,KD⟩
     repeat' ((conv=>whnf);first|apply Wx|apply W6|apply oi|(apply fi<;>intro h)|refine⟨_,rfl,?_⟩|exact rfl)
     all_goals try exact⟨KP⟩
     all_goals try exact⟨KW⟩
   ·obtain rfl:f=(an p).length:=by omega
    rw[hall]
    cases hso:gg cd with
    | true=>
     rw[hso]at hsp
     rw[if_pos rfl]
     rw[hcand]at hsp
     simp only[oSp,hcand]
     repeat' ((conv=>whnf);first|apply Wx|apply W6|apply oi|(apply fi<;>intro h)|refine cl hsp ?_|refine⟨_,rfl,?_⟩|exact rfl)
     all_goals try exact⟨KP⟩
     all_goals try exact KX
     all_goals first|exact⟨by rw[hcI];rfl⟩|exact⟨by rw[hcB];rfl⟩|exact⟨by rw[hcE]⟩
    | false=>
     rw[hso]at hsp
     rw[if_neg (by simp)]
     rw[hcand]at hsp
     repeat' ((conv=>whnf);first|apply Wx|apply W6|apply oi|(apply fi<;>intro h)|refine cl hsp ?_|refine⟨_,rfl,?_⟩|exact rfl)
     all_goals try exact⟨KP⟩
     all_goals try exact KX
theorem za {p:List FX}{b:FO}{first second:Int}(hs:ay 1048576 (.lst 4 (p.map FX.tr))):aw 1048576 (oSp (dQ p b first second)).tr:=by
 unfold dQ
 split
 ·rename_i h
  exact nQ hs (gA h.1).1
 ·simp[oSp,Gd.tr,aw,ay,dz]
end Go.Proofs.YtoglejgmjeojoaaGreat
