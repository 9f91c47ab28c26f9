import Derived.Test.YtoglejgmjeojoaaGreatGj
set_option maxRecDepth 100000
set_option maxHeartbeats 4000000
namespace Go.Proofs.P
open Go.Sim Tryz
def Cn (s:Mx)(a:Int):Int×Int:=if bF s then qO s a else(-1,-1)
theorem iE (s:Mx)(a:Int)(hs:az 1048576 s.tr):Sim.Spec prog 143 [.agg s.tr,tvI a] (HS (Cn s a)):=by
 have hS:=gJ s hs
 cases OI:bF s with
 | false=>
  rw[OI]at hS;rw[Cn,OI,b8 s_];refine ag hΓ aE func143 rfl d_ rfl ?_;repeat' ((conv=>whnf);first|refine Or.inl ?_|apply oi|apply fi|intro h|refine ci hS (ai (ai rfl (ai rfl (ai rfl trivial))) trivial) ?_|exact Y1|refine e_ rfl ?_)
  all_goals(exfalso;simp at h;done)
 | true=>
  rw[OI]at hS;obtain⟨i0,i1,b0,b1,OT,⟨e1,e2⟩,⟨g0,p0,p1⟩,⟨g1,q0,q1⟩,_,_⟩:=iJ OI;have l0:=(imageOk_iff.1 g0).1;have l1:=(imageOk_iff.1 g1).1;rw[Cn,OI,c7 rfl,OT,qO];obtain⟨im,bs,es⟩:=s;dsimp only at OT;injection OT with h1 h2;subst h1;subst h2;have hL:=ij i0 i1 b0 b1 a es o_ o_ o_ o_;refine ag hΓ aE func143 rfl d_ rfl ?_;repeat' ((conv=>whnf);first|refine Or.inl ?_|apply oi|apply fi|intro h|refine ci hS (ai (ai rfl (ai rfl (ai rfl trivial))) trivial) ?_|refine ci hL (ai (ai rfl (ai rfl (ai rfl trivial))) (ai rfl trivial)) ?_|exact Y1|refine e_ rfl ?_)
  all_goals(exfalso;simp at h;done)
theorem V29{p:Prop}(h:p:=by
 rw[Og];repeat' ((conv=>whnf);first|refine Or.inl ?_|apply oi|apply fi|intro h|refine ci hL (ai (ai rfl (ai rfl (ai rfl trivial))) (ai rfl trivial)) ?_|exact Y1|refine e_ rfl ?_)
 all_goals try(exfalso;first|(simp at h;done)|(rw[M0,c3]at h;simp at h;done)|(have h':=d9 h;omega)|(have h':=e8 h;omega))):p:=h
theorem Q3{p:Prop}(h:p:=by exfalso;first|(simp at h;done)|(rw[M0,c3]at h;simp at h;done)|(have h':=d9 h;omega)|(have h':=e8 h;omega)|(rw[NF]at h;simp at h;first|done|fail)):p:=h
theorem V1{p:Prop}(h:p:=by
 rw[TQ];have QG:=gv rl off
 generalize bJ rl off=K at *
 rcases QG with rfl|⟨M5,k0,k1⟩
 ·rw[c7 d_];repeat' ((conv=>whnf);first|refine Or.inl ?_|apply oi|apply fi|intro h|refine ci hL (ai (ai rfl (ai rfl (ai rfl trivial))) (ai rfl trivial)) ?_|refine ci hV (ai (ai rfl (ai rfl (ai rfl (ai rfl trivial)))) trivial) ?_|refine⟨i,(bc 4 Mw.tr rl),rfl,ab NH,?_⟩|refine ci hF (ai rfl (ai rfl trivial)) ?_|exact Y1|refine e_ rfl ?_)
  all_goals try(exfalso;first|(simp at h;done)|(rw[M0,c3]at h;simp at h;done)|(have h':=d9 h;omega)|(have h':=e8 h;omega))
 ·obtain⟨k,rfl⟩:=gt k0;obtain⟨r,N1⟩:=ae (l:=rl) (k:=k) o_;rw[b8 o_,d6,N1];dsimp only;have Xy:=gG (u4 0) M5 r (c9 N1);unfold lg at Xy;unfold fq
  cases NF:r.MP with
  | false=>
   have w1:IntKind.i64.wrap (v.J6+r.MG)=v.J6+r.MG:=c6 _ o_;have hW:=eI v (v.J6+r.MG);rw[b8 s_]
   match hwo:bZ v (v.J6+r.MG)with
   | none=>
    rw[hwo]at hW;repeat' ((conv=>whnf);first|refine Or.inl ?_|apply oi|apply fi|intro h|refine ci hL (ai (ai rfl (ai rfl (ai rfl trivial))) (ai rfl trivial)) ?_|refine ci hV (ai (ai rfl (ai rfl (ai rfl (ai rfl trivial)))) trivial) ?_|refine⟨i,(bc 4 Mw.tr rl),rfl,ab NH,?_⟩|refine ci hF (ai rfl (ai rfl trivial)) ?_|refine⟨k,r.tr,rfl,ab N1,?_⟩|refine ci hW (ai (ai rfl (ai rfl (ai rfl (ai rfl trivial)))) (ai KW trivial)) ?_|exact Y1|refine e_ rfl ?_)
    all_goals try exact Q3
   | some pc=>
    rw[hwo]at hW;have hin:=bG hwo;obtain⟨n,hn⟩:=gt (show 0<=v.J6+r.MG+1-v.J6 by omega)
    have hd:(cR v pc (v.J6+r.MG+1) v.L4).MB.map aa=((v.MB.map aa).take (v.MB.map aa).length).drop n:=by rw[D4,cR,hn,d6,A1]
    have w2:v.J6=v.J6:=rfl;have Rh:IntKind.i64.wrap (IntKind.i64.wrap (v.J6+r.MG)+1)=v.J6+r.MG+1:=(by rw[w1,c6 _ o_]);repeat' ((conv=>whnf);first|refine aB ?_|apply au|apply oi|apply fi|intro h|refine cl hL ?_|refine cl hV ?_|refine⟨i,(bc 4 Mw.tr rl),rfl,ab NH,?_⟩|refine cl hF ?_|refine⟨k,r.tr,rfl,ab N1,?_⟩|refine .inl (ci hW (ai (ai rfl (ai rfl (ai rfl (ai rfl trivial)))) (ai KW trivial)) ?_)|exact Y1|refine e_ rfl ?_)
    all_goals try exact Q3
    conv=>whnf
    refine⟨n,(v.MB.map aa).length,?_,rfl,by simp;omega,d8 _,?_⟩
    ·show IntKind.i64.wrap (IntKind.i64.wrap (IntKind.i64.wrap (v.J6+r.MG)+1)-v.J6)=(n:Int);rw[Rh,c6 _ o_];omega
    repeat' ((conv=>whnf);first|refine Or.inl ?_|apply oi|apply fi|intro h|exact Y1|refine e_ rfl ?_)
    all_goals try exact⟨congrArg (Tr.int _) Rh⟩
    all_goals try exact⟨hd.symm⟩
    all_goals try exact Q11
    all_goals try exact Q24
  | true=>
   rw[c7 rfl];have QI:=eI v v.L4
   match hwo:bZ v v.L4 with
   | none=>
    rw[hwo]at QI;repeat' ((conv=>whnf);first|refine Or.inl ?_|apply oi|apply fi|intro h|refine ci hL (ai (ai rfl (ai rfl (ai rfl trivial))) (ai rfl trivial)) ?_|refine ci hV (ai (ai rfl (ai rfl (ai rfl (ai rfl trivial)))) trivial) ?_|refine⟨i,(bc 4 Mw.tr rl),rfl,ab NH,?_⟩|refine ci hF (ai rfl (ai rfl trivial)) ?_|refine⟨k,r.tr,rfl,ab N1,?_⟩|refine ci QI (ai (ai rfl (ai rfl (ai rfl (ai rfl trivial)))) (ai rfl trivial)) ?_|exact Y1|refine e_ rfl ?_)
    all_goals try exact Q3
   | some f=>
    rw[hwo]at QI;have hin:=bG hwo;have w2:IntKind.i64.wrap (v.L4+1)=v.L4+1:=c6 _ o_;have Qt:=eI v (v.L4+1)
    match hwo2:bZ v (v.L4+1)with
    | none=>
     rw[hwo2]at Qt;repeat' ((conv=>whnf);first|refine Or.inl ?_|apply oi|apply fi|intro h|refine ci hL (ai (ai rfl (ai rfl (ai rfl trivial))) (ai rfl trivial)) ?_|refine ci hV (ai (ai rfl (ai rfl (ai rfl (ai rfl trivial)))) trivial) ?_|refine⟨i,(bc 4 Mw.tr rl),rfl,ab NH,?_⟩|refine ci hF (ai rfl (ai rfl trivial)) ?_|refine⟨k,r.tr,rfl,ab N1,?_⟩|refine ci QI (ai (ai rfl (ai rfl (ai rfl (ai rfl trivial)))) (ai rfl trivial)) ?_|refine ci Qt (ai (ai rfl (ai rfl (ai rfl (ai rfl trivial)))) (ai KW trivial)) ?_|exact Y1|refine e_ rfl ?_)
     all_goals try exact Q3
    | some pc=>
     rw[hwo2]at Qt;have Qe:=bG hwo2;obtain⟨n,hn⟩:=gt (show 0<=v.L4+2-v.J6 by omega)
     have hd:(cR v pc (v.L4+2) f).MB.map aa=((v.MB.map aa).take (v.MB.map aa).length).drop n:=by rw[D4,cR,hn,d6,A1]
     have Rh:IntKind.i64.wrap (IntKind.i64.wrap (v.L4+1)+1)=v.L4+2:=(by rw[w2,c6 _ o_];omega);repeat' ((conv=>whnf);first|refine aB ?_|apply au|apply oi|apply fi|intro h|refine cl hL ?_|refine cl hV ?_|refine⟨i,(bc 4 Mw.tr rl),rfl,ab NH,?_⟩|refine cl hF ?_|refine⟨k,r.tr,rfl,ab N1,?_⟩|refine cl QI ?_|refine .inl (ci Qt (ai (ai rfl (ai rfl (ai rfl (ai rfl trivial)))) (ai KW trivial)) ?_)|exact Y1|refine e_ rfl ?_)
     all_goals try exact Q3
     conv=>whnf
     refine⟨n,(v.MB.map aa).length,?_,rfl,by simp;omega,d8 _,?_⟩
     ·show IntKind.i64.wrap (IntKind.i64.wrap (IntKind.i64.wrap (v.L4+1)+1)-v.J6)=(n:Int);rw[Rh,c6 _ o_];omega
     repeat' ((conv=>whnf);first|refine Or.inl ?_|apply oi|apply fi|intro h|exact Y1|refine e_ rfl ?_)
     all_goals try exact⟨congrArg (Tr.int _) Rh⟩
     all_goals try exact⟨hd.symm⟩
     all_goals try exact Q11
     all_goals try exact⟨⟨rfl,bh _⟩⟩):p:=h
theorem qY (s:Mx)(rules:List (List Mw))(v:MA)(inner:Bool)(Nt:inI v.L3)(hs:az 1048576 s.tr)(hr:ao 1048576 (.lst 1 (rules.map (bc 4 Mw.tr))))(hv:az 1048576 v.tr):Sim.Spec prog 71 [.agg s.tr,tvL 1 (rules.map (bc 4 Mw.tr)),.agg v.tr,tvB inner] (.tup [.agg ((oV (aQ s rules v inner)).tr.map oS),.c (.t (.bool (aQ s rules v inner).isSome))]):=by
 have hV:=oG v;have N7:=bi hr;have M0:(rules.map (bc 4 Mw.tr)).length=rules.length:=s_;have SU:v.MB.length<=1048576:=by have:=hv;simp only[MA.tr,az]at this;exact bi this.2.2.2.1
 by_cases hc:bF s=true/\cw v=true/\rules.length=2
 ·obtain⟨c1,c2,c3⟩:=hc;rw[c2]at hV;obtain⟨i0,i1,b0,b1,OT,⟨e1,e2⟩,⟨g0,p0,p1⟩,⟨g1,q0,q1⟩,_,_⟩:=iJ c1;have l0:=(imageOk_iff.1 g0).1;have l1:=(imageOk_iff.1 g1).1;have WM:=viewOk_iff.1 c2
  have NR:∀a,Cn s a=cM i0 i1 b0 b1 a:=by intro a;rw[Cn,c1,c7 rfl,OT,qO]
  have hu:aQ s rules v inner=(match dg rules (cM i0 i1 b0 b1 (if inner then v.L3 else v.L3-1))with|some r=>fq v r|none=>none):=by rw[aQ,c7 ⟨c1,c2,c3⟩,OT];rfl
  rw[hu];refine ag hΓ aE func71 rfl d_ rfl ?_
  cases inner with
  | true=>
   rw[c7 rfl];have hL:=iE s v.L3 hs;rw[NR]at hL;rcases jB i0 i1 b0 b1 v.L3 with hx|⟨i,off,hi,hx⟩
   ·rw[hx]at hL;have Og:dg rules (cM i0 i1 b0 b1 v.L3)=none:=(by rw[hx,dg,c7 d_]);exact V29
   ·rw[hx]at hL;obtain⟨rl,NH⟩:=uw c3 hi;have O3:=aZ hr (c9 NH);simp only[bc,az]at O3;have hF:=lU rl off (bi O3.1)
    have TQ:dg rules (cM i0 i1 b0 b1 v.L3)=if bJ rl off<0 then none else rl[(bJ rl off).toNat]?:=by rw[hx,dg,b8 g_,d6,NH]
    exact V1
  | false=>
   rw[b8 s_];by_cases hp:0<v.L3
   ·have hwp:IntKind.i64.wrap (v.L3-1)=v.L3-1:=c6 _ (by unfold inI at Nt;omega);have hL:=iE s (IntKind.i64.wrap (v.L3-1)) hs;rw[NR]at hL
    have hL:Sim.Spec prog 143 [.agg s.tr,tvI (IntKind.i64.wrap (v.L3-1))] (HS (cM i0 i1 b0 b1 (v.L3-1))):=by rw[show cM i0 i1 b0 b1 (v.L3-1)=cM i0 i1 b0 b1 (IntKind.i64.wrap (v.L3-1)) from by rw[hwp]];exact hL
    have hb:decide (v.L3>0)=true:=q7 hp;rcases jB i0 i1 b0 b1 (v.L3-1)with hx|⟨i,off,hi,hx⟩
    ·rw[hx]at hL;have Og:dg rules (cM i0 i1 b0 b1 (v.L3-1))=none:=(by rw[hx,dg,c7 d_]);exact V29
    ·rw[hx]at hL;obtain⟨rl,NH⟩:=uw c3 hi;have O3:=aZ hr (c9 NH);simp only[bc,az]at O3;have hF:=lU rl off (bi O3.1)
     have TQ:dg rules (cM i0 i1 b0 b1 (v.L3-1))=if bJ rl off<0 then none else rl[(bJ rl off).toNat]?:=by rw[hx,dg,b8 g_,d6,NH]
     exact V1
   ·have hL:=iE s v.L3 hs;have hb:decide (v.L3>0)=false:=B6 hp;rw[NR,qS ⟨p0,p1⟩ ⟨q0,q1⟩ o_ o_ (.inl o_)]at hL;have Og:dg rules (cM i0 i1 b0 b1 (v.L3-1))=none:=(by rw[qS ⟨p0,p1⟩ ⟨q0,q1⟩ o_ o_ (.inl o_),dg,c7 d_]);rw[Og];repeat' ((conv=>whnf);first|refine Or.inl ?_|apply oi|apply fi|intro h|refine ci hL (ai (ai rfl (ai rfl (ai rfl trivial))) (ai rfl trivial)) ?_|exact Y1|refine e_ rfl ?_)
    all_goals try(exfalso;first|(simp at h;done)|(have h':=d9 h;omega)|(rename_i a1;have h':=d9 a1;omega))
 ·rw[Ah hc];refine ag hΓ aE func71 rfl d_ rfl ?_;have Wl:∀a,Sim.Spec prog 143 [.agg s.tr,tvI a] (HS (Cn s a)):=fun a=>iE s a hs
  cases OI:bF s with
  | false=>
   have hl:∀a,Cn s a=(-1,-1):=(by intro a;rw[Cn,OI,b8 s_]);simp only[hl]at Wl;repeat' ((conv=>whnf);first|refine Or.inl ?_|apply oi|apply fi|intro h|refine ci (Wl _) (ai (ai rfl (ai rfl (ai rfl trivial))) (ai rfl trivial)) ?_|exact Y1|refine e_ rfl ?_)
   all_goals try exact Q5
  | true=>
   have hre:rules.length=2->cw v=false:=by
    intro h2
    cases Vj:cw v with|false=>rfl|true=>exact absurd ⟨OI,Vj,h2⟩ hc
   by_cases h2:rules.length=2
   ·rw[hre h2]at hV;repeat' ((conv=>whnf);first|refine Or.inl ?_|apply oi|apply fi|intro h|refine ci (Wl _) (ai (ai rfl (ai rfl (ai rfl trivial))) (ai rfl trivial)) ?_|refine ci hV (ai (ai rfl (ai rfl (ai rfl (ai rfl trivial)))) trivial) ?_|exact Y1|refine e_ rfl ?_)
    all_goals try(exfalso;first|(simp at h;done)|(rw[M0,h2]at h;simp at h;done))
   ·have M9:(((rules.map (bc 4 Mw.tr)).length:Int) !=2)=true:=by rw[M0,bne_iff_ne];intro h3;exact h2 o_
    repeat' ((conv=>whnf);first|refine Or.inl ?_|apply oi|apply fi|intro h|refine ci (Wl _) (ai (ai rfl (ai rfl (ai rfl trivial))) (ai rfl trivial)) ?_|refine ci hV (ai (ai rfl (ai rfl (ai rfl (ai rfl trivial)))) trivial) ?_|exact Y1|refine e_ rfl ?_)
    all_goals try(exfalso;first|(simp at h;done)|(rename_i a1;first|(rw[M9]at a1;cases a1)|(rw[M9]at h;cases h)))
theorem sZ {v:MA}{pc sp fp:Int}(hw:∀x∈v.MB,inI x)(Nt:inI pc)(hs:v.MB.length<=1048576):inI (cR v pc sp fp).L3/\(∀x∈(cR v pc sp fp).MB,inI x)/\(cR v pc sp fp).MB.length<=1048576:=by refine⟨Nt,fun x hx=>hw x (z7 hx),?_⟩;show(v.MB.drop _).length<=_;rw[r7];omega
theorem wz {v:MA}{a x:Int}(h:bZ v a=some x):x∈v.MB:=by
 unfold bZ at h;split at h
 ·exact c9 h
 ·cases h
theorem tL {s:Mx}{rules:List (List Mw)}{v x:MA}{inner:Bool}(hw:∀x∈v.MB,inI x)(hs:v.MB.length<=1048576)(h:aQ s rules v inner=some x):inI x.L3/\(∀y∈x.MB,inI y)/\x.MB.length<=1048576:=by
 unfold aQ at h;split at h
 ·split at h
  ·unfold fq at h;split at h
   ·split at h
    ·rename_i f pc e1 e2;injection h with h;subst h;exact sZ hw (hw _ (wz e2)) hs
    ·cases h
   ·split at h
    ·rename_i pc e1;injection h with h;subst h;exact sZ hw (hw _ (wz e1)) hs
    ·cases h
  ·cases h
 ·cases h
theorem tR {v:MA}(h:v.MB.length<=1048576):az 1048576 v.tr:=by simp only[MA.tr,az];exact⟨by simp[ao],by simp[ao],by simp[ao],lw h,trivial⟩
def jU (s:Mx)(rules:List (List Mw)):Nat->MA->Bool->List Int×Bool
 | 0,_,_=>([],false)
 | k+1,v,inner=>(match aQ s rules v inner with
   | none=>([],false)
   | some x=>if x.L3=0 then([],true)else(x.L3::(jU s rules k x false).1,(jU s rules k x false).2))
def fu (s:Mx)(rules:List (List Mw))(v:MA):List Int×Bool:=(v.L3::(jU s rules 39 v true).1,(jU s rules 39 v true).2)
structure UnIx (s:Mx) (rules:List (List Mw)) (R:List Int×Bool) where
 k:Nat
 x:MA
 acc:List Int
 first:Bool
 hk:acc.length+k=40
 hk1:1<=acc.length
 h1:acc.length=1↔first=true
 h2:inI x.L3/\(∀y∈x.MB,inI y)/\x.MB.length<=1048576
 hr:acc++(jU s rules k x first).1=R.1/\(jU s rules k x first).2=R.2
theorem V101{p:Prop}(h:p:=by
 rw[NA]
 cases first with
 | true=>simp[h1.2 rfl]
 | false=>
  have:acc.length≠1:=fun e=>by have:=h1.1 e;cases this
  simp;omega):p:=h
theorem V34{p:Prop}(h:p:=by
 rw[jU,m7]at N1;obtain⟨r1,r2⟩:=N1;subst r1
 cases first
 all_goals
  repeat' ((conv=>whnf);first|refine Or.inl ?_|apply oi|apply fi|intro h|exact Y1|refine e_ rfl ?_)
  all_goals try(exfalso;have h':=d9 h;rw[NA]at h';omega)
  all_goals try exact⟨congrArg Tr.bool r2⟩):p:=h
theorem V17{p:Prop}(h:p:=by
 rw[jU,hx]at N1;dsimp only at N1;rw[m7]at N1;obtain⟨r1,r2⟩:=N1;subst r1;rw[hx]at hU
 cases first
 all_goals
  repeat' ((conv=>whnf);first|refine Or.inl ?_|apply oi|apply fi|intro h|refine ci hU (ai (ai rfl (ai rfl (ai rfl trivial))) (ai rfl (ai (ai rfl (ai rfl (ai rfl (ai rfl trivial)))) (ai rfl trivial)))) ?_|exact Y1|refine e_ rfl ?_)
  all_goals try(exfalso;first|(simp at h;done)|(have h':=e8 h;rw[NA]at h';omega))
  all_goals try exact⟨congrArg Tr.bool r2⟩):p:=h
theorem V4{p:Prop}(h:p:=by
 have hg:=tL h2.2.1 h2.2.2 hx;rw[jU,hx]at N1;dsimp only at N1;rw[hx]at hU;by_cases h0:nx.L3=0
 ·rw[c7 h0,m7]at N1;obtain⟨r1,r2⟩:=N1;subst r1
  cases first
  all_goals
   repeat' ((conv=>whnf);first|refine Or.inl ?_|apply oi|apply fi|intro h|refine ci hU (ai (ai rfl (ai rfl (ai rfl trivial))) (ai rfl (ai (ai rfl (ai rfl (ai rfl (ai rfl trivial)))) (ai rfl trivial)))) ?_|exact Y1|refine e_ rfl ?_)
   all_goals try(exfalso;first|(simp at h;done)|(have h':=e8 h;rw[NA]at h';omega)|(have h':(nx.L3==0)=false:=h;rw[h0]at h';simp at h'))
   all_goals try exact⟨congrArg Tr.bool r2⟩
 ·rw[b8 h0]at N1
  cases first
  all_goals
   repeat' ((conv=>whnf);first|refine Or.inl ?_|apply oi|apply fi|intro h|refine ci hU (ai (ai rfl (ai rfl (ai rfl trivial))) (ai rfl (ai (ai rfl (ai rfl (ai rfl (ai rfl trivial)))) (ai rfl trivial)))) ?_|exact Y1|refine e_ rfl ?_)
   all_goals try(exfalso;first|(simp at h;done)|(have h':=e8 h;rw[NA]at h';omega)|(have h':(nx.L3==0)=true:=h;exact h0 (by simpa using h')))
   all_goals try(refine⟨?_⟩;simp only[e7,d5,i9];exact⟨o_,o_⟩)
   all_goals conv=>whnf
   all_goals refine⟨⟨k,nx,acc++[nx.L3],false,by simp;omega,s_,⟨fun e=>by rw[c8,d5,i9]at e;omega,fun e=>by cases e⟩,hg,by rw[j9];exact N1⟩,?_,KD⟩
   repeat' ((conv=>whnf);first|refine Or.inl ?_|apply oi|apply fi|intro h|exact Y1|refine e_ rfl ?_)
   all_goals try(refine⟨?_⟩;dsimp only;rw[u5];rfl)):p:=h
theorem oC (s:Mx)(rules:List (List Mw))(v:MA)(hv:v.wf)(hs:az 1048576 s.tr)(hr:ao 1048576 (.lst 1 (rules.map (bc 4 Mw.tr))))(OU:az 1048576 v.tr):Sim.Spec prog 14 [.agg s.tr,tvL 1 (rules.map (bc 4 Mw.tr)),.agg v.tr] (.tup [.c (.arr 1 ((fu s rules v).1.map aa)),.c (.t (.bool (fu s rules v).2))]):=by
 refine ag hΓ aE func14 rfl d_ rfl ?_;have SU:v.MB.length<=1048576:=by have:=OU;simp only[MA.tr,az]at this;exact bi this.2.2.2.1
 obtain⟨R,hR⟩:∃R,fu s rules v=R:=⟨_,rfl⟩;rw[hR];unfold fu at hR;repeat' ((conv=>whnf);first|refine Or.inl ?_|apply oi|apply fi|intro h|exact Y1|refine e_ rfl ?_)
 conv=>whnf
 refine⟨UnIx s rules R,fun q=>match q.first with
  | true=>⟨[(1,.r (.c (.t (.lst 1 (rules.map (bc 4 Mw.tr)))))),(3,.r (.c (.ptr (3,0,0) 0))),(5,.r (.c (.ptr (5,0,0) 0))),(8,.r (.c (.own (8,0,1))))],[((8,0,1),some (.arr true 1 (q.acc.map aa))),((5,0,0),some (.box [.t (.int .i64 q.x.L3),.t (.int .i64 q.x.J6),.t (.int .i64 q.x.L4),.t (.lst 1 (q.x.MB.map aa))])),((3,0,0),some (.box (s.tr.map .t)))],[13,5,3,8]⟩
  | false=>⟨[(1,.r (.c (.t (.lst 1 (rules.map (bc 4 Mw.tr)))))),(3,.r (.c (.ptr (3,0,0) 0))),(5,.r (.c (.ptr (5,0,0) 0))),(8,.r (.c (.own (8,0,1))))],[((8,0,1),some (.arr true 1 (q.acc.map aa))),((5,0,0),some (.box [.t (.int .i64 q.x.L3),.t (.int .i64 q.x.J6),.t (.int .i64 q.x.L4),.own (5,0,1)])),((5,0,1),some (.arr true 1 (q.x.MB.map aa))),((3,0,0),some (.box (s.tr.map .t)))],[13,5,3,8]⟩,
  fun q=>q.k,⟨39,v,[v.L3],true,rfl,s_,s_,⟨hv.1,hv.2.2.2.2,SU⟩,by rw[<-hR];exact⟨rfl,rfl⟩⟩,?_,?_⟩
 ·exact Z1
 intro⟨k,x,acc,first,hk,hk1,h1,h2,T7⟩;have N1:=T7;have NA:(acc.map aa).length=acc.length:=s_
 have hin:(((acc.map aa).length:Int)==1)=first:=by exact V101
 have hU:Sim.Spec prog 66 [.agg s.tr,tvL 1 (rules.map (bc 4 Mw.tr)),.agg x.tr,tvB (((acc.map aa).length:Int)==1)] (.tup [.agg ((oV (aQ s rules x first)).tr.map oS),.c (.t (.bool (aQ s rules x first).isSome))]):=by rw[hin];exact pV s rules x first h2.1 hs hr (tR h2.2.2)
 cases k with
 | zero=>exact V34
 | succ k=>
  match hx:aQ s rules x first with
  | none=>exact V17
  | some nx=>exact V4
theorem xF (s:Mx)(rules:List (List Mw))(v:MA)(hv:v.wf)(hs:az 1048576 s.tr)(hr:ao 1048576 (.lst 1 (rules.map (bc 4 Mw.tr))))(OU:az 1048576 v.tr):Sim.Spec prog 20 [.agg s.tr,tvL 1 (rules.map (bc 4 Mw.tr)),.agg v.tr] (.tup [.c (.arr 1 ((fu s rules v).1.map aa)),.c (.t (.bool (fu s rules v).2))]):=by
 refine ag hΓ aE func20 rfl d_ rfl ?_;have SU:v.MB.length<=1048576:=by have:=OU;simp only[MA.tr,az]at this;exact bi this.2.2.2.1
 obtain⟨R,hR⟩:∃R,fu s rules v=R:=⟨_,rfl⟩;rw[hR];unfold fu at hR;repeat' ((conv=>whnf);first|refine Or.inl ?_|apply oi|apply fi|intro h|exact Y1|refine e_ rfl ?_)
 conv=>whnf
 refine⟨UnIx s rules R,fun q=>match q.first with
  | true=>⟨[(1,.r (.c (.t (.lst 1 (rules.map (bc 4 Mw.tr)))))),(3,.r (.c (.ptr (3,0,0) 0))),(5,.r (.c (.ptr (5,0,0) 0))),(8,.r (.c (.own (8,0,1))))],[((8,0,1),some (.arr true 1 (q.acc.map aa))),((5,0,0),some (.box [.t (.int .i64 q.x.L3),.t (.int .i64 q.x.J6),.t (.int .i64 q.x.L4),.t (.lst 1 (q.x.MB.map aa))])),((3,0,0),some (.box (s.tr.map .t)))],[13,5,3,8]⟩
  | false=>⟨[(1,.r (.c (.t (.lst 1 (rules.map (bc 4 Mw.tr)))))),(3,.r (.c (.ptr (3,0,0) 0))),(5,.r (.c (.ptr (5,0,0) 0))),(8,.r (.c (.own (8,0,1))))],[((8,0,1),some (.arr true 1 (q.acc.map aa))),((5,0,0),some (.box [.t (.int .i64 q.x.L3),.t (.int .i64 q.x.J6),.t (.int .i64 q.x.L4),.own (5,0,1)])),((5,0,1),some (.arr true 1 (q.x.MB.map aa))),((3,0,0),some (.box (s.tr.map .t)))],[13,5,3,8]⟩,
  fun q=>q.k,⟨39,v,[v.L3],true,rfl,s_,s_,⟨hv.1,hv.2.2.2.2,SU⟩,by rw[<-hR];exact⟨rfl,rfl⟩⟩,?_,?_⟩
 ·exact Z1
 intro⟨k,x,acc,first,hk,hk1,h1,h2,T7⟩;have N1:=T7;have NA:(acc.map aa).length=acc.length:=s_
 have hin:(((acc.map aa).length:Int)==1)=first:=by exact V101
 have hU:Sim.Spec prog 71 [.agg s.tr,tvL 1 (rules.map (bc 4 Mw.tr)),.agg x.tr,tvB (((acc.map aa).length:Int)==1)] (.tup [.agg ((oV (aQ s rules x first)).tr.map oS),.c (.t (.bool (aQ s rules x first).isSome))]):=by rw[hin];exact qY s rules x first h2.1 hs hr (tR h2.2.2)
 cases k with
 | zero=>exact V34
 | succ k=>
  match hx:aQ s rules x first with
  | none=>exact V17
  | some nx=>exact V4
noncomputable section
def dt (m:Mr)(pc sp fp:Int):MA:=⟨pc,sp,fp,m.MH.drop sp.toNat⟩
theorem yA {m:Mr}{pc sp fp:Int}(hl:m.MH.length=1200)(h0:0<=sp)(h1:sp<=1200):cw (dt m pc sp fp)=true:=by rw[viewOk_iff];unfold dt;dsimp only;rw[r7,hl];omega
theorem nD {m:Mr}{pc sp fp a:Int}(hl:m.MH.length=1200)(h0:0<=sp)(h1:sp<=a)(h2:a<1200):bZ (dt m pc sp fp) a=some (aM m a):=by
 unfold bZ
 rw[c7 ⟨yA hl h0 o_,by
  rw[within_iff];unfold dt;dsimp only;rw[r7,hl];omega⟩]
 unfold dt aM;dsimp only;rw[v3,show sp.toNat+(a-sp).toNat=a.toNat by omega];obtain⟨x,hx⟩:=ae (l:=m.MH) (k:=a.toNat) o_;rw[hx]
theorem qu {m:Mr}{pc sp fp Yh Pq Uf:Int}(h0:0<=sp)(h1:sp<=Pq):cR (dt m pc sp fp) Yh Pq Uf=dt m Yh Pq Uf:=by unfold cR dt;dsimp only;rw[F4,show sp.toNat+(Pq-sp).toNat=Pq.toNat by omega]
section
variable {p:List Mq} {b:Mi} {first second:Int} {S:Sy p b}
theorem V66{p:Prop}(h:p:=by
 have a:=lQ h hi.lt hi.get;have a1:=a.rng;have a2:=a.next;have a3:=a.size;refine⟨⟨fun e=>o_,fun e=>by cases e⟩,fun x hx=>?_⟩;rcases d7.1 hx with rfl|hx
 ·omega
 ·exact ih.2 x hx):p:=h
theorem AS (h:SpOk p b first second){W:Int->Int}{n r sp fp:Int}{R:List Int}(hc:Cal S first second W n r sp fp R):(r=0↔R=[])/\(∀x∈R,x≠0):=by
 induction hc with
 | done=>simp
 | less hi hc hn hr hf h0 hin next ih=>exact V66
 | fram hi hc hn hr hf h0 Ov hin next ih=>exact V66
theorem uW (h:SpOk p b first second){m:Mr}(hl:m.MH.length=1200){f i:Nat}{it:Mp}{d:Int}{R:List Int}{pc sp fp:Int}{inner:Bool}(hI:ItA S f i it d)(hB:Body S first second (aM m) f i d sp fp R)(hs:0<=sp)
  (h1:adr p b first second f i<=(if inner then pc else pc-1)) (h2:(if inner then pc else pc-1)<adr p b first second f (i+1)):
  ∃n r Pq Uf,aQ (aP p b first second) (fR p b) (dt m pc sp fp) inner=some (dt m r Pq Uf)/\0<=Pq/\Cal S first second (aM m) n r Pq Uf R:=by
 obtain⟨r,hr,NF,T5⟩:=(lQ h hI.lt hI.get).rule _ h1 h2;have M1:=hI.op
 have NY:sp<=1200/\0<=d:=by
  have hw:=S.w f hI.lt
  have hd:0<=d:=by
   rcases v4 i with e|e
   ·have:=M1.lo.1 e;omega
   ·have:=M1.lo.2 e;omega
  obtain⟨_,hB⟩:=hB;split at hB<;>omega
 have NX:aQ (aP p b first second) (fR p b) (dt m pc sp fp) inner=fq (dt m pc sp fp) r:=by unfold aQ;rw[c7 ⟨h.space,yA hl hs NY.1,rfl⟩];rw[show(if inner=true then(dt m pc sp fp).L3 else(dt m pc sp fp).L3-1)=(if inner=true then pc else pc-1) from rfl,hr]
 rw[NX];unfold fq;rw[NF,M1.ent,T5,M1.dep];obtain⟨_,hB⟩:=hB;by_cases hf:(S.C f).K0=true/\0<i
 ·rw[c7 hf]at hB;obtain⟨b1,b2,b3⟩:=hB;rw[c7 (by rw[hf.1];simpa using hf.2)];rw[show(dt m pc sp fp).L4=fp from rfl,nD hl hs o_ o_,nD hl hs o_ o_];dsimp only;rw[qu hs o_];exact⟨_,_,_,_,rfl,o_,b3⟩
 ·rw[b8 hf]at hB;obtain⟨b1,b2⟩:=hB
  rw[b8 (by
   intro hc;rw[b9,j6]at hc
   exact hf hc),b8 hf]
  rw[show(dt m pc sp fp).J6=sp from rfl,nD hl hs o_ o_];dsimp only;rw[qu hs o_];exact⟨_,_,_,_,rfl,o_,b2⟩
theorem V93{p:Prop}(h:p:=by
 obtain⟨_,_,_,_,R'',rfl,_⟩:=h3.back ND;refine Prod.ext s_ (decide_eq_decide.2 ?_);simp only[List.tail_cons,d5]
 omega):p:=h
theorem AH (h:SpOk p b first second){m:Mr}(hl:m.MH.length=1200):∀(k:Nat) {n r sp fp:Int} {R:List Int},Cal S first second (aM m) n r sp fp R->r≠0->0<=sp->
  jU (aP p b first second) (fR p b) k (dt m r sp fp) false=(R.tail.take k,decide (R.tail.length<k))
 | 0,n,r,sp,fp,R,hc,hr,hs=>by simp[jU]
 | k+1,n,r,sp,fp,R,hc,hr,hs=>by
  obtain⟨f,j,it,d,R',rfl,hI,_,_,TQ,hB⟩:=hc.back hr;have a:=lQ h hI.lt hI.get;have a2:=a.next;have a3:=a.size;obtain⟨n2,r2,sp2,fp2,h1,h2,h3⟩:=uW (pc:=r) (inner:=false) h hl hI hB hs (by rw[b8 s_];omega) (by rw[b8 s_];omega);rw[jU,h1];dsimp only;have hz:=AS h h3;rw[show(dt m r2 sp2 fp2).L3=r2 from rfl];by_cases ND:r2=0
  ·rw[c7 ND,(hz.1.1 ND)];simp
  ·rw[b8 ND,AH h hl k h3 ND h2];exact V93
theorem Dn (h:SpOk p b first second){m:Mr}{R:List Int}(M5:bN m=true)(hc:Cur S first second m R):fu (aP p b first second) (fR p b) (bq m 1200)=(m.L3::R.take 39,decide (R.length<39)):=by
 obtain⟨hl,NY,_⟩:=machineOk_iff.1 M5;obtain⟨f,i,it,d,hI,Nt,hB⟩:=hc
 have hv:bq m 1200=dt m m.L3 m.J6 m.L4:=by rw[bq,c7 ⟨M5,o_⟩,dt,i7 (by rw[r7,hl];omega)]
 have a:=lQ h hI.lt hI.get;have a2:=a.next;have a3:=a.size;obtain⟨n2,r2,sp2,fp2,h1,h2,h3⟩:=uW (pc:=m.L3) (inner:=true) h hl hI hB NY.1 (by rw[c7 rfl];omega) (by rw[c7 rfl];omega);have hz:=AS h h3;rw[hv];unfold fu;rw[jU,h1];dsimp only;rw[show(dt m r2 sp2 fp2).L3=r2 from rfl,show(dt m m.L3 m.J6 m.L4).L3=m.L3 from rfl];by_cases ND:r2=0
 ·rw[c7 ND,(hz.1.1 ND)];simp
 ·rw[b8 ND,AH h hl 38 h3 ND h2];exact V93
theorem Kg (h:SpOk p b first second)(hf:0<(aA p).length):Cur S first second (zJ (aP p b first second)) []:=by
 have PX:=S.ty 0 hf;obtain⟨d',Oo⟩:=ae (l:=S.ds 0) (k:=0) (by rw[PX.len];exact PX.pos);obtain⟨Oh,Ql⟩:=ae PX.pos;have:=(PX.item 0 Oh d' Ql Oo).lo.1 rfl;subst this;have NY:bF (aP p b first second)=true:=h.space
 have hn:zJ (aP p b first second)=⟨cW p b first second 0,1199,1200,List.replicate 1200 0,[],0,0⟩:=by
  rw[zJ,c7 NY]
  have he:(aP p b first second).MF.headD 0=cW p b first second 0:=by have:=mV (p:=p) (b:=b) (first:=first) (second:=second) hf;rw[show(aP p b first second).MF=entries p b first second from rfl,List.headD_eq_head?_getD,List.head?_eq_getElem?,this];rfl
  rw[he]
 rw[hn];refine kr hf Oo (by dsimp only;rw[Aw h hf]) ?_;refine⟨g_,?_⟩;rw[b8 o_];dsimp only;refine⟨o_,?_⟩
 have hw:aM ⟨cW p b first second 0,1199,1200,List.replicate 1200 0,[],0,0⟩ (1199+0)=0:=by unfold aM;dsimp only;rw[List.getElem?_replicate];simp
 rw[hw];exact .done
end
structure Part (v w:MA):Prop where
 pc:v.L3=w.L3
 sp:v.J6=w.J6
 fp:v.L4=w.L4
 J2:v.MB <+:w.MB
theorem Part.ok {v w:MA}(h:Part v w)(hw:cw w=true):cw v=true:=by rw[viewOk_iff]at hw⊢;have:=h.J2.length_le;rw[h.sp];omega
theorem Part.word {v w:MA}{a x:Int}(h:Part v w)(hw:cw w=true)(hx:bZ v a=some x):bZ w a=some x:=by obtain⟨h1,h2,h3⟩:=bG hx;have M0:=h.J2.length_le;unfold bZ at hx⊢;rw[c7 ⟨h1,by rw[within_iff];omega⟩]at hx;rw[c7 ⟨hw,by rw[within_iff,<-h.sp];omega⟩];obtain⟨t,ht⟩:=h.J2;rw[<-ht,<-h.sp,j7 (aI hx)];exact hx
theorem Part.moved {v w:MA}(h:Part v w)(pc sp fp:Int):Part (cR v pc sp fp) (cR w pc sp fp):=by refine⟨rfl,rfl,rfl,?_⟩;unfold cR;dsimp only;rw[h.sp];obtain⟨t,ht⟩:=h.J2;generalize(sp-w.J6).toNat=n;rw[<-ht,List.drop_append];exact List.prefix_append _ _
theorem Part.step {s:Mx}{rules:List (List Mw)}{v w x:MA}{inner:Bool}(h:Part v w)(hw:cw w=true)(hx:aQ s rules v inner=some x):∃y,aQ s rules w inner=some y/\Part x y:=by
 unfold aQ at hx⊢;split at hx
 ·rename_i hc;rw[c7 ⟨hc.1,hw,hc.2.2⟩,<-h.pc];split at hx
  ·rename_i r hr;unfold fq at hx⊢;split at hx
   ·rename_i hf;rw[c7 hf];split at hx
    ·rename_i a c ha Oy;rw[h.fp]at ha Oy;rw[h.word hw ha,h.word hw Oy];dsimp only;injection hx with hx;rw[<-hx,h.fp];exact⟨_,rfl,h.moved _ _ _⟩
    ·cases hx
   ·rename_i hf;rw[b8 hf];split at hx
    ·rename_i c Oy;rw[h.sp]at Oy;rw[h.word hw Oy];dsimp only;injection hx with hx;rw[<-hx,h.fp,h.sp];exact⟨_,rfl,h.moved _ _ _⟩
    ·cases hx
  ·cases hx
 ·cases hx
theorem Do {v x:MA}{r:Mw}(hv:cw v=true)(h:fq v r=some x):cw x=true:=by
 rw[viewOk_iff]at hv
 have key:∀(pc sp fp:Int),0<=sp->v.J6<=sp->sp<=v.J6+v.MB.length->cw (cR v pc sp fp)=true:=fun pc sp fp h0 h1 h2=>by
  rw[viewOk_iff];unfold cR;dsimp only;rw[r7];omega
 unfold fq at h;split at h
 ·split at h
  ·rename_i a c ha hc;injection h with h;have h1:=bG ha;have h2:=bG hc;rw[<-h];exact key _ _ _ o_ o_ o_
  ·cases h
 ·split at h
  ·rename_i c hc;injection h with h;have h2:=bG hc;rw[<-h];exact key _ _ _ o_ o_ o_
  ·cases h
theorem xm {s:Mx}{rules:List (List Mw)}{v x:MA}{inner:Bool}(h:aQ s rules v inner=some x):cw x=true:=by
 unfold aQ at h;split at h
 ·rename_i hc;split at h
  ·exact Do hc.2.1 h
  ·cases h
 ·cases h
theorem xZ {s:Mx}{rules:List (List Mw)}:∀(k:Nat) {v w:MA} (inner:Bool),Part v w->cw w=true->(jU s rules k v inner).1 <+:(jU s rules k w inner).1
 | 0,v,w,inner,_,_=>by rw[jU,jU];exact I6 _
 | k+1,v,w,inner,h,hw=>by
  rw[jU]
  cases hx:aQ s rules v inner with
  | none=>exact List.nil_prefix
  | some x=>
   obtain⟨y,hy,hp⟩:=h.step hw hx;rw[jU,hy];dsimp only;rw[hp.pc];split
   ·exact List.nil_prefix
   ·dsimp only;rw[List.cons_prefix_cons];exact⟨rfl,xZ k false hp (xm hy)⟩
theorem Bx {s:Mx}{rules:List (List Mw)}{v w:MA}(h:Part v w)(hw:cw w=true):(fu s rules v).1 <+:(fu s rules w).1:=by unfold fu;dsimp only;rw[h.pc,List.cons_prefix_cons];exact⟨rfl,xZ 39 true h hw⟩
theorem Ba {m:Mr}(M5:bN m=true){n:Int}(h0:0<=n):Part (bq m n) (bq m 1200):=by obtain⟨hl,NY,_⟩:=machineOk_iff.1 M5;rw[bq,c7 ⟨M5,h0⟩,bq,c7 ⟨M5,o_⟩];refine⟨rfl,rfl,rfl,?_⟩;dsimp only;rw[i7 (i:=(1200:Int).toNat) (by rw[r7,hl];omega)];exact List.take_prefix _ _
end
theorem Iy {p:List Mq}{b:Mi}{first second:Int}(h:SpOk p b first second):∀e∈(aP p b first second).MF,inI e:=fun e he=>by
 obtain⟨f,hf⟩:=v7.1 he;have Nh:f<(aA p).length:=by have:=aI hf;rwa [show(aP p b first second).MF=entries p b first second from rfl,Cj]at this
 rw[show(aP p b first second).MF=entries p b first second from rfl,mV Nh]at hf;injection hf with hf;obtain⟨i,im,bs,hi⟩:=Fb h Nh;have h1:=hi.entry;have h2:=hi.range;have h3:=hi.start;have h4:=hi.len;unfold inI;omega
section
variable {p:List Mq} {b:Mi} {first second:Int} {S:Sy p b}
def Hk (pc:Int)(o:Mt)(z:Nat)(R:List Int):List Int:=if o.J3=12 then(pc+z)::R else if o.J3=14\/o.J3=16 then R.tail else R
theorem Ja (h:SpOk p b first second){m:Mr}{R:List Int}{k:Nat}(hm:MOk m k)(hk:k<=6000)(h0:m.MC=0)(hc:Cur S first second m R):
  (1<=m.L3/\m.L3<=1080000)/\∃(o:Mt) (z:Nat),fU (aP p b first second) m.L3=some (o,z)/\z<=5/\MOk (jC (aP p b first second) m) (k+1)/\((jC (aP p b first second) m).MC=0->Cur S first second (jC (aP p b first second) m) (Hk m.L3 o z R)):=by
 obtain⟨f,i,it,d,hI,Nt,hB⟩:=hc;have OA:=lQ h hI.lt hI.get;have hz:=OA.size;have Nw:jC (aP p b first second) m=ke m (eK (aP p b first second) m):=by rw[jC,c7 ⟨h.space,hm.ok,h0⟩]
 refine⟨by rw[Nt];exact OA.rng,(cT (bb (aY p b f) (aC p f b)) i it).J7,(aH it.J7.J3).toNat,by rw[Nt];exact OA.fetch,o_,?_,fun Rf=>?_⟩
 ·rw[Nw];exact hm.step o_ (Iy h)
 ·rw[Nw]at Rf⊢;have NI:=ip (bb (aY p b f) (aC p f b)) i it
  have hw:Hk m.L3 (cT (bb (aY p b f) (aC p f b)) i it).J7 (aH it.J7.J3).toNat R=kO p b first second f i it R:=by unfold Hk kO;rw[NI,OA.next,Nt];rw[show(((aH it.J7.J3).toNat:Nat):Int)=aH it.J7.J3 by omega]
  rw[hw]
  cases hp:eK (aP p b first second) m with
  | none=>
   rw[hp]at Rf;have:(ke m none).MC=2:=rfl
   omega
  | some m'=>
   rw[hp]at Rf;have Rf:m'.MC=0:=Rf;rcases Hm h hI Nt hB ⟨hm.inv.len,hm.inv.sp,hm.inv.w,hm.inv.out⟩ hp with h1|h1
   ·omega
   ·exact h1
theorem Fm (h:SpOk p b first second):∀(n:Nat) {m:Mr} {R:List Int} {k:Nat},MOk m k->k+n<=6000->(m.MC=0->Cur S first second m R)->(ml (aP p b first second) n m).1.MC=0->∃R',Cur S first second (ml (aP p b first second) n m).1 R'
 | 0,m,R,k,hm,hk,hc,h1=>by
  rw[oh (.inr rfl)]at h1⊢
  exact⟨R,hc h1⟩
 | n+1,m,R,k,hm,hk,hc,h1=>by
  by_cases h0:m.MC=0
  ·obtain⟨_,o,z,_,_,h2,h3⟩:=Ja h hm o_ h0 (hc h0);have Nw:jC (aP p b first second) m=ke m (eK (aP p b first second) m):=(by rw[jC,c7 ⟨h.space,hm.ok,h0⟩]);rw[zD h0]at h1⊢;rw[Nw]at h2 h3;exact Fm h n h2 o_ h3 h1
  ·rw[oh (.inl h0)]at h1;exact absurd h1 h0
theorem lz (l:List Mw):flat (l.map Mw.tr):=nk _ (by intro x c hc sz rs e;subst e;simp[Mw.tr]at hc)
end
theorem zL {l:List Mu}(h1:l.length<=1048576)(h2:∀y∈l,y.L7.MQ.length<=4):ao 1048576 (.lst 8 (l.map Mu.tr)):=by rw[ao];refine⟨by rw[e7];omega,mH fun r hr=>?_⟩;obtain⟨it,NZ,rfl⟩:=n9.1 hr;have:=h2 it NZ;simp only[Mu.tr,az,ao,true_and,and_true];refine⟨by rw[e7];omega,mH fun r hr=>?_⟩;obtain⟨v,hv,rfl⟩:=n9.1 hr;simp[aa,az,ao]
theorem nt {p:List Mq}{b:Mi}{image:Int}(hs:ao 1048576 (.lst 4 (p.map Mq.tr))):ao 1048576 (.lst 8 ((bv p b image).map Mu.tr)):=by
 by_cases hc:aj p=true/\aS b=true/\af image 0 1=true
 ·rw[bv,c7 hc];obtain⟨h6,_⟩:=iH hc.1;have OS:=iO p b image (aA p).length 0 0;have QM:=fun x (hx:x∈cj p b image (aA p).length 0 0)=>iG hs hx
  generalize cj p b image (aA p).length 0 0=L at *
  have NA:=kV (fun x hx=>(QM x hx).1) (d8 L.length);rw[i7 (d8 _)]at NA;have N8:=A9 2500 (show L.length<=6 by omega);refine zL (l:=ay L) o_ fun y hy=>?_;simp only[ay,E7,n9]at hy;obtain⟨_,⟨x,hx,rfl⟩,hy⟩:=hy;exact(QM x hx).2 y hy
 ·rw[bv,b8 hc];exact⟨s_,trivial⟩
end Go.Proofs.P
