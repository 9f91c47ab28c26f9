import Derived.Test.YtjmplnfiabmalaaGh
namespace Go.Proofs.Ytjmplnfiabmalaa
open Go.Sim
set_option maxRecDepth 100000
set_option maxHeartbeats 4000000
theorem oQ {α:Type}(l:List α):l=[]∨∃W w,l=W++[w]:=by
 rcases List.eq_nil_or_concat l with h|⟨W,w,h⟩
 ·exact .inl h
 ·exact .inr ⟨W,w,by rw[h];simp⟩
theorem wG {p:List Ai}(hp:PgOk p)(hpo:ay p=true){lim:Int}:∀n,yk p lim n:=by
 intro n
 induction n using Nat.strongRecOn with
 | ind n ihn=>
  intro calls f args s hf hal hV hnf
  have hEv:∀m,m < n→∀e,wn p lim m e:=fun m hm e=>su hp (ihn m hm) e.toks.length e (Nat.le_refl _)
  obtain⟨en,hI0⟩:=InF.start hp hf
  have h60:=hp.len
  obtain⟨y,hy,hy0⟩:=hf
  obtain⟨e',he',hL8,hAL,_⟩:=hp.fn f y hy hy0
  rw[hI0.en]at he';injection he' with he';subst he'
  obtain⟨_,_,_,_,hfe,hel⟩:=aw hI0.en
  have hA:argsN p f=y.fad.length:=by rw[argsN,hy]
  have h4:=(hp.line f y hy).2.2.1
  have hLo:=gQ p (f:Int) (by omega) (fun z hz=>db hp.small hz)
  have hEn:=bo p (f:Int) (by omega)
  rw[show bv p (f:Int)=(en:Int) by rw[aI];exact aK hI0.en]at hEn
  have hws:=qk hI0
  obtain⟨L,hL⟩:∃L,localsOf p (f:Int)=L:=⟨_,rfl⟩
  have hKn:=fun{k:Nat} {ln:Ai} (hI:InF p f en k) (hk:p[k]?=some ln) (hke:k < en)=>sm hpo hI hk hke
  rw[hL]at hL8 hAL hLo hnf ⊢
  obtain⟨R,hR⟩:∃R,aA p lim n calls f (f+1) (ca L.length args) s=R:=⟨_,rfl⟩
  rw[hR]at hnf ⊢
  have hargs:(args.map ab).length=args.length:=by simp
  refine aq hΓ au Try.func28 rfl (by decide) rfl rfl ?_
  repeat' ((conv=>whnf);first|(with_reducible apply W1;fail_if_success (with_reducible show Wo _ _ _ _ (Code.region 2 _ _) _ _))|(with_reducible first|apply W2|apply W3|apply W4|apply W5|apply W6|apply W7|apply W8|apply W9)|apply bE|apply oi|(apply fi<;>intro h)|refine cl hLo ?_|refine⟨_,rfl,?_⟩|exact rfl)
  all_goals try exact⟨KP⟩
  conv=>whnf
  refine eF ⟨[(0,.r (.c (.ptr (0,0,0) 0))),(1,tI .i64 (f:Int)),(2,.r (.c (.t (.lst 1 (args.map ab))))),(7,og L)],
   [((0,0,0),some (.box [.t (.lst 4 (p.map Ai.tr)),.t (.int .i64 lim),.own (0,0,1),.own (0,0,2),.t (.int .i64 0),.t (.int .i64 0),.own (0,0,3)])),((0,0,1),some (.arr false 1 (s.out.map ab))),((0,0,2),some (.dar 1 (ak (s.visits.map aG)) none)),((0,0,3),some (.arr false 1 (calls.map ab)))],[21,0]⟩ ?_ ?_ rfl ?_
  ·refine⟨.inl rfl,.inl rfl,.inl rfl,.inr ⟨_,_,rfl,rfl,rfl,?_⟩,trivial⟩
   intro q hq;simp only[AC.ids,List.mem_cons,List.not_mem_nil,or_false]at hq;subst hq;rfl
  ·exact⟨.inr rfl,.inr rfl,.inr rfl,.inr rfl,trivial⟩
  repeat' ((conv=>whnf);first|apply Wx|apply W6|apply oi|(apply fi<;>intro h)|refine⟨_,rfl,?_⟩|exact rfl)
  all_goals try exact⟨KP⟩
  all_goals try exact⟨by simpa using dc args⟩
  all_goals try exact⟨⟨by simp <;> omega,by simp <;> omega⟩⟩
  conv=>whnf
  refine⟨{j:Nat // j≤L.length - args.length},fun j=>⟨[(0,.r (.c (.ptr (0,0,0) 0))),(1,tI .i64 (f:Int)),(7,og L),(8,.r (.c (.own (22,0,0))))],
   [((0,0,0),some (.box [.t (.lst 4 (p.map Ai.tr)),.t (.int .i64 lim),.own (0,0,1),.own (0,0,2),.t (.int .i64 0),.t (.int .i64 0),.own (0,0,3)])),((0,0,1),some (.arr false 1 (s.out.map ab))),((0,0,2),some (.dar 1 (ak (s.visits.map aG)) none)),((0,0,3),some (.arr false 1 (calls.map ab))),((22,0,0),some (.arr false 1 ((args++List.replicate j.1 0).map ab)))],[22,21,0]⟩,fun j=>L.length - j.1,⟨0,by omega⟩,?_,?_⟩
  ·skip
   repeat' ((conv=>whnf);first|apply Wx|apply W6|apply oi|(apply fi<;>intro h)|refine⟨_,rfl,?_⟩|exact rfl)
   all_goals try exact⟨KP⟩
   all_goals try exact⟨KW⟩
   all_goals try exact⟨by simp⟩
  intro⟨j,hj⟩
  dsimp only
  have hjl:((args++List.replicate j 0).map ab).length=args.length+j:=by simp
  have hll:(L.map ah).length=L.length:=by simp
  by_cases hjlt:j < L.length - args.length
  ·skip
   repeat' ((conv=>whnf);first|apply Wx|apply W6|apply oi|(apply fi<;>intro h)|refine⟨_,rfl,?_⟩|exact rfl)
   all_goals try exact⟨KP⟩
   all_goals try(exfalso;rw[hjl,hll]at h;simp at h;omega)
   all_goals try exact⟨⟨by rw[hjl];simp <;> omega,by rw[hjl];simp <;> omega⟩⟩
   conv=>whnf
   refine⟨⟨j+1,by omega⟩,?_,KD⟩
   repeat' ((conv=>whnf);first|apply Wx|apply W6|apply oi|(apply fi<;>intro h)|refine⟨_,rfl,?_⟩|exact rfl)
   all_goals try exact⟨KP⟩
   all_goals exact⟨by rw[List.replicate_succ'];simp[ab]⟩
  ·skip
   repeat' ((conv=>whnf);first|apply Wx|apply W6|apply oi|(apply fi<;>intro h)|refine cl hEn ?_|refine⟨_,rfl,?_⟩|exact rfl)
   all_goals try exact⟨KP⟩
   all_goals try(exfalso;rw[hjl,hll]at h;simp at h;omega)
   have hpad:args++List.replicate j 0=ca L.length args:=by rw[ca,show j=L.length - args.length by omega]
   rw[hpad]
   have hpl:(ca L.length args).length=L.length:=by rw[ca,List.length_append,List.length_replicate];omega
   generalize ca L.length args=V0 at *
   conv=>whnf
   refine⟨{q:Nat×Nat×List Int×IS // q.1≤n∧InF p f en q.2.1∧q.2.2.1.length=L.length∧InV lim calls q.2.2.2∧aA p lim q.1 calls f q.2.1 q.2.2.1 q.2.2.2=R},fun q=>⟨[(0,.r (.c (.ptr (0,0,0) 0))),(1,tI .i64 (f:Int)),(7,og L),(8,.r (.c (.own (22,0,0)))),(9,tI .i64 (en:Int)),(10,.r (.c (.own (39,0,0)))),(11,tI .i64 (q.1.2.1:Int))],
    [((0,0,0),some (.box [.t (.lst 4 (p.map Ai.tr)),.t (.int .i64 lim),.own (22,0,1),.own (22,0,2),.t (.int .i64 0),.t (.int .i64 0),.own (22,0,3)])),((22,0,1),some (.arr false 1 (q.1.2.2.2.out.map ab))),((22,0,2),some (.dar 1 (ak (q.1.2.2.2.visits.map aG)) none)),((22,0,3),some (.arr false 1 (calls.map ab))),((22,0,0),some (.arr false 1 (q.1.2.2.1.map ab))),((39,0,0),some (.arr true 1 ((ax p f q.1.2.1).map fun i:Nat=>ab (i:Int))))],[39,22,21,0]⟩,fun q=>q.1.1,⟨(n,f+1,V0,s),Nat.le_refl _,hI0,hpl,hV,hR⟩,?_,?_⟩
   ·skip
    repeat' ((conv=>whnf);first|apply Wx|apply W6|apply oi|(apply fi<;>intro h)|refine⟨_,rfl,?_⟩|exact rfl)
    all_goals try exact⟨KP⟩
    all_goals try exact⟨KW⟩
    all_goals try exact⟨by rw[hws];rfl⟩
   intro⟨⟨m,k,vals,sk⟩,hm,hI,hvl,hVk,hRk⟩
   dsimp only at hm hI hvl hVk hRk ⊢
   match m,hm,hRk with
   | 0,_,hRk=>exact absurd hRk.symm hnf
   | m+1,hm,hRk=>
   obtain⟨ln,hk,hk1,hk7,hke⟩:=hI.line hp
   by_cases hkl:k < en
   ·obtain⟨kd,nm,ag,ex⟩:=ln
    dsimp only at hk1 hk7 hke
    have hrow:p[k]?=some ⟨kd,nm,ag,ex⟩:=hk
    have hvm:(vals.map ab).length=vals.length:=by simp
    rcases(show kd=7∨kd=4∨(kd≠7∧kd≠4) by omega)with rfl|rfl|⟨h7,h4'⟩
    ·obtain⟨ho,h|⟨q1,q2,q3,y2,hy2,q4⟩⟩:=hI.own7 hp hk rfl
     ·omega
     rw[be hk rfl,if_neg (by omega),bz hy2]at hRk
     generalize aD p k=o at *
     by_cases h5:y2.faa=5
     ·rw[if_pos h5]at hRk
      rw[tU hI.lo ho q2 hy2 h5,List.map_append]
      have hwl:=jB p f o
      have hsl:((ax p f o).map (fun i:Nat=>ab (i:Int))++[o].map fun i:Nat=>ab (i:Int)).length=(ax p f o).length+1:=by simp
      have hw:IntKind.i64.wrap ((((ax p f o).map (fun i:Nat=>ab (i:Int))++[o].map fun i:Nat=>ab (i:Int)).length:Int) - 1)=((ax p f o).length:Int):=by rw[hsl,IntWalk.i64_in _ (by omega)];omega
      have hlt:(ax p f o).length < ((ax p f o).map (fun i:Nat=>ab (i:Int))++[o].map fun i:Nat=>ab (i:Int)).length:=by omega
      have hgt:((ax p f o).map (fun i:Nat=>ab (i:Int))++[o].map fun i:Nat=>ab (i:Int))[(ax p f o).length]?=some (ab (o:Int)):=by simp
      have htk:((ax p f o).map (fun i:Nat=>ab (i:Int))++[o].map fun i:Nat=>ab (i:Int)).take (ax p f o).length=(ax p f o).map fun i:Nat=>ab (i:Int):=by rw[List.take_append_of_le_length (by simp),List.take_of_length_le (by simp)]
      have hEo:=bo p (o:Int) (by omega)
      rw[show bv p (o:Int)=(k:Int) by rw[aI];exact aK ho]at hEo
      have hsl2:(ax p f o).length≤((ax p f o).map (fun i:Nat=>ab (i:Int))++[o].map fun i:Nat=>ab (i:Int)).length:=by omega
      repeat' ((conv=>whnf);first|apply Wx|apply W6|apply oi|(apply fi<;>intro h)|refine⟨k,(Ai.tr ⟨7,nm,ag,ex⟩),rfl,aa hk,?_⟩|refine cl hEo ?_|refine⟨(ax p f o).length,hw,hlt,?_⟩|refine⟨_,hgt,?_⟩|refine⟨(ax p f o).length,hw,hsl2,?_⟩|refine⟨_,rfl,?_⟩|exact rfl)
      all_goals try exact⟨KP⟩
      all_goals try exact KX
      all_goals try(exfalso;simp at h;done)
      conv=>whnf
      refine⟨⟨(m,o,vals,sk),by dsimp only;omega,hI.at q2 (by dsimp only;omega),hvl,hVk,hRk⟩,?_,KD⟩
      repeat' ((conv=>whnf);first|apply Wx|apply W6|apply oi|(apply fi<;>intro h)|refine⟨_,rfl,?_⟩|exact rfl)
      all_goals try exact⟨KP⟩
      all_goals try exact⟨KW⟩
      all_goals try exact⟨htk⟩
      all_goals exact⟨hsl2⟩
     ·rw[if_neg h5]at hRk
      obtain⟨hw1,hw2⟩:=vL hk rfl ho hy2 (by omega)
      have hwl:=jB p f k
      rcases oQ (ax p f k)with hn|⟨W,w,hsn⟩
      ·rw[hn]
       rw[hn]at hw1
       repeat' ((conv=>whnf);first|apply Wx|apply W6|apply oi|(apply fi<;>intro h)|refine⟨k,(Ai.tr ⟨7,nm,ag,ex⟩),rfl,aa hk,?_⟩|refine⟨_,rfl,?_⟩|exact rfl)
       all_goals try exact⟨KP⟩
       all_goals try exact KX
       conv=>whnf
       refine⟨⟨(m,k+1,vals,sk),by dsimp only;omega,hI.at (by have:=hI.lo;dsimp only;omega) (by dsimp only;omega),hvl,hVk,hRk⟩,?_,KD⟩
       repeat' ((conv=>whnf);first|apply Wx|apply W6|apply oi|(apply fi<;>intro h)|refine⟨_,rfl,?_⟩|exact rfl)
       all_goals try exact⟨KP⟩
       all_goals try exact⟨KW⟩
       all_goals exact⟨by dsimp only;rw[hw1]⟩
      ·have hwm:w∈ax p f k:=by rw[hsn];simp
       have hwk:=hw2 w hwm
       obtain⟨_,_,_,ew,hew,_⟩:=nr hwm
       have hEw:=bo p (w:Int) (by omega)
       rw[show bv p (w:Int)=(ew:Int) by rw[aI];exact aK hew]at hEw
       have hne:ew≠k:=fun e=>hwk (by rw[hew,e])
       rw[hsn,List.map_append]
       rw[hsn]at hw1 hwl
       rw[List.length_append,List.length_cons,List.length_nil]at hwl
       have hsl:(W.map (fun i:Nat=>ab (i:Int))++[w].map fun i:Nat=>ab (i:Int)).length=W.length+1:=by simp
       have hw:IntKind.i64.wrap (((W.map (fun i:Nat=>ab (i:Int))++[w].map fun i:Nat=>ab (i:Int)).length:Int) - 1)=(W.length:Int):=by rw[hsl,IntWalk.i64_in _ (by omega)];omega
       have hlt:W.length < (W.map (fun i:Nat=>ab (i:Int))++[w].map fun i:Nat=>ab (i:Int)).length:=by omega
       have hgt:(W.map (fun i:Nat=>ab (i:Int))++[w].map fun i:Nat=>ab (i:Int))[W.length]?=some (ab (w:Int)):=by simp
       repeat' ((conv=>whnf);first|apply Wx|apply W6|apply oi|(apply fi<;>intro h)|refine⟨k,(Ai.tr ⟨7,nm,ag,ex⟩),rfl,aa hk,?_⟩|refine cl hEw ?_|refine⟨W.length,hw,hlt,?_⟩|refine⟨_,hgt,?_⟩|refine⟨_,rfl,?_⟩|exact rfl)
       all_goals try exact⟨KP⟩
       all_goals try exact KX
       all_goals try(exfalso;simp at h;omega)
       all_goals try(exfalso;rw[hsl]at h;simp at h;omega)
       conv=>whnf
       refine⟨⟨(m,k+1,vals,sk),by dsimp only;omega,hI.at (by have:=hI.lo;dsimp only;omega) (by dsimp only;omega),hvl,hVk,hRk⟩,?_,KD⟩
       repeat' ((conv=>whnf);first|apply Wx|apply W6|apply oi|(apply fi<;>intro h)|refine⟨_,rfl,?_⟩|exact rfl)
       all_goals try exact⟨KP⟩
       all_goals try exact⟨KW⟩
       all_goals exact⟨by dsimp only;rw[hw1,List.map_append]⟩
    ·have hn4:=hI.elseNext hp hk rfl
     obtain⟨q1,q2,q3,q4⟩:=hI.own4 hp hk rfl
     have hwe:=sW hp hI hk rfl
     rw[bH hk rfl]at hRk
     have hEo:=bo p (aD p k:Int) (by omega)
     obtain⟨x3,e3,hx3,hx33,he3,_,_,_⟩:=aM q1
     have hE3:cu p (aD p k)=e3:=by rw[cu,he3];rfl
     rw[show bv p (aD p k:Int)=(e3:Int) by rw[aI];exact aK he3]at hEo
     rw[hE3]at hn4 hwe hRk
     have hone:∀i,elseAt p i=some k→i=aD p k:=fun i h=>nV h q1
     generalize aD p k=o at *
     have h7e:∀i,elseAt p i≠some e3:=fun i h=>by
      obtain⟨_,_,_,_,_,_,_,z,hz,h4z⟩:=aM h
      obtain⟨z2,hz2,h7z⟩:=bb he3
      rw[hz]at hz2;injection hz2 with hz2;subst hz2;omega
     have hEl:=fun i:Nat=>fK p (i:Int) (by omega)
     repeat' ((conv=>whnf);first|apply Wx|apply W6|apply oi|(apply fi<;>intro h)|refine⟨k,(Ai.tr ⟨4,nm,ag,ex⟩),rfl,aa hk,?_⟩|refine⟨_,rfl,?_⟩|exact rfl)
     all_goals try exact⟨KP⟩
     all_goals try exact KX
     conv=>whnf
     refine⟨{i:Nat // f≤i∧i≤e3},fun i=>⟨[(0,.r (.c (.ptr (0,0,0) 0))),(1,tI .i64 (f:Int)),(7,og L),(8,.r (.c (.own (22,0,0)))),(9,tI .i64 (en:Int)),(10,.r (.c (.own (39,0,0)))),(11,tI .i64 ((if o < i.1 then e3 else k:Nat):Int)),(13,tI .i64 (i.1:Int))],
      [((0,0,0),some (.box [.t (.lst 4 (p.map Ai.tr)),.t (.int .i64 lim),.own (22,0,1),.own (22,0,2),.t (.int .i64 0),.t (.int .i64 0),.own (22,0,3)])),((22,0,1),some (.arr false 1 (sk.out.map ab))),((22,0,2),some (.dar 1 (ak (sk.visits.map aG)) none)),((22,0,3),some (.arr false 1 (calls.map ab))),((22,0,0),some (.arr false 1 (vals.map ab))),((39,0,0),some (.arr true 1 ((ax p f k).map fun i:Nat=>ab (i:Int))))],[39,22,21,0]⟩,fun i=>e3 - i.1,⟨f,by omega,by omega⟩,?_,?_⟩
     ·skip
      repeat' ((conv=>whnf);first|apply Wx|apply W6|apply oi|(apply fi<;>intro h)|refine⟨_,rfl,?_⟩|exact rfl)
      all_goals try exact⟨KP⟩
      all_goals try exact⟨KW⟩
      all_goals exact⟨by dsimp only;rw[if_neg (by omega)]⟩
     intro⟨i,hi1,hi2⟩
     dsimp only
     have hEi:=hEl i
     by_cases hio:o < i
     ·rw[if_pos hio]
      by_cases hie:i < e3
      ·have hv:aJ p (i:Int)≠(e3:Int):=fun h=>by
        rw[cW]at h
        cases hx:elseAt p i with
        | none=>rw[hx]at h;simp[bO]at h
        | some j=>rw[hx]at h;simp only[bO]at h;exact h7e i (by rw[hx];congr 1;omega)
       generalize aJ p (i:Int)=ev at *
       repeat' ((conv=>whnf);first|apply Wx|apply W6|apply oi|(apply fi<;>intro h)|refine cl hEi ?_|refine⟨_,rfl,?_⟩|exact rfl)
       all_goals try exact⟨KP⟩
       all_goals try exact KX
       all_goals try(exfalso;simp at h;exact hv h)
       conv=>whnf
       refine⟨⟨i+1,by omega,by omega⟩,?_,KD⟩
       repeat' ((conv=>whnf);first|apply Wx|apply W6|apply oi|(apply fi<;>intro h)|refine⟨_,rfl,?_⟩|exact rfl)
       all_goals try exact⟨KP⟩
       all_goals try exact⟨KW⟩
       all_goals exact⟨by dsimp only;rw[if_pos (by omega)]⟩
      ·have hie':i=e3:=by omega
       subst hie'
       repeat' ((conv=>whnf);first|apply Wx|apply W6|apply oi|(apply fi<;>intro h)|refine⟨_,rfl,?_⟩|exact rfl)
       all_goals try exact⟨KP⟩
       all_goals try exact KX
       conv=>whnf
       refine⟨⟨(m,i+1,vals,sk),by dsimp only;omega,hI.at (by have:=hI.lo;dsimp only;omega) (by dsimp only;omega),hvl,hVk,hRk⟩,?_,KD⟩
       repeat' ((conv=>whnf);first|apply Wx|apply W6|apply oi|(apply fi<;>intro h)|refine⟨_,rfl,?_⟩|exact rfl)
       all_goals try exact⟨KP⟩
       all_goals try exact⟨KW⟩
       all_goals exact⟨by dsimp only;rw[hwe]⟩
     ·rw[if_neg hio]
      by_cases hie:i=o
      ·subst hie
       rw[show aJ p (i:Int)=(k:Int) by rw[cW,q1];rfl]at hEi
       repeat' ((conv=>whnf);first|apply Wx|apply W6|apply oi|(apply fi<;>intro h)|refine cl hEi ?_|refine cl hEo ?_|refine⟨_,rfl,?_⟩|exact rfl)
       all_goals try exact⟨KP⟩
       all_goals try exact KX
       all_goals try(exfalso;simp at h;done)
       conv=>whnf
       refine⟨⟨i+1,by omega,by omega⟩,?_,KD⟩
       repeat' ((conv=>whnf);first|apply Wx|apply W6|apply oi|(apply fi<;>intro h)|refine⟨_,rfl,?_⟩|exact rfl)
       all_goals try exact⟨KP⟩
       all_goals try exact⟨KW⟩
       all_goals exact⟨by dsimp only;rw[if_pos (by omega)]⟩
      ·have hv:aJ p (i:Int)≠(k:Int):=fun h=>by
        rw[cW]at h
        cases hx:elseAt p i with
        | none=>rw[hx]at h;simp[bO]at h
        | some j=>rw[hx]at h;simp only[bO]at h;exact hie (hone i (by rw[hx];congr 1;omega))
       generalize aJ p (i:Int)=ev at *
       repeat' ((conv=>whnf);first|apply Wx|apply W6|apply oi|(apply fi<;>intro h)|refine cl hEi ?_|refine⟨_,rfl,?_⟩|exact rfl)
       all_goals try exact⟨KP⟩
       all_goals try exact KX
       all_goals try(exfalso;simp at h;exact hv h)
       conv=>whnf
       refine⟨⟨i+1,by omega,by omega⟩,?_,KD⟩
       repeat' ((conv=>whnf);first|apply Wx|apply W6|apply oi|(apply fi<;>intro h)|refine⟨_,rfl,?_⟩|exact rfl)
       all_goals try exact⟨KP⟩
       all_goals try exact⟨KW⟩
       all_goals exact⟨by dsimp only;rw[if_neg (by omega)]⟩
    ·have hk6:kd=1∨kd=2∨kd=3∨kd=5∨kd=6:=by omega
     have hvn:sk.visits.length≤1000:=by have:=hVk.vis;have:=hVk.lm;omega
     by_cases hfull:(sk.visits.length:Int)=lim
     ·rw[bY hk h7 h4' hfull]at hRk
      subst hRk
      dsimp only[Rr.val,Rr.st,Rr.code]
      have gv:=kY p lim (k:Int) ⟨sk.out,sk.visits,0,0,calls⟩ hfull
      rcases hk6 with rfl|rfl|rfl|rfl|rfl
      all_goals(
       repeat' ((conv=>whnf);first|apply Wx|apply W6|apply oi|(apply fi<;>intro h)|refine⟨k,(Ai.tr ⟨_,nm,ag,ex⟩),rfl,aa hk,?_⟩|refine⟨_,rfl,?_⟩|exact rfl)
       all_goals try exact⟨KP⟩
       all_goals try exact KX
       refine cg (gv) ?_
       repeat' ((conv=>whnf);first|apply Wx|apply W6|apply oi|(apply fi<;>intro h)|refine⟨_,rfl,?_⟩|exact rfl)
       all_goals try exact⟨KP⟩
       skip)
     ·rw[bV hk h7 h4' hfull]at hRk
      have gv:=qC p lim (k:Int) ⟨sk.out,sk.visits,0,0,calls⟩ hvn hVk.calls hfull
      obtain⟨hxo,e1,e2,e3⟩:=hI.known hp hk h7 h4'
      obtain⟨hkn,hset⟩:=hKn hI hk hkl
      have hV1:InV lim calls ⟨sk.out,sk.visits++[calls++[(k:Int)]]⟩:=hVk.ext (fV hfull _)
      dsimp only at hRk hxo e1 e2 hkn hset
      obtain⟨E,hE⟩:∃E,cH p lim m calls f k vals (exL ex) ⟨sk.out,sk.visits++[calls++[(k:Int)]]⟩=E:=⟨_,rfl⟩
      have hxE:=fD (p:=p) (locals:=localsOf p (f:Int)) (vals:=vals) (bW (p:=p) (lim:=lim) m calls k) (exL ex) ⟨sk.out,sk.visits++[calls++[(k:Int)]]⟩
      rw[show evE p (localsOf p (f:Int)) vals (az p lim m calls k) (exL ex) ⟨sk.out,sk.visits++[calls++[(k:Int)]]⟩=E from hE]at hRk hxE
      have hnE:cH p lim m calls f k vals (exL ex) ⟨sk.out,sk.visits++[calls++[(k:Int)]]⟩≠.fuel:=fun e=>by
       rw[hE]at e;rw[e]at hRk;exact hnf hRk.symm
      obtain⟨x,_,g⟩:=hEv m (by omega) (exL ex) calls f en k 0 ⟨kd,nm,ag,ex⟩ vals ⟨sk.out,sk.visits++[calls++[(k:Int)]]⟩ e1 hI hk ⟨[],by rw[List.drop_zero,List.append_nil];exact e2⟩ hkn (by rw[hL];exact hvl) hV1 hnE
      rw[hE,hL]at g
      rw[hL]at hRk hset
      match E,hE,hRk,hxE,g with
      | .fuel,hE,_,_,_=>exact absurd hE hnE
      | .stop c s2,hE,hRk,hxE,g=>
       have hRk:Rr.stop c s2=R:=hRk
       subst hRk
       have hcode:=hxE.2
       dsimp only[Rr.val,Rr.st,Rr.code]at g ⊢
       rcases hk6 with rfl|rfl|rfl|rfl|rfl
       all_goals(
        repeat' ((conv=>whnf);first|apply Wx|apply W6|apply oi|(apply fi<;>intro h)|refine⟨k,(Ai.tr ⟨_,nm,ag,ex⟩),rfl,aa hk,?_⟩|refine⟨_,rfl,?_⟩|exact rfl)
        all_goals try exact⟨KP⟩
        all_goals try exact KX
        refine cg (gv) ?_
        repeat' ((conv=>whnf);first|apply Wx|apply W6|apply oi|(apply fi<;>intro h)|refine⟨_,rfl,?_⟩|exact rfl)
        all_goals try exact⟨KP⟩
        refine cg (g) ?_
        repeat' ((conv=>whnf);first|apply Wx|apply W6|apply oi|(apply fi<;>intro h)|refine⟨_,rfl,?_⟩|exact rfl)
        all_goals try exact⟨KP⟩
        all_goals try(exfalso;simp at h;omega)
        skip)
      | .ok v s2,hE,hRk,hxE,g=>
       rw[Rr.bnd_ok]at hRk
       have hxE:Ext lim ⟨sk.out,sk.visits++[calls++[(k:Int)]]⟩ s2:=hxE
       have hV2:InV lim calls s2:=hV1.ext hxE
       have hvn2:s2.out.length≤1000:=by have:=hV2.vis;have:=hV2.lm;have:=hV2.out;omega
       dsimp only[Rr.val,Rr.st,Rr.code]at g
       rcases hk6 with rfl|rfl|rfl|rfl|rfl
       ·obtain⟨ix,hix⟩:=hset rfl
        have hixl:=fT hix
        have hIx:=cQ L nm (by omega)
        rw[show dC L nm=(ix:Int) by rw[dC,hix];rfl]at hIx
        have hil:ix < (vals.map ab).length:=by omega
        have hgv:(vals.map ab)[ix]?=some (ab (atL vals ix)):=by rw[List.getElem?_map,nX (by omega)];rfl
        have hsv:fR L ⟨1,nm,ag,ex⟩ vals v=vals.set ix v:=by rw[fR,if_pos rfl,hix]
        have hov:dB ⟨1,nm,ag,ex⟩ s2 v=s2:=by rw[dB,if_neg (by simp)]
        have hnx:bA p ⟨1,nm,ag,ex⟩ k v=k+1:=by rw[bA,if_neg (by simp)]
        rw[if_neg (by simp),hsv,hov,hnx]at hRk
        have hwn:=iF (f:=f) hk (by simp) (by simp)
        repeat' ((conv=>whnf);first|apply Wx|apply W6|apply oi|(apply fi<;>intro h)|refine⟨k,(Ai.tr ⟨_,nm,ag,ex⟩),rfl,aa hk,?_⟩|refine⟨_,rfl,?_⟩|exact rfl)
        all_goals try exact⟨KP⟩
        all_goals try exact KX
        refine cg (gv) ?_
        repeat' ((conv=>whnf);first|apply Wx|apply W6|apply oi|(apply fi<;>intro h)|refine⟨_,rfl,?_⟩|exact rfl)
        all_goals try exact⟨KP⟩
        refine cg (g) ?_
        repeat' ((conv=>whnf);first|apply Wx|apply W6|apply oi|(apply fi<;>intro h)|refine cl hIx ?_|refine⟨ix,rfl,hil,?_⟩|refine⟨_,hgv,?_⟩|refine⟨_,rfl,?_⟩|exact rfl)
        all_goals try exact⟨KP⟩
        all_goals try exact KX
        conv=>whnf
        refine⟨⟨(m,k+1,vals.set ix v,s2),by dsimp only;omega,hI.at (by have:=hI.lo;dsimp only;omega) (by dsimp only;omega),by dsimp only;rw[List.length_set];exact hvl,hV2,hRk⟩,?_,KD⟩
        repeat' ((conv=>whnf);first|apply Wx|apply W6|apply oi|(apply fi<;>intro h)|refine⟨_,rfl,?_⟩|exact rfl)
        all_goals try exact⟨KP⟩
        all_goals try exact⟨KW⟩
        all_goals try exact⟨by dsimp only;rw[hwn]⟩
        all_goals try exact⟨by dsimp only;rw[List.map_set];rfl⟩
       ·have hsv:fR L ⟨2,nm,ag,ex⟩ vals v=vals:=by rw[fR,if_neg (by simp)]
        have hov:dB ⟨2,nm,ag,ex⟩ s2 v=⟨s2.out++[v],s2.visits⟩:=by rw[dB,if_pos rfl]
        have hnx:bA p ⟨2,nm,ag,ex⟩ k v=k+1:=by rw[bA,if_neg (by simp)]
        have hxo:=mU (ln:=⟨2,nm,ag,ex⟩) (v:=v) hfull hxE
        rw[hov]at hxo
        rw[if_neg (by simp),hsv,hov,hnx]at hRk
        have hwn:=iF (f:=f) hk (by simp) (by simp)
        repeat' ((conv=>whnf);first|apply Wx|apply W6|apply oi|(apply fi<;>intro h)|refine⟨k,(Ai.tr ⟨_,nm,ag,ex⟩),rfl,aa hk,?_⟩|refine⟨_,rfl,?_⟩|exact rfl)
        all_goals try exact⟨KP⟩
        all_goals try exact KX
        refine cg (gv) ?_
        repeat' ((conv=>whnf);first|apply Wx|apply W6|apply oi|(apply fi<;>intro h)|refine⟨_,rfl,?_⟩|exact rfl)
        all_goals try exact⟨KP⟩
        refine cg (g) ?_
        repeat' ((conv=>whnf);first|apply Wx|apply W6|apply oi|(apply fi<;>intro h)|refine⟨_,rfl,?_⟩|exact rfl)
        all_goals try exact⟨KP⟩
        all_goals try exact KX
        all_goals try exact⟨⟨by simp <;> omega,by simp <;> omega⟩⟩
        conv=>whnf
        refine⟨⟨(m,k+1,vals,⟨s2.out++[v],s2.visits⟩),by dsimp only;omega,hI.at (by have:=hI.lo;dsimp only;omega) (by dsimp only;omega),hvl,hVk.ext hxo,hRk⟩,?_,KD⟩
        repeat' ((conv=>whnf);first|apply Wx|apply W6|apply oi|(apply fi<;>intro h)|refine⟨_,rfl,?_⟩|exact rfl)
        all_goals try exact⟨KP⟩
        all_goals try exact⟨KW⟩
        all_goals try exact⟨by dsimp only;rw[hwn]⟩
        all_goals try exact⟨by simp[ab]⟩
       ·have hsv:fR L ⟨3,nm,ag,ex⟩ vals v=vals:=by rw[fR,if_neg (by simp)]
        have hov:dB ⟨3,nm,ag,ex⟩ s2 v=s2:=by rw[dB,if_neg (by simp)]
        rw[if_neg (by simp),hsv,hov]at hRk
        by_cases hv0:v=0
        ·subst hv0
         have hnx:bA p ⟨3,nm,ag,ex⟩ k 0=ba p k+1:=by rw[bA,if_pos ⟨.inl rfl,rfl⟩]
         rw[hnx]at hRk
         have hws:=mB hp hI hkl hk (.inl rfl)
         have hsk:=hI.skip hp hk (.inl rfl) hkl
         have hEl:=fK p (k:Int) (by omega)
         obtain⟨ek,hek,_,_⟩:=br hI.en hI.lo hkl hk (by rw[opensK_iff];simp)
         have hEk:=bo p (k:Int) (by omega)
         rw[show bv p (k:Int)=(ek:Int) by rw[aI];exact aK hek]at hEk
         cases hel2:elseAt p k with
         | some j=>
          have hj:ba p k=j:=by rw[ba,hel2]
          rw[show aJ p (k:Int)=(j:Int) by rw[cW,hel2];rfl]at hEl
          rw[hj]at hRk hws hsk
          repeat' ((conv=>whnf);first|apply Wx|apply W6|apply oi|(apply fi<;>intro h)|refine⟨k,(Ai.tr ⟨_,nm,ag,ex⟩),rfl,aa hk,?_⟩|refine⟨_,rfl,?_⟩|exact rfl)
          all_goals try exact⟨KP⟩
          all_goals try exact KX
          refine cg (gv) ?_
          repeat' ((conv=>whnf);first|apply Wx|apply W6|apply oi|(apply fi<;>intro h)|refine⟨_,rfl,?_⟩|exact rfl)
          all_goals try exact⟨KP⟩
          refine cg (g) ?_
          repeat' ((conv=>whnf);first|apply Wx|apply W6|apply oi|(apply fi<;>intro h)|refine cl hEl ?_|refine⟨_,rfl,?_⟩|exact rfl)
          all_goals try exact⟨KP⟩
          all_goals try exact KX
          conv=>whnf
          refine⟨⟨(m,j+1,vals,s2),by dsimp only;omega,hI.at (by have:=hI.lo;dsimp only;omega) (by dsimp only;omega),hvl,hV2,hRk⟩,?_,KD⟩
          repeat' ((conv=>whnf);first|apply Wx|apply W6|apply oi|(apply fi<;>intro h)|refine⟨_,rfl,?_⟩|exact rfl)
          all_goals try exact⟨KP⟩
          all_goals try exact⟨KW⟩
          all_goals try exact⟨by dsimp only;rw[hws]⟩
         | none=>
          have hj:ba p k=ek:=by rw[ba,hel2,cu,hek];rfl
          rw[show aJ p (k:Int)= -1 by rw[cW,hel2];rfl]at hEl
          rw[hj]at hRk hws hsk
          repeat' ((conv=>whnf);first|apply Wx|apply W6|apply oi|(apply fi<;>intro h)|refine⟨k,(Ai.tr ⟨_,nm,ag,ex⟩),rfl,aa hk,?_⟩|refine⟨_,rfl,?_⟩|exact rfl)
          all_goals try exact⟨KP⟩
          all_goals try exact KX
          refine cg (gv) ?_
          repeat' ((conv=>whnf);first|apply Wx|apply W6|apply oi|(apply fi<;>intro h)|refine⟨_,rfl,?_⟩|exact rfl)
          all_goals try exact⟨KP⟩
          refine cg (g) ?_
          repeat' ((conv=>whnf);first|apply Wx|apply W6|apply oi|(apply fi<;>intro h)|refine cl hEl ?_|refine cl hEk ?_|refine⟨_,rfl,?_⟩|exact rfl)
          all_goals try exact⟨KP⟩
          all_goals try exact KX
          conv=>whnf
          refine⟨⟨(m,ek+1,vals,s2),by dsimp only;omega,hI.at (by have:=hI.lo;dsimp only;omega) (by dsimp only;omega),hvl,hV2,hRk⟩,?_,KD⟩
          repeat' ((conv=>whnf);first|apply Wx|apply W6|apply oi|(apply fi<;>intro h)|refine⟨_,rfl,?_⟩|exact rfl)
          all_goals try exact⟨KP⟩
          all_goals try exact⟨KW⟩
          all_goals try exact⟨by dsimp only;rw[hws]⟩
        ·have hnx:bA p ⟨3,nm,ag,ex⟩ k v=k+1:=by rw[bA,if_neg (fun h=>hv0 h.2)]
         rw[hnx]at hRk
         have hwn:=iF (f:=f) hk (by simp) (by simp)
         repeat' ((conv=>whnf);first|apply Wx|apply W6|apply oi|(apply fi<;>intro h)|refine⟨k,(Ai.tr ⟨_,nm,ag,ex⟩),rfl,aa hk,?_⟩|refine⟨_,rfl,?_⟩|exact rfl)
         all_goals try exact⟨KP⟩
         all_goals try exact KX
         refine cg (gv) ?_
         repeat' ((conv=>whnf);first|apply Wx|apply W6|apply oi|(apply fi<;>intro h)|refine⟨_,rfl,?_⟩|exact rfl)
         all_goals try exact⟨KP⟩
         refine cg (g) ?_
         repeat' ((conv=>whnf);first|apply Wx|apply W6|apply oi|(apply fi<;>intro h)|refine⟨_,rfl,?_⟩|exact rfl)
         all_goals try exact⟨KP⟩
         all_goals try exact KX
         all_goals try(exfalso;simp at h;exact hv0 h)
         conv=>whnf
         refine⟨⟨(m,k+1,vals,s2),by dsimp only;omega,hI.at (by have:=hI.lo;dsimp only;omega) (by dsimp only;omega),hvl,hV2,hRk⟩,?_,KD⟩
         repeat' ((conv=>whnf);first|apply Wx|apply W6|apply oi|(apply fi<;>intro h)|refine⟨_,rfl,?_⟩|exact rfl)
         all_goals try exact⟨KP⟩
         all_goals try exact⟨KW⟩
         all_goals try exact⟨by dsimp only;rw[hwn]⟩
       ·have hsv:fR L ⟨5,nm,ag,ex⟩ vals v=vals:=by rw[fR,if_neg (by simp)]
        have hov:dB ⟨5,nm,ag,ex⟩ s2 v=s2:=by rw[dB,if_neg (by simp)]
        rw[if_neg (by simp),hsv,hov]at hRk
        have hwl:=jB p f k
        by_cases hv0:v=0
        ·subst hv0
         have hnx:bA p ⟨5,nm,ag,ex⟩ k 0=ba p k+1:=by rw[bA,if_pos ⟨.inr rfl,rfl⟩]
         rw[hnx]at hRk
         have hws:=mB hp hI hkl hk (.inr rfl)
         have hsk:=hI.skip hp hk (.inr rfl) hkl
         obtain⟨ek,hek,_,_⟩:=br hI.en hI.lo hkl hk (by rw[opensK_iff];simp)
         have hEk:=bo p (k:Int) (by omega)
         rw[show bv p (k:Int)=(ek:Int) by rw[aI];exact aK hek]at hEk
         have hj:ba p k=ek:=by rw[ba,oL (by rw[bz hk];simp),cu,hek];rfl
         rw[hj]at hRk hws hsk
         repeat' ((conv=>whnf);first|apply Wx|apply W6|apply oi|(apply fi<;>intro h)|refine⟨k,(Ai.tr ⟨_,nm,ag,ex⟩),rfl,aa hk,?_⟩|refine⟨_,rfl,?_⟩|exact rfl)
         all_goals try exact⟨KP⟩
         all_goals try exact KX
         refine cg (gv) ?_
         repeat' ((conv=>whnf);first|apply Wx|apply W6|apply oi|(apply fi<;>intro h)|refine⟨_,rfl,?_⟩|exact rfl)
         all_goals try exact⟨KP⟩
         refine cg (g) ?_
         repeat' ((conv=>whnf);first|apply Wx|apply W6|apply oi|(apply fi<;>intro h)|refine cl hEk ?_|refine⟨_,rfl,?_⟩|exact rfl)
         all_goals try exact⟨KP⟩
         all_goals try exact KX
         conv=>whnf
         refine⟨⟨(m,ek+1,vals,s2),by dsimp only;omega,hI.at (by have:=hI.lo;dsimp only;omega) (by dsimp only;omega),hvl,hV2,hRk⟩,?_,KD⟩
         repeat' ((conv=>whnf);first|apply Wx|apply W6|apply oi|(apply fi<;>intro h)|refine⟨_,rfl,?_⟩|exact rfl)
         all_goals try exact⟨KP⟩
         all_goals try exact⟨KW⟩
         all_goals try exact⟨by dsimp only;rw[hws]⟩
        ·have hnx:bA p ⟨5,nm,ag,ex⟩ k v=k+1:=by rw[bA,if_neg (fun h=>hv0 h.2)]
         rw[hnx]at hRk
         have hwn:=rM hp hI hkl hk rfl
         repeat' ((conv=>whnf);first|apply Wx|apply W6|apply oi|(apply fi<;>intro h)|refine⟨k,(Ai.tr ⟨_,nm,ag,ex⟩),rfl,aa hk,?_⟩|refine⟨_,rfl,?_⟩|exact rfl)
         all_goals try exact⟨KP⟩
         all_goals try exact KX
         refine cg (gv) ?_
         repeat' ((conv=>whnf);first|apply Wx|apply W6|apply oi|(apply fi<;>intro h)|refine⟨_,rfl,?_⟩|exact rfl)
         all_goals try exact⟨KP⟩
         refine cg (g) ?_
         repeat' ((conv=>whnf);first|apply Wx|apply W6|apply oi|(apply fi<;>intro h)|refine⟨_,rfl,?_⟩|exact rfl)
         all_goals try exact⟨KP⟩
         all_goals try exact KX
         all_goals try(exfalso;simp at h;exact hv0 h)
         all_goals try exact⟨⟨by simp <;> omega,by simp <;> omega⟩⟩
         conv=>whnf
         refine⟨⟨(m,k+1,vals,s2),by dsimp only;omega,hI.at (by have:=hI.lo;dsimp only;omega) (by dsimp only;omega),hvl,hV2,hRk⟩,?_,KD⟩
         repeat' ((conv=>whnf);first|apply Wx|apply W6|apply oi|(apply fi<;>intro h)|refine⟨_,rfl,?_⟩|exact rfl)
         all_goals try exact⟨KP⟩
         all_goals try exact⟨KW⟩
         all_goals try exact⟨by dsimp only;rw[hwn,List.map_append];rfl⟩
       ·rw[if_pos rfl]at hRk
        subst hRk
        dsimp only[Rr.val,Rr.st,Rr.code]
        repeat' ((conv=>whnf);first|apply Wx|apply W6|apply oi|(apply fi<;>intro h)|refine⟨k,(Ai.tr ⟨_,nm,ag,ex⟩),rfl,aa hk,?_⟩|refine⟨_,rfl,?_⟩|exact rfl)
        all_goals try exact⟨KP⟩
        all_goals try exact KX
        refine cg (gv) ?_
        repeat' ((conv=>whnf);first|apply Wx|apply W6|apply oi|(apply fi<;>intro h)|refine⟨_,rfl,?_⟩|exact rfl)
        all_goals try exact⟨KP⟩
        refine cg (g) ?_
        repeat' ((conv=>whnf);first|apply Wx|apply W6|apply oi|(apply fi<;>intro h)|refine⟨_,rfl,?_⟩|exact rfl)
        all_goals try exact⟨KP⟩
        all_goals try exact KX
   ·have hke':k=en:=by have:=hI.hi;omega
    have h7:ln.faa=7:=by omega
    have how:aD p k=f:=by obtain⟨_,h|h⟩:=hI.own7 hp hk h7;exact h.2;omega
    rw[be hk h7,if_pos how]at hRk
    subst hRk
    dsimp only[Rr.val,Rr.st,Rr.code]
    repeat' ((conv=>whnf);first|apply Wx|apply W6|apply oi|(apply fi<;>intro h)|refine⟨_,rfl,?_⟩|exact rfl)
    all_goals try exact⟨KP⟩
    all_goals try exact KX
theorem vu {p:List Ai}(h:ay p=true){f:Nat}{y:Ai}(hy:p[f]?=some y)(h0:y.faa=0):dy y.fad=true:=by
 unfold ay at h
 simp only[Bool.and_eq_true,decide_eq_true_eq]at h
 have hl:=List.all_eq_true.1 h.2.2.1 y (List.mem_of_getElem? hy)
 unfold bk at hl
 simp only[Bool.and_eq_true]at hl
 have:=hl.2.2.1
 rwa [if_pos h0]at this
theorem ml {p:List Ai}(h60:p.length≤60)(lim:Int)(calls:List Int)(s:IS)(k ek:Nat)(hek:endAt p k=some ek):bu Try.prog 74 [.r (.c (.ptr (0,0,0) 0)),tI .i64 (k:Int)] (rnH (0,0,1) (0,0,2) (0,0,3) p lim calls s) (tI .i64 (ba p k:Int)) (rnH (0,0,1) (0,0,2) (0,0,3) p lim calls s):=by
 have hEl:=fI p (k:Int) (by omega)
 have hEk:=bG p (k:Int) (by omega)
 rw[show bv p (k:Int)=(ek:Int) by rw[aI];exact aK hek]at hEk
 refine aq hΓ au Try.func74 rfl (by decide) rfl rfl ?_
 cases hel2:elseAt p k with
 | some j=>
  rw[show aJ p (k:Int)=(j:Int) by rw[cW,hel2];rfl]at hEl
  rw[show ba p k=j by rw[ba,hel2]]
  repeat' ((conv=>whnf);first|apply Wx|apply W6|apply oi|(apply fi<;>intro h)|refine cl hEl ?_|refine cl hEk ?_|refine⟨_,rfl,?_⟩|exact rfl)
  all_goals try exact⟨KP⟩
  all_goals try exact KX
 | none=>
  rw[show aJ p (k:Int)= -1 by rw[cW,hel2];rfl]at hEl
  rw[show ba p k=ek by rw[ba,hel2,cu,hek];rfl]
  repeat' ((conv=>whnf);first|apply Wx|apply W6|apply oi|(apply fi<;>intro h)|refine cl hEl ?_|refine cl hEk ?_|refine⟨_,rfl,?_⟩|exact rfl)
  all_goals try exact⟨KP⟩
  all_goals try exact KX
theorem yc {p:List Ai}(hp:PgOk p)(hpo:ay p=true){lim:Int}:∀n,yW p lim n:=by
 intro n
 induction n using Nat.strongRecOn with
 | ind n ihn=>
  intro calls f args s hf hal hV hnf
  have hEv:∀m,m < n→∀e,yw p lim m e:=fun m hm e=>uV hp (ihn m hm) e.toks.length e (Nat.le_refl _)
  obtain⟨en,hI0⟩:=InF.start hp hf
  have h60:=hp.len
  obtain⟨y,hy,hy0⟩:=hf
  obtain⟨e',he',hL8,hAL,_⟩:=hp.fn f y hy hy0
  rw[hI0.en]at he';injection he' with he';subst he'
  obtain⟨_,_,_,_,hfe,hel⟩:=aw hI0.en
  have hA:argsN p f=y.fad.length:=by rw[argsN,hy]
  have h4:=(hp.line f y hy).2.2.1
  have hdist:=vu hpo hy hy0
  have hpre:=pl hy hy0 hI0.en
  obtain⟨L,hL⟩:∃L,localsOf p (f:Int)=L:=⟨_,rfl⟩
  have hKn:=fun{k:Nat} {ln:Ai} (hI:InF p f en k) (hk:p[k]?=some ln) (hke:k < en)=>sm hpo hI hk hke
  have hfl:=bm hy
  have hoL:=kj p p.length
  have hoLm:((dk p p.length).map ab).length=p.length:=by rw[List.length_map,hoL]
  rw[hL]at hL8 hAL hnf hpre ⊢
  obtain⟨R,hR⟩:∃R,aA p lim n calls f (f+1) (ca L.length args) s=R:=⟨_,rfl⟩
  rw[hR]at hnf ⊢
  have hargs:(args.map ab).length=args.length:=by simp
  have hanl:(y.fad.map ah).length=y.fad.length:=by simp
  refine tL Try.func34 rfl (by decide) rfl rfl ?_
  repeat' ((conv=>whnf);first|apply Wx|apply W6|apply oi|(apply fi<;>intro h)|refine⟨f,y.tr,rfl,aa hy,?_⟩|refine⟨_,rfl,?_⟩|exact rfl)
  all_goals try exact⟨KP⟩
  conv=>whnf
  refine⟨{q:Nat×List (Tr×Int) // q.1≤y.fad.length∧FillM y.fad args q.1 q.2},fun q=>⟨[(0,.r (.c (.ptr (0,0,0) 0))),(1,tI .i64 (f:Int)),(2,.r (.c (.t (.lst 1 (args.map ab))))),(7,.r (.c (.mpv (13,0,0)))),(21,.r (.c (.t (.lst 1 (y.fad.map ah))))),(22,tI .i64 ((y.fad.map ah).length:Int)),(23,tI .i64 (q.1.1:Int))],
   [((0,0,0),some (rnB p lim (0,0,1) (0,0,2) (0,0,3))),((0,0,1),some (.arr false 1 (s.out.map ab))),((0,0,2),some (.dar 1 (ak (s.visits.map aG)) none)),((0,0,3),some (.arr false 1 (calls.map ab))),((13,0,0),some (.mp none q.1.2))],[13,0]⟩,fun q=>y.fad.length - q.1.1,⟨(0,[]),Nat.zero_le _,FillM.zero _ _⟩,?_,?_⟩
  ·skip
   repeat' ((conv=>whnf);first|apply Wx|apply W6|apply oi|(apply fi<;>intro h)|refine⟨_,rfl,?_⟩|exact rfl)
   all_goals try exact⟨KP⟩
  intro⟨⟨j,ms⟩,hj,hfm⟩
  dsimp only at hj hfm ⊢
  by_cases hjlt:j < y.fad.length
  ·obtain⟨nm,hnm⟩:=af hjlt
   have hav:args[j]?=some (atL args j):=nX (by omega)
   repeat' ((conv=>whnf);first|apply Wx|apply W6|apply oi|(apply fi<;>intro h)|refine⟨j,(ah nm),rfl,aa hnm,?_⟩|refine⟨j,(ab (atL args j)),rfl,aa hav,?_⟩|refine⟨_,rfl,?_⟩|exact rfl)
   all_goals try exact⟨KP⟩
   all_goals try exact KX
   conv=>whnf
   refine⟨⟨(j+1,ep ms (kS nm) (atL args j)),by dsimp only;omega,hfm.step hdist hnm⟩,?_,KD⟩
   repeat' ((conv=>whnf);first|apply Wx|apply W6|apply oi|(apply fi<;>intro h)|refine⟨_,rfl,?_⟩|exact rfl)
   all_goals try exact⟨KP⟩
   all_goals try exact⟨KW⟩
  ·have hvm0:VarsM L (ca L.length args) ms:=by
    rw[show j=y.fad.length by omega]at hfm
    exact hfm.vars hpre (by omega)
   have hpl:(ca L.length args).length=L.length:=by rw[ca,List.length_append,List.length_replicate];omega
   generalize ca L.length args=V0 at *
   repeat' ((conv=>whnf);first|apply Wx|apply W6|apply oi|(apply fi<;>intro h)|refine⟨_,rfl,?_⟩|exact rfl)
   all_goals try exact⟨KP⟩
   all_goals try exact KX
   conv=>whnf
   refine⟨{q:Nat×Nat×List Int×List (Tr×Int)×IS // q.1≤n∧InF p f en q.2.1∧q.2.2.1.length=L.length∧VarsM L q.2.2.1 q.2.2.2.1∧InV lim calls q.2.2.2.2∧aA p lim q.1 calls f q.2.1 q.2.2.1 q.2.2.2.2=R},fun q=>⟨[(0,.r (.c (.ptr (0,0,0) 0))),(1,tI .i64 (f:Int)),(7,.r (.c (.mpv (13,0,0)))),(10,tI .i64 (q.1.2.1:Int))],
    [((0,0,0),some (rnB p lim (13,0,1) (13,0,2) (13,0,3))),((13,0,1),some (.arr false 1 (q.1.2.2.2.2.out.map ab))),((13,0,2),some (.dar 1 (ak (q.1.2.2.2.2.visits.map aG)) none)),((13,0,3),some (.arr false 1 (calls.map ab))),((13,0,0),some (.mp none q.1.2.2.2.1))],[13,0]⟩,fun q=>q.1.1,⟨(n,f+1,V0,ms,s),Nat.le_refl _,hI0,hpl,hvm0,hV,hR⟩,?_,?_⟩
   ·skip
    repeat' ((conv=>whnf);first|apply Wx|apply W6|apply oi|(apply fi<;>intro h)|refine⟨_,rfl,?_⟩|exact rfl)
    all_goals try exact⟨KP⟩
    all_goals try exact⟨KW⟩
   intro⟨⟨m,k,vals,ms,sk⟩,hm,hI,hvl,hvm,hVk,hRk⟩
   dsimp only at hm hI hvl hvm hVk hRk ⊢
   match m,hm,hRk with
   | 0,_,hRk=>exact absurd hRk.symm hnf
   | m+1,hm,hRk=>
   obtain⟨ln,hk,hk1,hk7,hke⟩:=hI.line hp
   have hkp:=bm hk
   obtain⟨kd,nm,ag,ex⟩:=ln
   dsimp only at hk1 hk7 hke
   have hHE:=il kd
   have hkm:k < ((dk p p.length).map ab).length:=by omega
   by_cases hkl:k < en
   ·rcases(show kd=7∨kd=4∨(kd≠7∧kd≠4) by omega)with rfl|rfl|⟨h7,h4'⟩
    ·obtain⟨ho,h|⟨q1,q2,q3,y2,hy2,q4⟩⟩:=hI.own7 hp hk rfl
     ·omega
     rw[be hk rfl,if_neg (by omega),bz hy2]at hRk
     have hog:=kD (p:=p) (.inl ho) hkp p.length (by omega)
     generalize aD p k=o at *
     have hgt:((dk p p.length).map ab)[k]?=some (ab (o:Int)):=aa hog
     have hop:=bm hy2
     rw[show bP 7=false from rfl]at hHE
     by_cases h5:y2.faa=5
     ·rw[if_pos h5]at hRk
      repeat' ((conv=>whnf);first|apply Wx|apply W6|apply oi|(apply fi<;>intro h)|refine⟨k,(Ai.tr ⟨7,nm,ag,ex⟩),rfl,aa hk,?_⟩|refine cl hHE ?_|refine⟨k,(ab (o:Int)),rfl,hgt,?_⟩|refine⟨o,y2.tr,rfl,aa hy2,?_⟩|refine⟨_,rfl,?_⟩|exact rfl)
      all_goals try exact⟨KP⟩
      all_goals try exact KX
      all_goals try(exfalso;simp_all;done)
      conv=>whnf
      refine⟨⟨(m,o,vals,ms,sk),by dsimp only;omega,hI.at q2 (by dsimp only;omega),hvl,hvm,hVk,hRk⟩,?_,KD⟩
      repeat' ((conv=>whnf);first|apply Wx|apply W6|apply oi|(apply fi<;>intro h)|refine⟨_,rfl,?_⟩|exact rfl)
      all_goals try exact⟨KP⟩
      all_goals try exact⟨KW⟩
     ·rw[if_neg h5]at hRk
      repeat' ((conv=>whnf);first|apply Wx|apply W6|apply oi|(apply fi<;>intro h)|refine⟨k,(Ai.tr ⟨7,nm,ag,ex⟩),rfl,aa hk,?_⟩|refine cl hHE ?_|refine⟨k,(ab (o:Int)),rfl,hgt,?_⟩|refine⟨o,y2.tr,rfl,aa hy2,?_⟩|refine⟨_,rfl,?_⟩|exact rfl)
      all_goals try exact⟨KP⟩
      all_goals try exact KX
      all_goals try(exfalso;simp_all;done)
      conv=>whnf
      refine⟨⟨(m,k+1,vals,ms,sk),by dsimp only;omega,hI.at (by have:=hI.lo;dsimp only;omega) (by dsimp only;omega),hvl,hvm,hVk,hRk⟩,?_,KD⟩
      repeat' ((conv=>whnf);first|apply Wx|apply W6|apply oi|(apply fi<;>intro h)|refine⟨_,rfl,?_⟩|exact rfl)
      all_goals try exact⟨KP⟩
      all_goals try exact⟨KW⟩
    ·have hn4:=hI.elseNext hp hk rfl
     obtain⟨q1,q2,q3,q4⟩:=hI.own4 hp hk rfl
     rw[bH hk rfl]at hRk
     have hEo:=bG p (aD p k:Int) (by omega)
     obtain⟨x3,e3,hx3,hx33,he3,_,_,_⟩:=aM q1
     have hE3:cu p (aD p k)=e3:=by rw[cu,he3];rfl
     rw[show bv p (aD p k:Int)=(e3:Int) by rw[aI];exact aK he3]at hEo
     rw[hE3]at hn4 hRk
     have hog:=kD (p:=p) (.inr q1) hkp p.length (by omega)
     generalize aD p k=o at *
     have hgt:((dk p p.length).map ab)[k]?=some (ab (o:Int)):=aa hog
     rw[show bP 4=false from rfl]at hHE
     repeat' ((conv=>whnf);first|apply Wx|apply W6|apply oi|(apply fi<;>intro h)|refine⟨k,(Ai.tr ⟨4,nm,ag,ex⟩),rfl,aa hk,?_⟩|refine cl hHE ?_|refine⟨k,(ab (o:Int)),rfl,hgt,?_⟩|refine cl hEo ?_|refine⟨_,rfl,?_⟩|exact rfl)
     all_goals try exact⟨KP⟩
     all_goals try exact KX
     all_goals try(exfalso;simp at h;done)
     conv=>whnf
     refine⟨⟨(m,e3+1,vals,ms,sk),by dsimp only;omega,hI.at (by have:=hI.lo;dsimp only;omega) (by dsimp only;omega),hvl,hvm,hVk,hRk⟩,?_,KD⟩
     repeat' ((conv=>whnf);first|apply Wx|apply W6|apply oi|(apply fi<;>intro h)|refine⟨_,rfl,?_⟩|exact rfl)
     all_goals try exact⟨KP⟩
     all_goals try exact⟨KW⟩
    ·have hk6:kd=1∨kd=2∨kd=3∨kd=5∨kd=6:=by omega
     have hHE1:bP kd=true:=by rcases hk6 with rfl|rfl|rfl|rfl|rfl <;> rfl
     rw[hHE1]at hHE
     have hlm:=hVk.lm
     have hvs:=hVk.vis
     by_cases hfull:(sk.visits.length:Int)=lim
     ·rw[bY hk h7 h4' hfull]at hRk
      subst hRk
      have gv:=rl p lim (k:Int) calls sk hfull
      repeat' ((conv=>whnf);first|with_reducible refine mS (id:=12) 2 ?_|with_reducible apply Wx|with_reducible apply W6|refine cp gv ?_|apply oi|(apply fi<;>intro h)|refine⟨k,(Ai.tr ⟨_,nm,ag,ex⟩),rfl,aa hk,?_⟩|refine cl hHE ?_|refine⟨_,rfl,?_⟩|exact rfl)
      all_goals try exact⟨KP⟩
      all_goals try exact KX
     ·rw[bV hk h7 h4' hfull]at hRk
      have gv:=rx p lim (k:Int) calls sk hlm hVk.calls (by omega)
      obtain⟨hxo,e1,e2,e3⟩:=hI.known hp hk h7 h4'
      obtain⟨hkn,hset⟩:=hKn hI hk hkl
      have hV1:InV lim calls ⟨sk.out,sk.visits++[calls++[(k:Int)]]⟩:=hVk.ext (fV hfull _)
      dsimp only at hRk hxo e1 e2 hkn hset
      obtain⟨E,hE⟩:∃E,cH p lim m calls f k vals (exL ex) ⟨sk.out,sk.visits++[calls++[(k:Int)]]⟩=E:=⟨_,rfl⟩
      have hxE:=fD (p:=p) (locals:=localsOf p (f:Int)) (vals:=vals) (bW (p:=p) (lim:=lim) m calls k) (exL ex) ⟨sk.out,sk.visits++[calls++[(k:Int)]]⟩
      rw[show evE p (localsOf p (f:Int)) vals (az p lim m calls k) (exL ex) ⟨sk.out,sk.visits++[calls++[(k:Int)]]⟩=E from hE]at hRk hxE
      have hnE:cH p lim m calls f k vals (exL ex) ⟨sk.out,sk.visits++[calls++[(k:Int)]]⟩≠.fuel:=fun e=>by
       rw[hE]at e;rw[e]at hRk;exact hnf hRk.symm
      have gE:=hEv m (by omega) (exL ex) calls f en k 0 ⟨kd,nm,ag,ex⟩ vals ms ⟨sk.out,sk.visits++[calls++[(k:Int)]]⟩ e1 hI hk ⟨[],by rw[List.drop_zero,List.append_nil];exact e2⟩ hkn (by rw[hL];exact hvl) (by rw[hL];exact hvm) hV1 hnE
      rw[hE]at gE
      rw[hL]at hRk hset
      match E,hE,hRk,hxE,gE with
      | .fuel,hE,_,_,_=>exact absurd hE hnE
      | .stop c s2,hE,hRk,hxE,g=>
       have hRk:Rr.stop c s2=R:=hRk
       subst hRk
       simp only[lg]at g
       repeat' ((conv=>whnf);first|with_reducible refine mS (id:=13) 5 ?_|with_reducible apply Wx|with_reducible apply W6|refine cp g ?_|apply oi|(apply fi<;>intro h)|refine⟨k,(Ai.tr ⟨_,nm,ag,ex⟩),rfl,aa hk,?_⟩|refine cl hHE ?_|refine⟨_,rfl,?_⟩|exact rfl)
       all_goals try exact⟨KP⟩
       all_goals try exact KX
       refine cg (gv) ?_
       repeat' ((conv=>whnf);first|with_reducible refine mS (id:=13) 5 ?_|with_reducible apply Wx|with_reducible apply W6|refine cp g ?_|apply oi|(apply fi<;>intro h)|refine⟨_,rfl,?_⟩|exact rfl)
       all_goals try exact⟨KP⟩
      | .ok v s2,hE,hRk,hxE,g=>
       rw[Rr.bnd_ok]at hRk
       have hxE:Ext lim ⟨sk.out,sk.visits++[calls++[(k:Int)]]⟩ s2:=hxE
       have hV2:InV lim calls s2:=hV1.ext hxE
       have hvn2:s2.out.length≤1000:=by have:=hV2.vis;have:=hV2.lm;have:=hV2.out;omega
       simp only[lg]at g
       rcases hk6 with rfl|rfl|rfl|rfl|rfl
       ·obtain⟨ix,hix⟩:=hset rfl
        have hixl:=fT hix
        have hsv:fR L ⟨1,nm,ag,ex⟩ vals v=vals.set ix v:=by rw[fR,if_pos rfl,hix]
        have hov:dB ⟨1,nm,ag,ex⟩ s2 v=s2:=by rw[dB,if_neg (by simp)]
        have hnx:bA p ⟨1,nm,ag,ex⟩ k v=k+1:=by rw[bA,if_neg (by simp)]
        rw[if_neg (by simp),hsv,hov,hnx]at hRk
        have hvm2:=hvm.set hix (by omega) v
        repeat' ((conv=>whnf);first|apply Wx|apply W6|apply oi|(apply fi<;>intro h)|refine⟨k,(Ai.tr ⟨_,nm,ag,ex⟩),rfl,aa hk,?_⟩|refine cl hHE ?_|refine⟨_,rfl,?_⟩|exact rfl)
        all_goals try exact⟨KP⟩
        all_goals try exact KX
        refine cg (gv) ?_
        repeat' ((conv=>whnf);first|apply Wx|apply W6|apply oi|(apply fi<;>intro h)|refine⟨_,rfl,?_⟩|exact rfl)
        all_goals try exact⟨KP⟩
        refine cg (g) ?_
        repeat' ((conv=>whnf);first|apply Wx|apply W6|apply oi|(apply fi<;>intro h)|refine⟨_,rfl,?_⟩|exact rfl)
        all_goals try exact⟨KP⟩
        all_goals try exact KX
        conv=>whnf
        refine⟨⟨(m,k+1,vals.set ix v,ep ms (kS nm) v,s2),by dsimp only;omega,hI.at (by have:=hI.lo;dsimp only;omega) (by dsimp only;omega),by dsimp only;rw[List.length_set];exact hvl,hvm2,hV2,hRk⟩,?_,KD⟩
        repeat' ((conv=>whnf);first|apply Wx|apply W6|apply oi|(apply fi<;>intro h)|refine⟨_,rfl,?_⟩|exact rfl)
        all_goals try exact⟨KP⟩
        all_goals try exact⟨KW⟩
       ·have hsv:fR L ⟨2,nm,ag,ex⟩ vals v=vals:=by rw[fR,if_neg (by simp)]
        have hov:dB ⟨2,nm,ag,ex⟩ s2 v=⟨s2.out++[v],s2.visits⟩:=by rw[dB,if_pos rfl]
        have hnx:bA p ⟨2,nm,ag,ex⟩ k v=k+1:=by rw[bA,if_neg (by simp)]
        have hxo:=mU (ln:=⟨2,nm,ag,ex⟩) (v:=v) hfull hxE
        rw[hov]at hxo
        rw[if_neg (by simp),hsv,hov,hnx]at hRk
        repeat' ((conv=>whnf);first|apply Wx|apply W6|apply oi|(apply fi<;>intro h)|refine⟨k,(Ai.tr ⟨_,nm,ag,ex⟩),rfl,aa hk,?_⟩|refine cl hHE ?_|refine⟨_,rfl,?_⟩|exact rfl)
        all_goals try exact⟨KP⟩
        all_goals try exact KX
        refine cg (gv) ?_
        repeat' ((conv=>whnf);first|apply Wx|apply W6|apply oi|(apply fi<;>intro h)|refine⟨_,rfl,?_⟩|exact rfl)
        all_goals try exact⟨KP⟩
        refine cg (g) ?_
        repeat' ((conv=>whnf);first|apply Wx|apply W6|apply oi|(apply fi<;>intro h)|refine⟨_,rfl,?_⟩|exact rfl)
        all_goals try exact⟨KP⟩
        all_goals try exact KX
        all_goals try exact⟨⟨by simp <;> omega,by simp <;> omega⟩⟩
        conv=>whnf
        refine⟨⟨(m,k+1,vals,ms,⟨s2.out++[v],s2.visits⟩),by dsimp only;omega,hI.at (by have:=hI.lo;dsimp only;omega) (by dsimp only;omega),hvl,hvm,hVk.ext hxo,hRk⟩,?_,KD⟩
        repeat' ((conv=>whnf);first|apply Wx|apply W6|apply oi|(apply fi<;>intro h)|refine⟨_,rfl,?_⟩|exact rfl)
        all_goals try exact⟨KP⟩
        all_goals try exact⟨KW⟩
        all_goals try exact⟨by simp[ab]⟩
       ·have hsv:fR L ⟨3,nm,ag,ex⟩ vals v=vals:=by rw[fR,if_neg (by simp)]
        have hov:dB ⟨3,nm,ag,ex⟩ s2 v=s2:=by rw[dB,if_neg (by simp)]
        rw[if_neg (by simp),hsv,hov]at hRk
        by_cases hv0:v=0
        ·subst hv0
         have hnx:bA p ⟨3,nm,ag,ex⟩ k 0=ba p k+1:=by rw[bA,if_pos ⟨.inl rfl,rfl⟩]
         rw[hnx]at hRk
         have hsk:=hI.skip hp hk (.inl rfl) hkl
         obtain⟨ek,hek,_,_⟩:=br hI.en hI.lo hkl hk (by rw[opensK_iff];simp)
         have gs:=ml h60 lim calls s2 k ek hek
         repeat' ((conv=>whnf);first|apply Wx|apply W6|apply oi|(apply fi<;>intro h)|refine⟨k,(Ai.tr ⟨_,nm,ag,ex⟩),rfl,aa hk,?_⟩|refine cl hHE ?_|refine⟨_,rfl,?_⟩|exact rfl)
         all_goals try exact⟨KP⟩
         all_goals try exact KX
         refine cg (gv) ?_
         repeat' ((conv=>whnf);first|apply Wx|apply W6|apply oi|(apply fi<;>intro h)|refine⟨_,rfl,?_⟩|exact rfl)
         all_goals try exact⟨KP⟩
         refine cg (g) ?_
         repeat' ((conv=>whnf);first|apply Wx|apply W6|apply oi|(apply fi<;>intro h)|refine⟨_,rfl,?_⟩|exact rfl)
         all_goals try exact⟨KP⟩
         all_goals try exact KX
         refine cg (gs) ?_
         repeat' ((conv=>whnf);first|apply Wx|apply W6|apply oi|(apply fi<;>intro h)|refine⟨_,rfl,?_⟩|exact rfl)
         all_goals try exact⟨KP⟩
         conv=>whnf
         refine⟨⟨(m,ba p k+1,vals,ms,s2),by dsimp only;omega,hI.at (by have:=hI.lo;dsimp only;omega) (by dsimp only;omega),hvl,hvm,hV2,hRk⟩,?_,KD⟩
         repeat' ((conv=>whnf);first|apply Wx|apply W6|apply oi|(apply fi<;>intro h)|refine⟨_,rfl,?_⟩|exact rfl)
         all_goals try exact⟨KP⟩
         all_goals try exact⟨KW⟩
        ·have hnx:bA p ⟨3,nm,ag,ex⟩ k v=k+1:=by rw[bA,if_neg (fun h=>hv0 h.2)]
         rw[hnx]at hRk
         repeat' ((conv=>whnf);first|apply Wx|apply W6|apply oi|(apply fi<;>intro h)|refine⟨k,(Ai.tr ⟨_,nm,ag,ex⟩),rfl,aa hk,?_⟩|refine cl hHE ?_|refine⟨_,rfl,?_⟩|exact rfl)
         all_goals try exact⟨KP⟩
         all_goals try exact KX
         refine cg (gv) ?_
         repeat' ((conv=>whnf);first|apply Wx|apply W6|apply oi|(apply fi<;>intro h)|refine⟨_,rfl,?_⟩|exact rfl)
         all_goals try exact⟨KP⟩
         refine cg (g) ?_
         repeat' ((conv=>whnf);first|apply Wx|apply W6|apply oi|(apply fi<;>intro h)|refine⟨_,rfl,?_⟩|exact rfl)
         all_goals try exact⟨KP⟩
         all_goals try exact KX
         all_goals try(exfalso;simp at h;exact hv0 h)
         conv=>whnf
         refine⟨⟨(m,k+1,vals,ms,s2),by dsimp only;omega,hI.at (by have:=hI.lo;dsimp only;omega) (by dsimp only;omega),hvl,hvm,hV2,hRk⟩,?_,KD⟩
         repeat' ((conv=>whnf);first|apply Wx|apply W6|apply oi|(apply fi<;>intro h)|refine⟨_,rfl,?_⟩|exact rfl)
         all_goals try exact⟨KP⟩
         all_goals try exact⟨KW⟩
       ·have hsv:fR L ⟨5,nm,ag,ex⟩ vals v=vals:=by rw[fR,if_neg (by simp)]
        have hov:dB ⟨5,nm,ag,ex⟩ s2 v=s2:=by rw[dB,if_neg (by simp)]
        rw[if_neg (by simp),hsv,hov]at hRk
        by_cases hv0:v=0
        ·subst hv0
         have hnx:bA p ⟨5,nm,ag,ex⟩ k 0=ba p k+1:=by rw[bA,if_pos ⟨.inr rfl,rfl⟩]
         rw[hnx]at hRk
         have hsk:=hI.skip hp hk (.inr rfl) hkl
         obtain⟨ek,hek,_,_⟩:=br hI.en hI.lo hkl hk (by rw[opensK_iff];simp)
         have gs:=ml h60 lim calls s2 k ek hek
         repeat' ((conv=>whnf);first|apply Wx|apply W6|apply oi|(apply fi<;>intro h)|refine⟨k,(Ai.tr ⟨_,nm,ag,ex⟩),rfl,aa hk,?_⟩|refine cl hHE ?_|refine⟨_,rfl,?_⟩|exact rfl)
         all_goals try exact⟨KP⟩
         all_goals try exact KX
         refine cg (gv) ?_
         repeat' ((conv=>whnf);first|apply Wx|apply W6|apply oi|(apply fi<;>intro h)|refine⟨_,rfl,?_⟩|exact rfl)
         all_goals try exact⟨KP⟩
         refine cg (g) ?_
         repeat' ((conv=>whnf);first|apply Wx|apply W6|apply oi|(apply fi<;>intro h)|refine⟨_,rfl,?_⟩|exact rfl)
         all_goals try exact⟨KP⟩
         all_goals try exact KX
         refine cg (gs) ?_
         repeat' ((conv=>whnf);first|apply Wx|apply W6|apply oi|(apply fi<;>intro h)|refine⟨_,rfl,?_⟩|exact rfl)
         all_goals try exact⟨KP⟩
         conv=>whnf
         refine⟨⟨(m,ba p k+1,vals,ms,s2),by dsimp only;omega,hI.at (by have:=hI.lo;dsimp only;omega) (by dsimp only;omega),hvl,hvm,hV2,hRk⟩,?_,KD⟩
         repeat' ((conv=>whnf);first|apply Wx|apply W6|apply oi|(apply fi<;>intro h)|refine⟨_,rfl,?_⟩|exact rfl)
         all_goals try exact⟨KP⟩
         all_goals try exact⟨KW⟩
        ·have hnx:bA p ⟨5,nm,ag,ex⟩ k v=k+1:=by rw[bA,if_neg (fun h=>hv0 h.2)]
         rw[hnx]at hRk
         repeat' ((conv=>whnf);first|apply Wx|apply W6|apply oi|(apply fi<;>intro h)|refine⟨k,(Ai.tr ⟨_,nm,ag,ex⟩),rfl,aa hk,?_⟩|refine cl hHE ?_|refine⟨_,rfl,?_⟩|exact rfl)
         all_goals try exact⟨KP⟩
         all_goals try exact KX
         refine cg (gv) ?_
         repeat' ((conv=>whnf);first|apply Wx|apply W6|apply oi|(apply fi<;>intro h)|refine⟨_,rfl,?_⟩|exact rfl)
         all_goals try exact⟨KP⟩
         refine cg (g) ?_
         repeat' ((conv=>whnf);first|apply Wx|apply W6|apply oi|(apply fi<;>intro h)|refine⟨_,rfl,?_⟩|exact rfl)
         all_goals try exact⟨KP⟩
         all_goals try exact KX
         all_goals try(exfalso;simp at h;exact hv0 h)
         conv=>whnf
         refine⟨⟨(m,k+1,vals,ms,s2),by dsimp only;omega,hI.at (by have:=hI.lo;dsimp only;omega) (by dsimp only;omega),hvl,hvm,hV2,hRk⟩,?_,KD⟩
         repeat' ((conv=>whnf);first|apply Wx|apply W6|apply oi|(apply fi<;>intro h)|refine⟨_,rfl,?_⟩|exact rfl)
         all_goals try exact⟨KP⟩
         all_goals try exact⟨KW⟩
       ·rw[if_pos rfl]at hRk
        subst hRk
        repeat' ((conv=>whnf);first|apply Wx|apply W6|apply oi|(apply fi<;>intro h)|refine⟨k,(Ai.tr ⟨_,nm,ag,ex⟩),rfl,aa hk,?_⟩|refine cl hHE ?_|refine⟨_,rfl,?_⟩|exact rfl)
        all_goals try exact⟨KP⟩
        all_goals try exact KX
        refine cg (gv) ?_
        repeat' ((conv=>whnf);first|apply Wx|apply W6|apply oi|(apply fi<;>intro h)|refine⟨_,rfl,?_⟩|exact rfl)
        all_goals try exact⟨KP⟩
        refine cg (g) ?_
        repeat' ((conv=>whnf);first|apply Wx|apply W6|apply oi|(apply fi<;>intro h)|refine⟨_,rfl,?_⟩|exact rfl)
        all_goals try exact⟨KP⟩
        all_goals try exact KX
   ·have hke':k=en:=by have:=hI.hi;omega
    have h7:kd=7:=by omega
    subst h7
    obtain⟨ho,how⟩:=hI.own7 hp hk rfl
    have how:aD p k=f:=by rcases how with h|h;exact h.2;omega
    rw[be hk rfl,if_pos how]at hRk
    subst hRk
    rw[how]at ho
    have hog:=kD (p:=p) (.inl ho) hkp p.length (by omega)
    have hgt:((dk p p.length).map ab)[k]?=some (ab (f:Int)):=aa hog
    rw[show bP 7=false from rfl]at hHE
    repeat' ((conv=>whnf);first|apply Wx|apply W6|apply oi|(apply fi<;>intro h)|refine⟨k,(Ai.tr ⟨7,nm,ag,ex⟩),rfl,aa hk,?_⟩|refine cl hHE ?_|refine⟨k,(ab (f:Int)),rfl,hgt,?_⟩|refine⟨f,y.tr,rfl,aa hy,?_⟩|refine⟨_,rfl,?_⟩|exact rfl)
    all_goals try exact⟨KP⟩
    all_goals try exact KX
    all_goals try(exfalso;simp_all;done)
abbrev is0:IS:=⟨[],[]⟩
noncomputable def cE (p:List Ai) (lim:Int):Rr Int:=open Classical in
 if h:∃n,aA p lim n [] 0 1 (ca (localsOf p 0).length []) is0≠.fuel then aA p lim (Classical.choose h) [] 0 1 (ca (localsOf p 0).length []) is0 else .fuel
theorem gD {p:List Ai}{lim:Int}{n:Nat}(h:aA p lim n [] 0 1 (ca (localsOf p 0).length []) is0≠.fuel):cE p lim=aA p lim n [] 0 1 (ca (localsOf p 0).length []) is0:=by
 have hx:∃n,aA p lim n [] 0 1 (ca (localsOf p 0).length []) is0≠.fuel:=⟨n,h⟩
 rw[cE,dif_pos hx]
 have h2:=Classical.choose_spec hx
 rcases Nat.le_total n (Classical.choose hx)with hle|hle
 ·exact cX h hle
 ·exact(cX h2 hle).symm
theorem qX {p:List Ai}(h:ay p=true):∃y,p[0]?=some y∧y.faa=0∧y.fab=dh∧y.fad=[]:=by
 unfold ay at h
 simp only[Bool.and_eq_true,decide_eq_true_eq]at h
 have h4:=h.2.2.2.1
 unfold gw at h4
 match p,h4 with
 | y::q,h4=>
  simp only[Bool.and_eq_true,beq_iff_eq]at h4
  exact⟨y,rfl,h4.1,h4.2.1,List.length_eq_zero_iff.1 h4.2.2⟩
theorem fc {p:List Ai}(hp:PgOk p)(h:ay p=true){lim:Int}(h0:0≤lim):∃n,aA p lim n [] 0 1 (ca (localsOf p 0).length []) is0≠.fuel:=by
 obtain⟨y,hy,hy0,_⟩:=qX h
 obtain⟨e,hI⟩:=InF.start hp ⟨y,hy,hy0⟩
 exact ke hp 6 [] rfl 0 e 1 _ is0 (by simpa using h0) hI
theorem lu (p:List Ai)(hs:bc 1048576 (.lst 4 (p.map Ai.tr)))(hpo:ay p=true)(lim:Int)(h0:0≤lim)(h1:lim≤1000):
  bu Try.prog 8 [.r (.c (.t (.lst 4 (p.map Ai.tr)))),tI .i64 lim] [] (.r (.agg [.own (1,0,1),.own (1,0,2),.t (.int .i64 (cE p lim).val),.t (.int .i64 (cE p lim).code)])) [((1,0,1),.arr false 1 ((cE p lim).st.out.map ab)),((1,0,2),.dar 1 (ak ((cE p lim).st.visits.map aG)) none)]:=by
 have hp:=qS hs hpo
 obtain⟨n,hn⟩:=fc hp hpo h0
 have hP:=dK p hs
 rw[hpo]at hP
 have gl:=di lim 0 1000
 rw[show ae lim 0 1000=true by rw[within_iff];exact⟨h0,h1⟩]at gl
 obtain⟨y,hy,hy0,_,hya⟩:=qX hpo
 have hA:argsN p 0=0:=by rw[argsN,hy];dsimp only;rw[hya];rfl
 have gp:=wG hp hpo (lim:=lim) n [] 0 [] is0 ⟨y,hy,hy0⟩ (by rw[hA];rfl) ⟨h1,by simpa using h0,by simp,by simp⟩ hn
 rw[show(((0:Nat):Int))=0 from rfl,show(0:Nat)+1=1 from rfl,←gD hn]at gp
 have hcode:(∃v s,cE p lim= .ok v s)∨(∃c s,cE p lim= .stop c s∧(c=1∨c=2)):=by
  have hx:=bL (p:=p) (lim:=lim) n [] 0 1 (ca (localsOf p 0).length []) is0
  rw[gD hn]
  cases hr:aA p lim n [] 0 1 (ca (localsOf p 0).length []) is0 with
  | ok v s=>exact .inl ⟨v,s,rfl⟩
  | stop c s=>rw[hr]at hx;exact .inr ⟨c,s,rfl,hx.2⟩
  | fuel=>exact absurd hr hn
 generalize cE p lim=R at *
 refine aq hΓ au Try.func8 rfl (by decide) rfl rfl ?_
 repeat' ((conv=>whnf);first|(with_reducible apply W1;fail_if_success (with_reducible show Wo _ _ _ _ (Code.region 4 _ _) _ _))|(with_reducible first|apply W2|apply W3|apply W4|apply W5|apply W6|apply W7|apply W8|apply W9)|apply bE|apply oi|(apply fi<;>intro h)|refine cl hP ?_|refine cl gl ?_|refine⟨_,rfl,?_⟩|exact rfl)
 all_goals try exact⟨KP⟩
 all_goals try exact KX
 conv=>whnf
 refine wO ⟨[(4,.r (.c (.ptr (4,0,0) 0))),(5,.r (.c (.ptr (19,0,0) 0)))],[((4,0,0),some (.box [.nils 1,.nils 1,.t (.int .i64 0),.t (.int .i64 0)])),((19,0,0),some (.box [.t (.lst 4 (p.map Ai.tr)),.t (.int .i64 lim),.own (19,0,1),.own (19,0,2),.t (.int .i64 0),.t (.int .i64 0),.own (19,0,3)])),((19,0,1),some (.arr false 1 [])),((19,0,2),some (.dar 1 [] none)),((19,0,3),some (.arr false 1 []))],[19,4,0]⟩ ?_ ?_
 ·skip
  repeat' ((conv=>whnf);first|apply Wx|apply W6|apply oi|(apply fi<;>intro h)|refine⟨_,rfl,?_⟩|exact rfl)
  all_goals try exact⟨KP⟩
 rcases hcode with⟨v,s,rfl⟩|⟨c,s,rfl,hc⟩
 ·dsimp only[Rr.val,Rr.st,Rr.code]at gp ⊢
  repeat' ((conv=>whnf);first|apply Wx|apply W6|apply oi|(apply fi<;>intro h)|refine⟨_,rfl,?_⟩|exact rfl)
  all_goals try exact⟨KP⟩
  refine cg (gp) ?_
  repeat' ((conv=>whnf);first|apply Wx|apply W6|apply oi|(apply fi<;>intro h)|refine⟨_,rfl,?_⟩|exact rfl)
  all_goals try exact⟨KP⟩
  all_goals try exact⟨⟨_,rfl⟩⟩
 ·dsimp only[Rr.val,Rr.st,Rr.code]at gp ⊢
  repeat' ((conv=>whnf);first|apply Wx|apply W6|apply oi|(apply fi<;>intro h)|refine⟨_,rfl,?_⟩|exact rfl)
  all_goals try exact⟨KP⟩
  refine cg (gp) ?_
  repeat' ((conv=>whnf);first|apply Wx|apply W6|apply oi|(apply fi<;>intro h)|refine⟨_,rfl,?_⟩|exact rfl)
  all_goals try exact⟨KP⟩
  all_goals try(exfalso;simp at h;omega)
  all_goals try exact⟨⟨_,rfl⟩⟩
abbrev clH (p:List Ai)(lim:Int)(s:IS):List (Sim.Id×AO):=[((0,0,0),.box [.ptr (0,0,2) 0]),((0,0,1),.box [.nils 1,.nils 1,.t (.int .i64 0),.t (.int .i64 0)]),
 ((0,0,2),.box [.t (.lst 4 (p.map Ai.tr)),.t (.int .i64 lim),.opq,.own (0,0,3),.own (0,0,4),.t (.int .i64 0),.t (.int .i64 0),.t (.lst 1 ((dk p p.length).map ab))]),((0,0,3),.arr false 1 (s.out.map ab)),((0,0,4),.dar 1 (ak (s.visits.map aG)) none)]
abbrev clE (s:IS)(c:Int):List (Sim.Id×AO):=[((0,0,1),.box [.own (0,0,3),.own (0,0,4),.t (.int .i64 0),.t (.int .i64 c)]),((0,0,3),.arr false 1 (s.out.map ab)),((0,0,4),.dar 1 (ak (s.visits.map aG)) none)]
theorem ob {a:Act}{d t:Nat}{v:Value}(hd:d < a.tmps.size):(a.put (some d) v).eval (.tmp t)=if t=d then v else a.eval (.tmp t):=by
 have:=dS a d v t hd
 simpa [Act.eval,Array.getD_eq_getD_getElem?]using this
theorem tN {v s7 s8:Value}{a:Act}{w:World}(hv:a.eval (.tmp 5)=v)(hr:∀o:Oper,o.op= .typeAssert (.tmp 5) 20 67 true→(execOp (fun _=>v) o).run Try.prog w= .ok (.value (.tuple #[s7,s8])) w):∀o:Oper,o.op= .typeAssert (.tmp 5) 20 67 true→(execOp a.eval o).run Try.prog w= .ok (.value (.tuple #[s7,s8])) w:=fun o ho=>by
 have:=hr o ho
 simp only[execOp,ho]at this ⊢
 rw[hv]
 exact this
theorem xq {v:Value}{a:Act}{w:World}{t:Nat}(hv:a.eval (.tmp t)=v):∀o:Oper,o.op= .move (.tmp t)→(execOp a.eval o).run Try.prog w= .ok (.value v) w:=fun o ho=>by
 simp only[execOp,ho]
 rw[hv]
 rfl
theorem mh {v:Value}{vs:Array Value}{a:Act}{w:World}{t i:Nat}(hv:a.eval (.tmp t)= .tuple vs)(hi:vs[i]?=some v):∀o:Oper,o.op= .extract (.tmp t) i→(execOp a.eval o).run Try.prog w= .ok (.value v) w:=fun o ho=>by
 simp only[execOp,ho]
 rw[hv]
 simp[Instr.extract,hi]
theorem pG {ops:Array Oper}{u u':FrameMode}{v s7 s8:Value}(hsz8:ops.size=8){o0 o1 o2 o3 o4:Oper}(h0:ops[0]?=some o0)(h1:ops[1]?=some o1)(h2:ops[2]?=some o2)(h3:ops[3]?=some o3)(h4:ops[4]?=some o4)
  (p0:o0.op= .call {callee:= .builtin .recover,args:=#[],argTypes:=#[]}) (p1:o1.op= .typeAssert (.tmp 5) 20 67 true) (p2:o2.op= .move (.tmp 6)) (p3:o3.op= .extract (.tmp 4) 0) (p4:o4.op= .extract (.tmp 4) 1)
  (d0:o0.dst=some 5) (d1:o1.dst=some 6) (d2:o2.dst=some 4) (d3:o3.dst=some 7) (d4:o4.dst=some 8) (g0:o0.guard=none) (g1:o1.guard=none) (g2:o2.guard=none) (g3:o3.guard=none) (g4:o4.guard=none)
  (hr:∀(c₀:Frame) (cs:List Frame),c₀.mode=u→recoverD (c₀::cs)=some (v,{c₀ with mode:=u'}::cs)∨(recoverD (c₀::cs)=none∧v= .nilIface∧{c₀ with mode:=u'}::cs=c₀::cs))
  (ha:∀(w:World) (o:Oper),o.op= .typeAssert (.tmp 5) 20 67 true→(execOp (fun _=>v) o).run Try.prog w= .ok (.value (.tuple #[s7,s8])) w)
  (a:Act) (c₀:Frame) (cs:List Frame) (w:World) (Q:Exit→Act→List Frame→World→Prop) (hsz:a.tmps.size=23) (hm:c₀.mode=u) (h:wpOpsS Try.prog ops Q [5,6,7] (qw a v s7 s8) ({c₀ with mode:=u'}::cs) w):wpOpsS Try.prog ops Q (List.range ops.size) a (c₀::cs) w:=by
 rw[hsz8,show List.range 8=[0,1,2,3,4,5,6,7] from rfl]
 refine ue h0 p0 d0 g0 (fun o ho=>?_) (hr c₀ cs hm) ?_
 ·simp only[execOp,ho]
  rfl
 refine gJ h1 p1 d1 g1 (tN (by rw[ob (by omega),if_pos rfl]) (ha w)) ?_
 refine gJ h2 p2 d2 g2 (xq (by rw[ob (by simp only[bi];omega),if_pos rfl])) ?_
 refine gJ h3 p3 d3 g3 (mh (vs:=#[s7,s8]) (by rw[ob (by simp only[bi];omega),if_pos rfl]) rfl) ?_
 refine gJ h4 p4 d4 g4 (mh (vs:=#[s7,s8]) (by rw[ob (by simp only[bi];omega),if_neg (by decide),ob (by simp only[bi];omega),if_pos rfl]) rfl) ?_
 exact h
theorem wq (p:List Ai)(lim:Int)(s:IS)(c:Int):mx (pH Try.prog 33 (.panicking [{v:=gS c,recovered:=false}]) (.panicking [{v:=gS c,recovered:=true}])) [ic,iA] (clH p lim s) (clE s c):=by
 refine nw (Γ:=Γ) (v5:=gS c) (s7:= .agg #[.int .i64 c]) (s8:= .bool true) (x7:= .r (.agg [.t (.int .i64 c)])) (x8:=tB true) hΓ au Try.func33 rfl rfl (by decide) (fun B ρ w ok=>⟨_,rfl,.int _ _,trivial⟩) (fun B ρ w ok=> .bool _) rfl ?_ rfl ?_
 ·refine pG rfl rfl rfl rfl rfl rfl rfl rfl rfl rfl rfl rfl rfl rfl rfl rfl rfl rfl rfl rfl rfl (fun c₀ cs hm=> .inl (by simp[recoverD,hm])) (fun w o ho=>?_)
  simp only[execOp,ho]
  kernel_rfl
 ·conv=>whnf
  repeat' ((conv=>whnf);first|apply Wx|apply W6|apply oi|(apply fi<;>intro h)|refine⟨_,rfl,?_⟩|exact rfl)
  all_goals try exact⟨KP⟩
theorem we:mx (pH Try.prog 33 .returning .returning) [.r (.c .opq),.r (.c .opq)] [] []:=by
 refine nw (Γ:=Γ) (v5:= .nilIface) (s7:= .agg #[.int .i64 0]) (s8:= .bool false) (x7:= .r (.agg [.t (.int .i64 0)])) (x8:=tB false) hΓ au Try.func33 rfl rfl (by decide) (fun B ρ w ok=>⟨_,rfl,.int _ _,trivial⟩) (fun B ρ w ok=> .bool _) rfl ?_ rfl ?_
 ·refine pG rfl rfl rfl rfl rfl rfl rfl rfl rfl rfl rfl rfl rfl rfl rfl rfl rfl rfl rfl rfl rfl (fun c₀ cs hm=> .inr ⟨by simp[recoverD,hm],rfl,by rw[←hm]⟩) (fun w o ho=>?_)
  simp only[execOp,ho]
  kernel_rfl
 ·conv=>whnf
  repeat' ((conv=>whnf);first|apply Wx|apply W6|apply oi|(apply fi<;>intro h)|refine⟨_,rfl,?_⟩|exact rfl)
  all_goals try exact⟨KP⟩
abbrev tlH (p:List Ai)(lim:Int):List (Sim.Id×AO):=[((0,0,0),.box [.ptr (0,0,2) 0]),((0,0,1),.box [.nils 1,.nils 1,.t (.int .i64 0),.t (.int .i64 0)]),
 ((0,0,2),.box [.t (.lst 4 (p.map Ai.tr)),.t (.int .i64 lim),.own (0,0,5),.own (0,0,3),.own (0,0,4),.t (.int .i64 0),.t (.int .i64 0),.own (0,0,6)]),((0,0,3),.arr false 1 []),((0,0,4),.dar 1 [] none),((0,0,5),.arr false 1 []),((0,0,6),.arr false 1 ((dk p p.length).map ab))]
abbrev tlV (p:List Ai)(lim:Int):List (Sim.Id×AO):=[((0,0,0),.box [.ptr (0,0,2) 0]),((0,0,1),.box [.nils 1,.nils 1,.t (.int .i64 0),.t (.int .i64 0)]),((0,0,2),rnB p lim (0,0,3) (0,0,4) (0,0,5)),((0,0,3),.arr false 1 []),((0,0,4),.dar 1 [] none),((0,0,5),.arr false 1 [])]
theorem pr {p:List Ai}{lim:Int}{c:Code}{K:Out→St→Prop}(h:Wo false Try.prog Γ 32 c K ⟨[(5,ic),(4,iA)],(tlV p lim).map (fun p=>(p.1,some p.2)),[0]⟩):Wo false Try.prog Γ 32 c K ⟨[(5,ic),(4,iA)],(tlH p lim).map (fun p=>(p.1,some p.2)),[0]⟩:=by
 refine tP ⟨[(5,ic),(4,iA)],(tlV p lim).map (fun p=>(p.1,some p.2)),[0]⟩ ?_ ?_ rfl h
 ·exact⟨.inl rfl,.inl rfl,trivial⟩
 ·have tq:∀{H H':Sim.Id→Option AO} {o:Sim.Id} {t:Tr},cd H (.own o) t→H' o=none→vwC H H' (.own o) (.t t):=fun h1 h2=> .inr (.inr ⟨_,rfl,h1,fun q hq=>by simp only[AC.ids,List.mem_cons,List.not_mem_nil,or_false]at hq;subst hq;exact h2⟩)
  exact⟨.inr (.inl rfl),.inr (.inl rfl),.inr (.inr (.inl ⟨_,_,rfl,rfl,.inl rfl,.inl rfl,.inl rfl,.inl rfl,.inl rfl,.inl rfl,.inl rfl,tq rfl rfl,trivial⟩)),.inr (.inl rfl),.inr (.inl rfl),.inr (.inl rfl),trivial⟩
abbrev tlE (s:IS)(v c:Int):List (Sim.Id×AO):=[((0,0,1),.box [.own (1,0,3),.own (1,0,4),.t (.int .i64 v),.t (.int .i64 c)]),((1,0,3),.arr false 1 (s.out.map ab)),((1,0,4),.dar 1 (ak (s.visits.map aG)) none)]
noncomputable abbrev oZ:Code:=match Try.f10.body with
 | some (.seq _ (.seq _ (.seq _ (.seq _ t))))=>t
 | _=> .skip
theorem mu:lQ Try.prog 33:=eC Try.func33 rfl rfl
theorem xR {p:List Ai}{lim:Int}{v:Int}{s:IS}(gf:bu Try.prog 34 [.r (.c (.ptr (0,0,0) 0)),tI .i64 ((0:Nat):Int),.r (.c (.t (.lst 1 [])))] (rnH (0,0,1) (0,0,2) (0,0,3) p lim [] is0) (tI .i64 v) (rnH (1,0,1) (1,0,2) (1,0,3) p lim [] s)):
  mx (oK Try.prog Try.f10 oZ 33) [ic,iA] (tlH p lim) (tlE s v 0):=by
 refine oG (Γ:=Γ) hΓ au mu rfl rfl ?_
 show Wo false Try.prog Γ 32 oZ _ _
 refine pr ?_
 repeat' ((conv=>whnf);first|apply Wx|apply W6|apply oi|(apply fi<;>intro h)|refine⟨_,rfl,?_⟩|exact rfl)
 all_goals try exact⟨KP⟩
 refine cg (gf) ?_
 repeat' ((conv=>whnf);first|apply Wx|apply W6|apply oi|(apply fi<;>intro h)|refine⟨_,rfl,?_⟩|exact rfl)
 all_goals try exact⟨KP⟩
 all_goals try exact⟨⟨_,rfl⟩⟩
 conv=>whnf
 refine⟨⟨[(5,ic),(4,iA)],[((0,0,1),some (.box [.own (24,0,1),.own (24,0,2),.t (.int .i64 v),.t (.int .i64 0)])),((24,0,1),some (.arr false 1 (s.out.map ab))),((24,0,2),some (.dar 1 (ak (s.visits.map aG)) none))],[24,0]⟩,?_,rfl,rfl,rfl,⟨_,_,_,we,?_⟩⟩
 ·skip
  repeat' ((conv=>whnf);first|apply Wx|apply W6|apply oi|(apply fi<;>intro h)|refine⟨_,rfl,?_⟩|exact rfl)
  all_goals try exact⟨KP⟩
 ·skip
  repeat' ((conv=>whnf);first|apply Wx|apply W6|apply oi|(apply fi<;>intro h)|refine⟨_,rfl,?_⟩|exact rfl)
  all_goals try exact⟨KP⟩
theorem wF {p:List Ai}{lim:Int}{c:Int}{s:IS}(gf:py Try.prog 34 [.r (.c (.ptr (0,0,0) 0)),tI .i64 ((0:Nat):Int),.r (.c (.t (.lst 1 [])))] (rnH (0,0,1) (0,0,2) (0,0,3) p lim [] is0) (gS c) (rnP (1,0,1) (1,0,2) p lim s)):
  mx (oK Try.prog Try.f10 oZ 33) [ic,iA] (tlH p lim) (tlE s 0 c):=by
 refine oG (Γ:=Γ) hΓ au mu rfl rfl ?_
 show Wo false Try.prog Γ 32 oZ _ _
 refine pr ?_
 repeat' ((conv=>whnf);first|with_reducible refine vY (id:=5) 2 ?_ ?_|((with_reducible show qv _=true);kernel_rfl)|refine Both.mk ?_ ?_|with_reducible apply Wx|with_reducible apply W6|refine cp gf ?_|apply oi|(apply fi<;>intro h)|refine True.intro|refine⟨_,rfl,?_⟩|exact rfl)
 all_goals try exact⟨KP⟩
 all_goals try exact⟨⟨_,rfl⟩⟩
 all_goals(conv=>whnf)
 all_goals refine⟨⟨[(5,ic),(4,iA)],[((0,0,0),some (.box [.ptr (0,0,2) 0])),((0,0,1),some (.box [.nils 1,.nils 1,.t (.int .i64 0),.t (.int .i64 0)])),
  ((0,0,2),some (.box [.t (.lst 4 (p.map Ai.tr)),.t (.int .i64 lim),.opq,.own (24,0,1),.own (24,0,2),.t (.int .i64 0),.t (.int .i64 0),.t (.lst 1 ((dk p p.length).map ab))])),
  ((24,0,1),some (.arr false 1 (s.out.map ab))),((24,0,2),some (.dar 1 (ak (s.visits.map aG)) none))],[24,0]⟩,?_,rfl,rfl,rfl,⟨_,_,_,wq p lim s c,?_⟩⟩
 repeat' ((conv=>whnf);first|apply Wx|apply W6|apply oi|(apply fi<;>intro h)|refine⟨_,rfl,?_⟩|exact rfl)
 all_goals try exact⟨KP⟩
theorem lH (p:List Ai)(hs:bc 1048576 (.lst 4 (p.map Ai.tr)))(hpo:ay p=true)(lim:Int)(h0:0≤lim)(h1:lim≤1000):
  bu Try.prog 10 [.r (.c (.t (.lst 4 (p.map Ai.tr)))),tI .i64 lim] [] (.r (.agg [.own (1,0,1),.own (1,0,2),.t (.int .i64 (cE p lim).val),.t (.int .i64 (cE p lim).code)])) [((1,0,1),.arr false 1 ((cE p lim).st.out.map ab)),((1,0,2),.dar 1 (ak ((cE p lim).st.visits.map aG)) none)]:=by
 have hp:=qS hs hpo
 obtain⟨n,hn⟩:=fc hp hpo h0
 have hP:=fP p hs
 rw[hpo]at hP
 have gl:=aU lim 0 1000
 rw[show ae lim 0 1000=true by rw[within_iff];exact⟨h0,h1⟩]at gl
 have hO:=po p hp.len
 obtain⟨y,hy,hy0,_,hya⟩:=qX hpo
 have hA:argsN p 0=0:=by rw[argsN,hy];dsimp only;rw[hya];rfl
 have gp:=yc hp hpo (lim:=lim) n [] 0 [] is0 ⟨y,hy,hy0⟩ (by rw[hA];rfl) ⟨h1,by simpa using h0,by simp,by simp⟩ hn
 rw[show(((0:Nat):Int))=0 from rfl,show(0:Nat)+1=1 from rfl,←gD hn]at gp
 have hcode:∃v s c,(cE p lim).val=v∧(cE p lim).st=s∧(cE p lim).code=c∧mx (oK Try.prog Try.f10 oZ 33) [ic,iA] (tlH p lim) (tlE s v c):=by
  have hx:=bL (p:=p) (lim:=lim) n [] 0 1 (ca (localsOf p 0).length []) is0
  rw[←gD hn]at hx hn
  cases hr:cE p lim with
  | ok v s=>rw[hr]at gp;exact⟨v,s,0,rfl,rfl,rfl,xR gp⟩
  | stop c s=>rw[hr]at gp;exact⟨0,s,c,rfl,rfl,rfl,wF gp⟩
  | fuel=>exact absurd hr hn
 obtain⟨v,s,c,hv,hst,hc,ht⟩:=hcode
 rw[hv,hst,hc]
 refine sc hΓ Try.func10 rfl rfl rfl rfl fun B M w0 ρ a w Q hF hd hco hQ=>?_
 refine qV hΓ au hF hco (S:=⟨[(0,.r (.c (.t (.lst 4 (p.map Ai.tr))))),(1,tI .i64 lim),(4,.r (.c (.ptr (4,0,0) 0)))],[((4,0,0),some (.box [.nils 1,.nils 1,.t (.int .i64 0),.t (.int .i64 0)]))],[4,0]⟩) ?_ fun ρ1 a1 w1 hc1=>?_
 ·skip
  repeat' ((conv=>whnf);first|apply Wx|apply W6|apply oi|(apply fi<;>intro h)|refine⟨_,rfl,?_⟩|exact rfl)
  all_goals try exact⟨KP⟩
 refine qV hΓ au hF hc1 (S:=⟨[(0,.r (.c (.t (.lst 4 (p.map Ai.tr))))),(1,tI .i64 lim),(4,.r (.c (.ptr (4,0,0) 0)))],[((4,0,0),some (.box [.nils 1,.nils 1,.t (.int .i64 0),.t (.int .i64 0)]))],[4,0]⟩) ?_ fun ρ2 a2 w2 hc2=>?_
 ·skip
  repeat' ((conv=>whnf);first|apply Wx|apply W6|apply oi|(apply fi<;>intro h)|refine cl hP ?_|refine cl gl ?_|refine⟨_,rfl,?_⟩|exact rfl)
  all_goals try exact⟨KP⟩
  all_goals try exact KX
 refine qV hΓ au hF hc2 (S:=⟨[(5,.r (.c (.ptr (5,0,0) 0))),(4,.r (.c (.ptr (4,0,0) 0)))],[((4,0,0),some (.box [.nils 1,.nils 1,.t (.int .i64 0),.t (.int .i64 0)])),((5,0,0),some (.box [.ptr (20,0,0) 0])),
  ((20,0,0),some (.box [.t (.lst 4 (p.map Ai.tr)),.t (.int .i64 lim),.own (20,0,1),.own (20,0,2),.own (20,0,3),.t (.int .i64 0),.t (.int .i64 0),.own (18,0,0)])),((20,0,1),some (.arr false 1 [])),((20,0,2),some (.arr false 1 [])),((20,0,3),some (.dar 1 [] none)),((18,0,0),some (.arr false 1 ((dk p p.length).map ab)))],[20,18,5,4,0]⟩) ?_ fun ρ3 a3 w3 hc3=>?_
 ·skip
  repeat' ((conv=>whnf);first|apply Wx|apply W6|apply oi|(apply fi<;>intro h)|refine cl hO ?_|refine⟨_,rfl,?_⟩|exact rfl)
  all_goals try exact⟨KP⟩
 refine wD hΓ hF hd hc3 rfl (by decide) (by decide) (by decide) rfl rfl rfl rfl rfl (fun a w=>?_) (fun a w vs h=>?_) ⟨_,_,_,ht,?_⟩ hQ
 ·simp[execOp,Instr.makeFunc]
 ·simp[execOp,resolve,h,Deferred.ofValue]
 ·skip
  repeat' ((conv=>whnf);first|apply Wx|apply W6|apply oi|(apply fi<;>intro h)|refine⟨_,rfl,?_⟩|exact rfl)
  all_goals try exact⟨KP⟩
def vp (Φ:IS→Prop){α:Type}(r:Rr α):Prop:=match r with
 | .ok _ s=>Φ s
 | .stop _ s=>Φ s
 | .fuel=>True
section
variable {p:List Ai} {locals:List (List UInt8)} {vals:List Int} {call:fw} {Φ:IS→Prop}
mutual
theorem ur (h:∀g av s,Φ s→vp Φ (call g av s)):∀(e:Ex) (s:IS),Φ s→vp Φ (evE p locals vals call e s)
 | .node t es,s,hs=>by
  have h1:=rW h es s hs
  rw[evE]
  cases hr:aE p locals vals call es s with
  | ok av s1=>
   rw[hr]at h1
   rw[Rr.bnd_ok,cF]
   split
   ·exact h1
   ·split
    ·exact h1
    ·split
     ·exact h _ _ _ h1
     ·exact h1
  | stop c s1=>rw[hr]at h1;exact h1
  | fuel=>trivial
theorem rW (h:∀g av s,Φ s→vp Φ (call g av s)):∀(es:List Ex) (s:IS),Φ s→vp Φ (aE p locals vals call es s)
 | [],s,hs=>by rw[aE];exact hs
 | a::es,s,hs=>by
  have h1:=ur h a s hs
  rw[aE]
  cases hr:evE p locals vals call a s with
  | ok v s1=>
   rw[hr]at h1
   rw[Rr.bnd_ok]
   have h2:=rW h es s1 h1
   cases hr2:aE p locals vals call es s1 with
   | ok vs s2=>rw[hr2]at h2;exact h2
   | stop c s2=>rw[hr2]at h2;exact h2
   | fuel=>trivial
  | stop c s1=>rw[hr]at h1;exact h1
  | fuel=>trivial
end
theorem eT {lim:Int}(hvis:∀(calls:List Int) (k:Nat) (s:IS),calls.length≤6→Φ s→Φ ⟨s.out,s.visits++[calls++[(k:Int)]]⟩)(hout:∀(s:IS) (v:Int),Φ s→Φ ⟨s.out++[v],s.visits⟩):
  ∀(n:Nat) (calls:List Int) (f k:Nat) (vals:List Int) (s:IS),calls.length≤6→Φ s→vp Φ (aA p lim n calls f k vals s)
 | 0,_,_,_,_,_,_,_=>trivial
 | n+1,calls,f,k,vals,s,hc,hs=>by
  cases hk:p[k]? with
  | none=>rw[cZ hk];exact hs
  | some ln=>
   by_cases h7:ln.faa=7
   ·rw[be hk h7]
    split
    ·exact hs
    ·exact eT hvis hout n _ _ _ _ _ hc hs
   by_cases h4:ln.faa=4
   ·rw[bH hk h4]
    exact eT hvis hout n _ _ _ _ _ hc hs
   by_cases hv:(s.visits.length:Int)=lim
   ·rw[bY hk h7 h4 hv];exact hs
   ·rw[bV hk h7 h4 hv]
    have hcall:∀g av s,Φ s→vp Φ (az p lim n calls k g av s):=by
     intro g av s' hs'
     unfold az
     split
     ·exact hs'
     ·exact eT hvis hout n _ _ _ _ _ (by rw[List.length_append];simp;omega) hs'
    have he:=ur (p:=p) (locals:=localsOf p (f:Int)) (vals:=vals) hcall (exL ln.fac) _ (hvis calls k s hc hs)
    cases hr:evE p (localsOf p (f:Int)) vals (az p lim n calls k) (exL ln.fac) ⟨s.out,s.visits++[calls++[(k:Int)]]⟩with
    | ok v s1=>
     rw[hr]at he
     rw[Rr.bnd_ok]
     split
     ·exact he
     ·refine eT hvis hout n _ _ _ _ _ hc ?_
      unfold dB
      split
      ·exact hout _ _ he
      ·exact he
    | stop c s1=>rw[hr]at he;exact he
    | fuel=>trivial
end
structure RunOk (lim:Int) (R:Rr Int):Prop where
 nf:R≠.fuel
 vis:(R.st.visits.length:Int)≤lim
 out:R.st.out.length≤R.st.visits.length
 rows:∀x∈R.st.visits,x.length≤7
 code:R.code=0∨R.code=1∨R.code=2
theorem mT {p:List Ai}(hp:PgOk p)(h:ay p=true){lim:Int}(h0:0≤lim):RunOk lim (cE p lim):=by
 obtain⟨n,hn⟩:=fc hp h h0
 rw[gD hn]
 have hx:=bL (p:=p) (lim:=lim) n [] 0 1 (ca (localsOf p 0).length []) is0
 have hr:=eT (p:=p) (lim:=lim) (Φ:=fun s=>∀x∈s.visits,x.length≤7) (fun calls k s hc hs x hx=>by
  rcases List.mem_append.1 hx with hx|hx
  ·exact hs x hx
  ·rw[List.mem_singleton]at hx;subst hx;rw[List.length_append];simp;omega) (fun s v hs=>hs) n [] 0 1 (ca (localsOf p 0).length []) is0 (by simp) (fun x hx=>by cases hx)
 cases hR:aA p lim n [] 0 1 (ca (localsOf p 0).length []) is0 with
 | fuel=>exact absurd hR hn
 | ok v s=>
  rw[hR]at hx hr
  have h1:=hx.le (by simpa using h0)
  have h2:=hx.ol
  exact⟨(fun e=>by cases e),h1,(show s.out.length≤s.visits.length by simpa using h2),hr,.inl rfl⟩
 | stop c s=>
  rw[hR]at hx hr
  have h1:=hx.1.le (by simpa using h0)
  have h2:=hx.1.ol
  exact⟨(fun e=>by cases e),h1,(show s.out.length≤s.visits.length by simpa using h2),hr,.inr hx.2⟩
end Go.Proofs.Ytjmplnfiabmalaa
namespace Go.Proofs.Ytjmplnfiabmalaa
open Go.Sim Go.RowKit
set_option maxRecDepth 100000
structure Ao where
 fal:List Int
 fax:List (List Int)
 faq:Int
 fah:Int
def Ao.tr (x:Ao):List Tr:=[.lst 1 (x.fal.map ab),.lst 1 (x.fax.map (wm 1 ab)),.int .i64 x.faq,.int .i64 x.fah]
def Ao.wf (x:Ao):Prop:=(x.fal.length≤maxLen∧∀y∈x.fal,inI y)∧(x.fax.length≤maxLen∧∀y∈x.fax,(y.length≤maxLen∧∀z∈y,inI z))∧inI x.faq∧inI x.fah
end Go.Proofs.Ytjmplnfiabmalaa
namespace Go.Proofs.Ytjmplnfiabmalaa
open Go.Sim
set_option maxRecDepth 100000
set_option maxHeartbeats 4000000
noncomputable def ivR (p:List Ai) (lim:Int):Ao:=if(ay p && ae lim 0 1000)=true then⟨(cE p lim).st.out,(cE p lim).st.visits,(cE p lim).val,(cE p lim).code⟩else⟨[],[],0,3⟩
abbrev ivE (x:Ao):List (Sim.Id×AO):=[((1,0,1),.arr false 1 (x.fal.map ab)),((1,0,2),.dar 1 (ak (x.fax.map (wm 1 ab))) none)]
abbrev ivV (x:Ao):AV:= .r (.agg [.own (1,0,1),.own (1,0,2),.t (.int .i64 x.faq),.t (.int .i64 x.fah)])
theorem qi {p:List Ai}{lim:Int}(h:¬(ay p && ae lim 0 1000)=true):ivR p lim=⟨[],[],0,3⟩:=by rw[ivR,if_neg h]
theorem uc {p:List Ai}{lim:Int}(h:(ay p && ae lim 0 1000)=true):ivR p lim=⟨(cE p lim).st.out,(cE p lim).st.visits,(cE p lim).val,(cE p lim).code⟩:=by rw[ivR,if_pos h]
theorem kG (p:List Ai)(hs:bc 1048576 (.lst 4 (p.map Ai.tr)))(lim:Int):
  bu Try.prog 8 [.r (.c (.t (.lst 4 (p.map Ai.tr)))),tI .i64 lim] [] (ivV (ivR p lim)) (ivE (ivR p lim)):=by
 by_cases h:(ay p && ae lim 0 1000)=true
 ·rw[uc h]
  rw[Bool.and_eq_true,within_iff]at h
  exact lu p hs h.1 lim h.2.1 h.2.2
 rw[qi h]
 have hP:=dK p hs
 have gl:=di lim 0 1000
 generalize ay p=b1 at *
 generalize ae lim 0 1000=b2 at *
 refine aq hΓ au Try.func8 rfl (by decide) rfl rfl ?_
 repeat' ((conv=>whnf);first|(with_reducible apply W1;fail_if_success (with_reducible show Wo _ _ _ _ (Code.region 4 _ _) _ _))|(with_reducible first|apply W2|apply W3|apply W4|apply W5|apply W6|apply W7|apply W8|apply W9)|apply bE|apply oi|(apply fi<;>intro h)|refine cl hP ?_|refine cl gl ?_|refine⟨_,rfl,?_⟩|exact rfl)
 all_goals try exact⟨KP⟩
 all_goals try(exfalso;revert h;cases b1 <;> cases b2 <;> simp_all;done)
theorem kp (p:List Ai)(hs:bc 1048576 (.lst 4 (p.map Ai.tr)))(lim:Int):
  bu Try.prog 10 [.r (.c (.t (.lst 4 (p.map Ai.tr)))),tI .i64 lim] [] (ivV (ivR p lim)) (ivE (ivR p lim)):=by
 by_cases h:(ay p && ae lim 0 1000)=true
 ·rw[uc h]
  rw[Bool.and_eq_true,within_iff]at h
  exact lH p hs h.1 lim h.2.1 h.2.2
 rw[qi h]
 have hP:=fP p hs
 have gl:=aU lim 0 1000
 generalize ay p=b1 at *
 generalize ae lim 0 1000=b2 at *
 refine aq hΓ au Try.func10 rfl (by decide) rfl rfl ?_
 repeat' ((conv=>whnf);first|(with_reducible apply W1;fail_if_success (with_reducible show Wo _ _ _ _ (Code.region 3 _ _) _ _))|(with_reducible first|apply W2|apply W3|apply W4|apply W5|apply W6|apply W7|apply W8|apply W9)|apply bE|apply oi|(apply fi<;>intro h)|refine cl hP ?_|refine cl gl ?_|refine⟨_,rfl,?_⟩|exact rfl)
 all_goals try exact⟨KP⟩
 all_goals try(exfalso;revert h;cases b1 <;> cases b2 <;> simp_all;done)
theorem li (p:List Ai)(hs:bc 1048576 (.lst 4 (p.map Ai.tr)))(lim:Int):Sim.Spec Try.prog 8 [tvP p,tvI lim] (.r (.agg ((ivR p lim).tr.map zc))):=by
 refine pw (ts:=[tvP p,tvI lim]) (kG p hs lim) rfl ⟨trivial,trivial,trivial,trivial,trivial⟩ ⟨rfl,rfl,?_⟩
 repeat' ((conv=>whnf);first|exact rfl|exact trivial|(refine And.intro ?_ ?_))
 all_goals first|rfl|exact dc _
theorem fE (p:List Ai)(hs:bc 1048576 (.lst 4 (p.map Ai.tr)))(lim:Int):Sim.Spec Try.prog 10 [tvP p,tvI lim] (.r (.agg ((ivR p lim).tr.map zc))):=by
 refine pw (ts:=[tvP p,tvI lim]) (kp p hs lim) rfl ⟨trivial,trivial,trivial,trivial,trivial⟩ ⟨rfl,rfl,?_⟩
 repeat' ((conv=>whnf);first|exact rfl|exact trivial|(refine And.intro ?_ ?_))
 all_goals first|rfl|exact dc _
def Pre (s s':IS):Prop:=s.out <+:s'.out∧s.visits <+:s'.visits
def PreR (s:IS){α:Type}(r:Rr α):Prop:=match r with
 | .ok _ s'=>Pre s s'
 | .stop _ s'=>Pre s s'
 | .fuel=>True
theorem Pre.trans {a b c:IS}(h:Pre a b)(h':Pre b c):Pre a c:=⟨h.1.trans h'.1,h.2.trans h'.2⟩
theorem PreR.trans {a b:IS}{α:Type}{r:Rr α}(h:Pre a b)(h':PreR b r):PreR a r:=by
 cases r with
 | ok v s=>exact Pre.trans h h'
 | stop c s=>exact Pre.trans h h'
 | fuel=>trivial
theorem ExtR.pre {l:Int}{s:IS}{α:Type}{r:Rr α}(h:ExtR l s r):PreR s r:=by
 cases r with
 | ok v s=>exact⟨Ext.out h,Ext.vis h⟩
 | stop c s=>exact⟨h.1.out,h.1.vis⟩
 | fuel=>trivial
def LimR (l1 l2:Int){α:Type}(r1 r2:Rr α):Prop:=match r1 with
 | .ok a s=>r2= .ok a s
 | .stop c s=>r2= .stop c s∨(c=1∧(s.visits.length:Int)=l1∧PreR s r2)
 | .fuel=>True
theorem LimR.bnd {l1 l2:Int}{α β:Type}{r1 r2:Rr α}{f1 f2:α→IS→Rr β}(h:LimR l1 l2 r1 r2)(hf:∀a s,r1= .ok a s→LimR l1 l2 (f1 a s) (f2 a s))(hx:∀a s,PreR s (f2 a s)):LimR l1 l2 (r1.bnd f1) (r2.bnd f2):=by
 cases r1 with
 | ok a s=>
  have h:r2= .ok a s:=h
  subst h
  exact hf a s rfl
 | stop c s=>
  rcases h with h|⟨h1,h2,h3⟩
  ·subst h;exact .inl rfl
  ·refine .inr ⟨h1,h2,?_⟩
   cases r2 with
   | ok a s'=>exact PreR.trans h3 (hx a s')
   | stop c' s'=>exact h3
   | fuel=>trivial
 | fuel=>trivial
section
variable {p:List Ai} {locals:List (List UInt8)} {vals:List Int} {call1 call2:fw} {l1 l2:Int}
mutual
theorem uy (hc:∀g av (s:IS),(s.visits.length:Int)≤l1→LimR l1 l2 (call1 g av s) (call2 g av s))(hx1:∀g av s,ExtR l1 s (call1 g av s))(hx2:∀g av s,ExtR l2 s (call2 g av s)):
  ∀(e:Ex) (s:IS),(s.visits.length:Int)≤l1→LimR l1 l2 (evE p locals vals call1 e s) (evE p locals vals call2 e s)
 | .node t es,s,hs=>by
  rw[evE,evE]
  have hE:=dZ (p:=p) (locals:=locals) (vals:=vals) hx1 es s
  refine LimR.bnd (rA hc hx1 hx2 es s hs) (fun av s1 he=>?_) (fun av s1=>(rK hx2 t av s1).pre)
  rw[he]at hE
  have hs1:(s1.visits.length:Int)≤l1:=Ext.le hE hs
  unfold cF
  split
  ·rfl
  ·split
   ·rfl
   ·split
    ·exact hc _ _ _ hs1
    ·rfl
theorem rA (hc:∀g av (s:IS),(s.visits.length:Int)≤l1→LimR l1 l2 (call1 g av s) (call2 g av s))(hx1:∀g av s,ExtR l1 s (call1 g av s))(hx2:∀g av s,ExtR l2 s (call2 g av s)):
  ∀(es:List Ex) (s:IS),(s.visits.length:Int)≤l1→LimR l1 l2 (aE p locals vals call1 es s) (aE p locals vals call2 es s)
 | [],s,hs=>by rw[aE,aE];rfl
 | a::es,s,hs=>by
  rw[aE,aE]
  have hE:=fD (p:=p) (locals:=locals) (vals:=vals) hx1 a s
  refine LimR.bnd (uy hc hx1 hx2 a s hs) (fun v s1 he=>?_) (fun v s1=>?_)
  ·rw[he]at hE
   exact LimR.bnd (rA hc hx1 hx2 es s1 (Ext.le hE hs)) (fun vs s2 _=>rfl) (fun vs s2=>⟨List.prefix_refl _,List.prefix_refl _⟩)
  ·have hE2:=dZ (p:=p) (locals:=locals) (vals:=vals) hx2 es s1
   cases hr:aE p locals vals call2 es s1 with
   | ok vs s2=>rw[hr]at hE2;exact⟨Ext.out hE2,Ext.vis hE2⟩
   | stop c s2=>rw[hr]at hE2;exact⟨hE2.1.out,hE2.1.vis⟩
   | fuel=>trivial
end
end
theorem eQ {p:List Ai}{l1 l2:Int}(h12:l1≤l2):∀(n:Nat) (calls:List Int) (f k:Nat) (vals:List Int) (s:IS),(s.visits.length:Int)≤l1→LimR l1 l2 (aA p l1 n calls f k vals s) (aA p l2 n calls f k vals s)
 | 0,_,_,_,_,_,_=>trivial
 | n+1,calls,f,k,vals,s,hs=>by
  cases hk:p[k]? with
  | none=>rw[cZ hk,cZ hk];rfl
  | some ln=>
   by_cases h7:ln.faa=7
   ·rw[be hk h7,be hk h7]
    split
    ·rfl
    ·exact eQ h12 n _ _ _ _ _ hs
   by_cases h4:ln.faa=4
   ·rw[bH hk h4,bH hk h4]
    exact eQ h12 n _ _ _ _ _ hs
   by_cases hv:(s.visits.length:Int)=l1
   ·rw[bY hk h7 h4 hv]
    exact .inr ⟨rfl,hv,(bL (lim:=l2) _ _ _ _ _ _).pre⟩
   ·have hv2:(s.visits.length:Int)≠l2:=by omega
    rw[bV hk h7 h4 hv,bV hk h7 h4 hv2]
    have hs1:((s.visits++[calls++[(k:Int)]]).length:Int)≤l1:=by rw[List.length_append];simp;omega
    have hcall:∀g av (s:IS),(s.visits.length:Int)≤l1→LimR l1 l2 (az p l1 n calls k g av s) (az p l2 n calls k g av s):=by
     intro g av s' hs'
     unfold az
     split
     ·exact .inl rfl
     ·exact eQ h12 n _ _ _ _ _ hs'
    have hE:=fD (p:=p) (locals:=localsOf p (f:Int)) (vals:=vals) (bW (p:=p) (lim:=l1) n calls k) (exL ln.fac) ⟨s.out,s.visits++[calls++[(k:Int)]]⟩
    refine LimR.bnd (uy hcall (bW n calls k) (bW n calls k) _ _ hs1) (fun v s1 he=>?_) (fun v s1=>?_)
    ·rw[he]at hE
     have hs2:(s1.visits.length:Int)≤l1:=Ext.le hE hs1
     split
     ·rfl
     ·refine eQ h12 n _ _ _ _ _ ?_
      unfold dB
      split
      ·exact hs2
      ·exact hs2
    ·split
     ·exact⟨List.prefix_refl _,List.prefix_refl _⟩
     ·refine PreR.trans ?_ (bL (p:=p) (lim:=l2) n calls f (bA p ln k v) (fR (localsOf p (f:Int)) ln vals v) (dB ln s1 v)).pre
      unfold dB
      split
      ·exact⟨List.prefix_append _ _,List.prefix_refl _⟩
      ·exact⟨List.prefix_refl _,List.prefix_refl _⟩
theorem wj {p:List Ai}(hp:PgOk p)(h:ay p=true){l1 l2:Int}(h0:0≤l1)(h12:l1≤l2):LimR l1 l2 (cE p l1) (cE p l2):=by
 obtain⟨n1,hn1⟩:=fc hp h h0
 obtain⟨n2,hn2⟩:=fc hp h (show 0≤l2 by omega)
 rw[gD hn1,gD hn2,←cX hn1 (Nat.le_max_left n1 n2),←cX hn2 (Nat.le_max_right n1 n2)]
 exact eQ h12 _ _ _ _ _ _ (by simpa using h0)
structure LimOk (n:Int) (A B:Rr Int):Prop where
 vis:A.st.visits <+:B.st.visits
 out:A.st.out <+:B.st.out
 last:(A.code=1∧(A.st.visits.length:Int)=n)∨(A.code=B.code∧A.val=B.val∧A.st.visits.length=B.st.visits.length)
theorem wV {p:List Ai}(hp:PgOk p)(h:ay p=true){l1 l2:Int}(h0:0≤l1)(h12:l1≤l2):LimOk l1 (cE p l1) (cE p l2):=by
 have hl:=wj hp h h0 h12
 have h1:=(mT hp h h0).nf
 have h2:=(mT hp h (show 0≤l2 by omega)).nf
 generalize cE p l1=A at *
 generalize cE p l2=B at *
 cases A with
 | ok v s=>
  have hl:B= .ok v s:=hl
  subst hl
  exact⟨List.prefix_refl _,List.prefix_refl _,.inr ⟨rfl,rfl,rfl⟩⟩
 | stop c s=>
  rcases hl with hl|⟨rfl,hv,hx⟩
  ·subst hl
   exact⟨List.prefix_refl _,List.prefix_refl _,.inr ⟨rfl,rfl,rfl⟩⟩
  ·cases B with
   | ok v s2=>exact⟨hx.2,hx.1,.inl ⟨rfl,hv⟩⟩
   | stop c2 s2=>exact⟨hx.2,hx.1,.inl ⟨rfl,hv⟩⟩
   | fuel=>exact absurd rfl h2
 | fuel=>exact absurd rfl h1
end Go.Proofs.Ytjmplnfiabmalaa
