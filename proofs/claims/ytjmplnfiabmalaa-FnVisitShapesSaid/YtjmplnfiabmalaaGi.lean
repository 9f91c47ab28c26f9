import Derived.Test.YtjmplnfiabmalaaGh
namespace Go.Proofs.Ytjmplnfiabmalaa
open Go.Sim
set_option maxRecDepth 100000
set_option maxHeartbeats 4000000
theorem nI {α:Type}(l:List α):l=[]∨∃W w,l=W++[w]:=by
 rcases List.eq_nil_or_concat l with h|⟨W,w,h⟩
 ·exact .inl h
 ·exact .inr ⟨W,w,by rw[h];simp⟩
theorem wA {p:List Ai}(hp:PgOk p)(hpo:aB p=true){lim:Int}:∀n,yo p lim n:=by
 intro n
 induction n using Nat.strongRecOn with
 | ind n ihn=>
  intro calls f args s hf hal hV hnf
  have hEv:∀m,m < n→∀e,wl p lim m e:=fun m hm e=>tp hp (ihn m hm) e.toks.length e (Nat.le_refl _)
  obtain⟨en,hI0⟩:=InF.start hp hf
  have h60:=hp.len
  obtain⟨y,hy,hy0⟩:=hf
  obtain⟨e',he',hL8,hAL,_⟩:=hp.fn f y hy hy0
  rw[hI0.en]at he';injection he' with he';subst he'
  obtain⟨_,_,_,_,hfe,hel⟩:=aw hI0.en
  have hA:argsN p f=y.fad.length:=by rw[argsN,hy]
  have h4:=(hp.line f y hy).2.2.1
  have hLo:=gR p (f:Int) (by omega) (fun z hz=>cz hp.small hz)
  have hEn:=bo p (f:Int) (by omega)
  rw[show bv p (f:Int)=(en:Int) by rw[aG];exact aK hI0.en]at hEn
  have hws:=rC hI0
  obtain⟨L,hL⟩:∃L,localsOf p (f:Int)=L:=⟨_,rfl⟩
  have hKn:=fun{k:Nat} {ln:Ai} (hI:InF p f en k) (hk:p[k]?=some ln) (hke:k < en)=>tk hpo hI hk hke
  rw[hL]at hL8 hAL hLo hnf ⊢
  obtain⟨R,hR⟩:∃R,aA p lim n calls f (f+1) (bT L.length args) s=R:=⟨_,rfl⟩
  rw[hR]at hnf ⊢
  have hargs:(args.map ab).length=args.length:=by simp
  refine aq hΓ au Try.func28 rfl (by decide) rfl rfl ?_
  repeat' ((conv=>whnf);first|(with_reducible apply W1;fail_if_success (with_reducible show Wo _ _ _ _ (Code.region 2 _ _) _ _))|(with_reducible first|apply W2|apply W3|apply W4|apply W5|apply W6|apply W7|apply W8|apply W9)|apply bB|apply oi|(apply fi<;>intro h)|refine cl hLo ?_|refine⟨_,rfl,?_⟩|exact rfl)
  all_goals try exact⟨KP⟩
  conv=>whnf
  refine eI ⟨[(0,.r (.c (.ptr (0,0,0) 0))),(1,tI .i64 (f:Int)),(2,.r (.c (.t (.lst 1 (args.map ab))))),(7,pf L)],
   [((0,0,0),some (.box [.t (.lst 4 (p.map Ai.tr)),.t (.int .i64 lim),.own (0,0,1),.own (0,0,2),.t (.int .i64 0),.t (.int .i64 0),.own (0,0,3)])),((0,0,1),some (.arr false 1 (s.out.map ab))),((0,0,2),some (.dar 1 (ak (s.visits.map aP)) none)),((0,0,3),some (.arr false 1 (calls.map ab)))],[21,0]⟩ ?_ ?_ rfl ?_
  ·refine⟨.inl rfl,.inl rfl,.inl rfl,.inr ⟨_,_,rfl,rfl,rfl,?_⟩,trivial⟩
   intro q hq;simp only[AC.ids,List.mem_cons,List.not_mem_nil,or_false]at hq;subst hq;rfl
  ·exact⟨.inr rfl,.inr rfl,.inr rfl,.inr rfl,trivial⟩
  repeat' ((conv=>whnf);first|apply Wx|apply W6|apply oi|(apply fi<;>intro h)|refine⟨_,rfl,?_⟩|exact rfl)
  all_goals try exact⟨KP⟩
  all_goals try exact⟨by simpa using da args⟩
  all_goals try exact⟨⟨by simp <;> omega,by simp <;> omega⟩⟩
  conv=>whnf
  refine⟨{j:Nat // j≤L.length - args.length},fun j=>⟨[(0,.r (.c (.ptr (0,0,0) 0))),(1,tI .i64 (f:Int)),(7,pf L),(8,.r (.c (.own (22,0,0))))],
   [((0,0,0),some (.box [.t (.lst 4 (p.map Ai.tr)),.t (.int .i64 lim),.own (0,0,1),.own (0,0,2),.t (.int .i64 0),.t (.int .i64 0),.own (0,0,3)])),((0,0,1),some (.arr false 1 (s.out.map ab))),((0,0,2),some (.dar 1 (ak (s.visits.map aP)) none)),((0,0,3),some (.arr false 1 (calls.map ab))),((22,0,0),some (.arr false 1 ((args++List.replicate j.1 0).map ab)))],[22,21,0]⟩,fun j=>L.length - j.1,⟨0,by omega⟩,?_,?_⟩
  ·skip
   repeat' ((conv=>whnf);first|apply Wx|apply W6|apply oi|(apply fi<;>intro h)|refine⟨_,rfl,?_⟩|exact rfl)
   all_goals try exact⟨KP⟩
   all_goals try exact⟨KW⟩
   all_goals try exact⟨by simp⟩
  intro⟨j,hj⟩
  dsimp only
  have hjl:((args++List.replicate j 0).map ab).length=args.length+j:=by simp
  have hll:(L.map ah).length=L.length:=by simp
  by_cases hjlt:j < L.length - args.length
  ·skip
   repeat' ((conv=>whnf);first|apply Wx|apply W6|apply oi|(apply fi<;>intro h)|refine⟨_,rfl,?_⟩|exact rfl)
   all_goals try exact⟨KP⟩
   all_goals try(exfalso;rw[hjl,hll]at h;simp at h;omega)
   all_goals try exact⟨⟨by rw[hjl];simp <;> omega,by rw[hjl];simp <;> omega⟩⟩
   conv=>whnf
   refine⟨⟨j+1,by omega⟩,?_,KD⟩
   repeat' ((conv=>whnf);first|apply Wx|apply W6|apply oi|(apply fi<;>intro h)|refine⟨_,rfl,?_⟩|exact rfl)
   all_goals try exact⟨KP⟩
   all_goals exact⟨by rw[List.replicate_succ'];simp[ab]⟩
  ·skip
   repeat' ((conv=>whnf);first|apply Wx|apply W6|apply oi|(apply fi<;>intro h)|refine cl hEn ?_|refine⟨_,rfl,?_⟩|exact rfl)
   all_goals try exact⟨KP⟩
   all_goals try(exfalso;rw[hjl,hll]at h;simp at h;omega)
   have hpad:args++List.replicate j 0=bT L.length args:=by rw[bT,show j=L.length - args.length by omega]
   rw[hpad]
   have hpl:(bT L.length args).length=L.length:=by rw[bT,List.length_append,List.length_replicate];omega
   generalize bT L.length args=V0 at *
   conv=>whnf
   refine⟨{q:Nat×Nat×List Int×IS // q.1≤n∧InF p f en q.2.1∧q.2.2.1.length=L.length∧InV lim calls q.2.2.2∧aA p lim q.1 calls f q.2.1 q.2.2.1 q.2.2.2=R},fun q=>⟨[(0,.r (.c (.ptr (0,0,0) 0))),(1,tI .i64 (f:Int)),(7,pf L),(8,.r (.c (.own (22,0,0)))),(9,tI .i64 (en:Int)),(10,.r (.c (.own (39,0,0)))),(11,tI .i64 (q.1.2.1:Int))],
    [((0,0,0),some (.box [.t (.lst 4 (p.map Ai.tr)),.t (.int .i64 lim),.own (22,0,1),.own (22,0,2),.t (.int .i64 0),.t (.int .i64 0),.own (22,0,3)])),((22,0,1),some (.arr false 1 (q.1.2.2.2.out.map ab))),((22,0,2),some (.dar 1 (ak (q.1.2.2.2.visits.map aP)) none)),((22,0,3),some (.arr false 1 (calls.map ab))),((22,0,0),some (.arr false 1 (q.1.2.2.1.map ab))),((39,0,0),some (.arr true 1 ((ax p f q.1.2.1).map fun i:Nat=>ab (i:Int))))],[39,22,21,0]⟩,fun q=>q.1.1,⟨(n,f+1,V0,s),Nat.le_refl _,hI0,hpl,hV,hR⟩,?_,?_⟩
   ·skip
    repeat' ((conv=>whnf);first|apply Wx|apply W6|apply oi|(apply fi<;>intro h)|refine⟨_,rfl,?_⟩|exact rfl)
    all_goals try exact⟨KP⟩
    all_goals try exact⟨KW⟩
    all_goals try exact⟨by rw[hws];rfl⟩
   intro⟨⟨m,k,vals,sk⟩,hm,hI,hvl,hVk,hRk⟩
   dsimp only at hm hI hvl hVk hRk ⊢
   match m,hm,hRk with
   | 0,_,hRk=>exact absurd hRk.symm hnf
   | m+1,hm,hRk=>
   obtain⟨ln,hk,hk1,hk7,hke⟩:=hI.line hp
   by_cases hkl:k < en
   ·obtain⟨kd,nm,ag,ex⟩:=ln
    dsimp only at hk1 hk7 hke
    have hrow:p[k]?=some ⟨kd,nm,ag,ex⟩:=hk
    have hvm:(vals.map ab).length=vals.length:=by simp
    rcases(show kd=7∨kd=4∨(kd≠7∧kd≠4) by omega)with rfl|rfl|⟨h7,h4'⟩
    ·obtain⟨ho,h|⟨q1,q2,q3,y2,hy2,q4⟩⟩:=hI.own7 hp hk rfl
     ·omega
     rw[bn hk rfl,if_neg (by omega),bz hy2]at hRk
     generalize aD p k=o at *
     by_cases h5:y2.faa=5
     ·rw[if_pos h5]at hRk
      rw[ui hI.lo ho q2 hy2 h5,List.map_append]
      have hwl:=jW p f o
      have hsl:((ax p f o).map (fun i:Nat=>ab (i:Int))++[o].map fun i:Nat=>ab (i:Int)).length=(ax p f o).length+1:=by simp
      have hw:IntKind.i64.wrap ((((ax p f o).map (fun i:Nat=>ab (i:Int))++[o].map fun i:Nat=>ab (i:Int)).length:Int) - 1)=((ax p f o).length:Int):=by rw[hsl,IntWalk.i64_in _ (by omega)];omega
      have hlt:(ax p f o).length < ((ax p f o).map (fun i:Nat=>ab (i:Int))++[o].map fun i:Nat=>ab (i:Int)).length:=by omega
      have hgt:((ax p f o).map (fun i:Nat=>ab (i:Int))++[o].map fun i:Nat=>ab (i:Int))[(ax p f o).length]?=some (ab (o:Int)):=by simp
      have htk:((ax p f o).map (fun i:Nat=>ab (i:Int))++[o].map fun i:Nat=>ab (i:Int)).take (ax p f o).length=(ax p f o).map fun i:Nat=>ab (i:Int):=by rw[List.take_append_of_le_length (by simp),List.take_of_length_le (by simp)]
      have hEo:=bo p (o:Int) (by omega)
      rw[show bv p (o:Int)=(k:Int) by rw[aG];exact aK ho]at hEo
      have hsl2:(ax p f o).length≤((ax p f o).map (fun i:Nat=>ab (i:Int))++[o].map fun i:Nat=>ab (i:Int)).length:=by omega
      repeat' ((conv=>whnf);first|apply Wx|apply W6|apply oi|(apply fi<;>intro h)|refine⟨k,(Ai.tr ⟨7,nm,ag,ex⟩),rfl,aa hk,?_⟩|refine cl hEo ?_|refine⟨(ax p f o).length,hw,hlt,?_⟩|refine⟨_,hgt,?_⟩|refine⟨(ax p f o).length,hw,hsl2,?_⟩|refine⟨_,rfl,?_⟩|exact rfl)
      all_goals try exact⟨KP⟩
      all_goals try exact KX
      all_goals try(exfalso;simp at h;done)
      conv=>whnf
      refine⟨⟨(m,o,vals,sk),by dsimp only;omega,hI.at q2 (by dsimp only;omega),hvl,hVk,hRk⟩,?_,KD⟩
      repeat' ((conv=>whnf);first|apply Wx|apply W6|apply oi|(apply fi<;>intro h)|refine⟨_,rfl,?_⟩|exact rfl)
      all_goals try exact⟨KP⟩
      all_goals try exact⟨KW⟩
      all_goals try exact⟨htk⟩
      all_goals exact⟨hsl2⟩
     ·rw[if_neg h5]at hRk
      obtain⟨hw1,hw2⟩:=vV hk rfl ho hy2 (by omega)
      have hwl:=jW p f k
      rcases nI (ax p f k)with hn|⟨W,w,hsn⟩
      ·rw[hn]
       rw[hn]at hw1
       repeat' ((conv=>whnf);first|apply Wx|apply W6|apply oi|(apply fi<;>intro h)|refine⟨k,(Ai.tr ⟨7,nm,ag,ex⟩),rfl,aa hk,?_⟩|refine⟨_,rfl,?_⟩|exact rfl)
       all_goals try exact⟨KP⟩
       all_goals try exact KX
       conv=>whnf
       refine⟨⟨(m,k+1,vals,sk),by dsimp only;omega,hI.at (by have:=hI.lo;dsimp only;omega) (by dsimp only;omega),hvl,hVk,hRk⟩,?_,KD⟩
       repeat' ((conv=>whnf);first|apply Wx|apply W6|apply oi|(apply fi<;>intro h)|refine⟨_,rfl,?_⟩|exact rfl)
       all_goals try exact⟨KP⟩
       all_goals try exact⟨KW⟩
       all_goals exact⟨by dsimp only;rw[hw1]⟩
      ·have hwm:w∈ax p f k:=by rw[hsn];simp
       have hwk:=hw2 w hwm
       obtain⟨_,_,_,ew,hew,_⟩:=nC hwm
       have hEw:=bo p (w:Int) (by omega)
       rw[show bv p (w:Int)=(ew:Int) by rw[aG];exact aK hew]at hEw
       have hne:ew≠k:=fun e=>hwk (by rw[hew,e])
       rw[hsn,List.map_append]
       rw[hsn]at hw1 hwl
       rw[List.length_append,List.length_cons,List.length_nil]at hwl
       have hsl:(W.map (fun i:Nat=>ab (i:Int))++[w].map fun i:Nat=>ab (i:Int)).length=W.length+1:=by simp
       have hw:IntKind.i64.wrap (((W.map (fun i:Nat=>ab (i:Int))++[w].map fun i:Nat=>ab (i:Int)).length:Int) - 1)=(W.length:Int):=by rw[hsl,IntWalk.i64_in _ (by omega)];omega
       have hlt:W.length < (W.map (fun i:Nat=>ab (i:Int))++[w].map fun i:Nat=>ab (i:Int)).length:=by omega
       have hgt:(W.map (fun i:Nat=>ab (i:Int))++[w].map fun i:Nat=>ab (i:Int))[W.length]?=some (ab (w:Int)):=by simp
       repeat' ((conv=>whnf);first|apply Wx|apply W6|apply oi|(apply fi<;>intro h)|refine⟨k,(Ai.tr ⟨7,nm,ag,ex⟩),rfl,aa hk,?_⟩|refine cl hEw ?_|refine⟨W.length,hw,hlt,?_⟩|refine⟨_,hgt,?_⟩|refine⟨_,rfl,?_⟩|exact rfl)
       all_goals try exact⟨KP⟩
       all_goals try exact KX
       all_goals try(exfalso;simp at h;omega)
       all_goals try(exfalso;rw[hsl]at h;simp at h;omega)
       conv=>whnf
       refine⟨⟨(m,k+1,vals,sk),by dsimp only;omega,hI.at (by have:=hI.lo;dsimp only;omega) (by dsimp only;omega),hvl,hVk,hRk⟩,?_,KD⟩
       repeat' ((conv=>whnf);first|apply Wx|apply W6|apply oi|(apply fi<;>intro h)|refine⟨_,rfl,?_⟩|exact rfl)
       all_goals try exact⟨KP⟩
       all_goals try exact⟨KW⟩
       all_goals exact⟨by dsimp only;rw[hw1,List.map_append]⟩
    ·have hn4:=hI.elseNext hp hk rfl
     obtain⟨q1,q2,q3,q4⟩:=hI.own4 hp hk rfl
     have hwe:=sF hp hI hk rfl
     rw[bX hk rfl]at hRk
     have hEo:=bo p (aD p k:Int) (by omega)
     obtain⟨x3,e3,hx3,hx33,he3,_,_,_⟩:=aL q1
     have hE3:ct p (aD p k)=e3:=by rw[ct,he3];rfl
     rw[show bv p (aD p k:Int)=(e3:Int) by rw[aG];exact aK he3]at hEo
     rw[hE3]at hn4 hwe hRk
     have hone:∀i,elseAt p i=some k→i=aD p k:=fun i h=>oB h q1
     generalize aD p k=o at *
     have h7e:∀i,elseAt p i≠some e3:=fun i h=>by
      obtain⟨_,_,_,_,_,_,_,z,hz,h4z⟩:=aL h
      obtain⟨z2,hz2,h7z⟩:=bc he3
      rw[hz]at hz2;injection hz2 with hz2;subst hz2;omega
     have hEl:=fun i:Nat=>fJ p (i:Int) (by omega)
     repeat' ((conv=>whnf);first|apply Wx|apply W6|apply oi|(apply fi<;>intro h)|refine⟨k,(Ai.tr ⟨4,nm,ag,ex⟩),rfl,aa hk,?_⟩|refine⟨_,rfl,?_⟩|exact rfl)
     all_goals try exact⟨KP⟩
     all_goals try exact KX
     conv=>whnf
     refine⟨{i:Nat // f≤i∧i≤e3},fun i=>⟨[(0,.r (.c (.ptr (0,0,0) 0))),(1,tI .i64 (f:Int)),(7,pf L),(8,.r (.c (.own (22,0,0)))),(9,tI .i64 (en:Int)),(10,.r (.c (.own (39,0,0)))),(11,tI .i64 ((if o < i.1 then e3 else k:Nat):Int)),(13,tI .i64 (i.1:Int))],
      [((0,0,0),some (.box [.t (.lst 4 (p.map Ai.tr)),.t (.int .i64 lim),.own (22,0,1),.own (22,0,2),.t (.int .i64 0),.t (.int .i64 0),.own (22,0,3)])),((22,0,1),some (.arr false 1 (sk.out.map ab))),((22,0,2),some (.dar 1 (ak (sk.visits.map aP)) none)),((22,0,3),some (.arr false 1 (calls.map ab))),((22,0,0),some (.arr false 1 (vals.map ab))),((39,0,0),some (.arr true 1 ((ax p f k).map fun i:Nat=>ab (i:Int))))],[39,22,21,0]⟩,fun i=>e3 - i.1,⟨f,by omega,by omega⟩,?_,?_⟩
     ·skip
      repeat' ((conv=>whnf);first|apply Wx|apply W6|apply oi|(apply fi<;>intro h)|refine⟨_,rfl,?_⟩|exact rfl)
      all_goals try exact⟨KP⟩
      all_goals try exact⟨KW⟩
      all_goals exact⟨by dsimp only;rw[if_neg (by omega)]⟩
     intro⟨i,hi1,hi2⟩
     dsimp only
     have hEi:=hEl i
     by_cases hio:o < i
     ·rw[if_pos hio]
      by_cases hie:i < e3
      ·have hv:aH p (i:Int)≠(e3:Int):=fun h=>by
        rw[db]at h
        cases hx:elseAt p i with
        | none=>rw[hx]at h;simp[bM]at h
        | some j=>rw[hx]at h;simp only[bM]at h;exact h7e i (by rw[hx];congr 1;omega)
       generalize aH p (i:Int)=ev at *
       repeat' ((conv=>whnf);first|apply Wx|apply W6|apply oi|(apply fi<;>intro h)|refine cl hEi ?_|refine⟨_,rfl,?_⟩|exact rfl)
       all_goals try exact⟨KP⟩
       all_goals try exact KX
       all_goals try(exfalso;simp at h;exact hv h)
       conv=>whnf
       refine⟨⟨i+1,by omega,by omega⟩,?_,KD⟩
       repeat' ((conv=>whnf);first|apply Wx|apply W6|apply oi|(apply fi<;>intro h)|refine⟨_,rfl,?_⟩|exact rfl)
       all_goals try exact⟨KP⟩
       all_goals try exact⟨KW⟩
       all_goals exact⟨by dsimp only;rw[if_pos (by omega)]⟩
      ·have hie':i=e3:=by omega
       subst hie'
       repeat' ((conv=>whnf);first|apply Wx|apply W6|apply oi|(apply fi<;>intro h)|refine⟨_,rfl,?_⟩|exact rfl)
       all_goals try exact⟨KP⟩
       all_goals try exact KX
       conv=>whnf
       refine⟨⟨(m,i+1,vals,sk),by dsimp only;omega,hI.at (by have:=hI.lo;dsimp only;omega) (by dsimp only;omega),hvl,hVk,hRk⟩,?_,KD⟩
       repeat' ((conv=>whnf);first|apply Wx|apply W6|apply oi|(apply fi<;>intro h)|refine⟨_,rfl,?_⟩|exact rfl)
       all_goals try exact⟨KP⟩
       all_goals try exact⟨KW⟩
       all_goals exact⟨by dsimp only;rw[hwe]⟩
     ·rw[if_neg hio]
      by_cases hie:i=o
      ·subst hie
       rw[show aH p (i:Int)=(k:Int) by rw[db,q1];rfl]at hEi
       repeat' ((conv=>whnf);first|apply Wx|apply W6|apply oi|(apply fi<;>intro h)|refine cl hEi ?_|refine cl hEo ?_|refine⟨_,rfl,?_⟩|exact rfl)
       all_goals try exact⟨KP⟩
       all_goals try exact KX
       all_goals try(exfalso;simp at h;done)
       conv=>whnf
       refine⟨⟨i+1,by omega,by omega⟩,?_,KD⟩
       repeat' ((conv=>whnf);first|apply Wx|apply W6|apply oi|(apply fi<;>intro h)|refine⟨_,rfl,?_⟩|exact rfl)
       all_goals try exact⟨KP⟩
       all_goals try exact⟨KW⟩
       all_goals exact⟨by dsimp only;rw[if_pos (by omega)]⟩
      ·have hv:aH p (i:Int)≠(k:Int):=fun h=>by
        rw[db]at h
        cases hx:elseAt p i with
        | none=>rw[hx]at h;simp[bM]at h
        | some j=>rw[hx]at h;simp only[bM]at h;exact hie (hone i (by rw[hx];congr 1;omega))
       generalize aH p (i:Int)=ev at *
       repeat' ((conv=>whnf);first|apply Wx|apply W6|apply oi|(apply fi<;>intro h)|refine cl hEi ?_|refine⟨_,rfl,?_⟩|exact rfl)
       all_goals try exact⟨KP⟩
       all_goals try exact KX
       all_goals try(exfalso;simp at h;exact hv h)
       conv=>whnf
       refine⟨⟨i+1,by omega,by omega⟩,?_,KD⟩
       repeat' ((conv=>whnf);first|apply Wx|apply W6|apply oi|(apply fi<;>intro h)|refine⟨_,rfl,?_⟩|exact rfl)
       all_goals try exact⟨KP⟩
       all_goals try exact⟨KW⟩
       all_goals exact⟨by dsimp only;rw[if_neg (by omega)]⟩
    ·have hk6:kd=1∨kd=2∨kd=3∨kd=5∨kd=6:=by omega
     have hvn:sk.visits.length≤1000:=by have:=hVk.vis;have:=hVk.lm;omega
     by_cases hfull:(sk.visits.length:Int)=lim
     ·rw[bY hk h7 h4' hfull]at hRk
      subst hRk
      dsimp only[Rr.val,Rr.st,Rr.code]
      have gv:=kI p lim (k:Int) ⟨sk.out,sk.visits,0,0,calls⟩ hfull
      rcases hk6 with rfl|rfl|rfl|rfl|rfl
      all_goals(
       repeat' ((conv=>whnf);first|apply Wx|apply W6|apply oi|(apply fi<;>intro h)|refine⟨k,(Ai.tr ⟨_,nm,ag,ex⟩),rfl,aa hk,?_⟩|refine⟨_,rfl,?_⟩|exact rfl)
       all_goals try exact⟨KP⟩
       all_goals try exact KX
       refine cg (gv) ?_
       repeat' ((conv=>whnf);first|apply Wx|apply W6|apply oi|(apply fi<;>intro h)|refine⟨_,rfl,?_⟩|exact rfl)
       all_goals try exact⟨KP⟩
       skip)
     ·rw[co hk h7 h4' hfull]at hRk
      have gv:=rk p lim (k:Int) ⟨sk.out,sk.visits,0,0,calls⟩ hvn hVk.calls hfull
      obtain⟨hxo,e1,e2,e3⟩:=hI.known hp hk h7 h4'
      obtain⟨hkn,hset⟩:=hKn hI hk hkl
      have hV1:InV lim calls ⟨sk.out,sk.visits++[calls++[(k:Int)]]⟩:=hVk.ext (fX hfull _)
      dsimp only at hRk hxo e1 e2 hkn hset
      obtain⟨E,hE⟩:∃E,cJ p lim m calls f k vals (exL ex) ⟨sk.out,sk.visits++[calls++[(k:Int)]]⟩=E:=⟨_,rfl⟩
      have hxE:=je (p:=p) (locals:=localsOf p (f:Int)) (vals:=vals) (cX (p:=p) (lim:=lim) m calls k) (exL ex) ⟨sk.out,sk.visits++[calls++[(k:Int)]]⟩
      rw[show evE p (localsOf p (f:Int)) vals (az p lim m calls k) (exL ex) ⟨sk.out,sk.visits++[calls++[(k:Int)]]⟩=E from hE]at hRk hxE
      have hnE:cJ p lim m calls f k vals (exL ex) ⟨sk.out,sk.visits++[calls++[(k:Int)]]⟩≠.fuel:=fun e=>by
       rw[hE]at e;rw[e]at hRk;exact hnf hRk.symm
      obtain⟨x,_,g⟩:=hEv m (by omega) (exL ex) calls f en k 0 ⟨kd,nm,ag,ex⟩ vals ⟨sk.out,sk.visits++[calls++[(k:Int)]]⟩ e1 hI hk ⟨[],by rw[List.drop_zero,List.append_nil];exact e2⟩ hkn (by rw[hL];exact hvl) hV1 hnE
      rw[hE,hL]at g
      rw[hL]at hRk hset
      match E,hE,hRk,hxE,g with
      | .fuel,hE,_,_,_=>exact absurd hE hnE
      | .stop c s2,hE,hRk,hxE,g=>
       have hRk:Rr.stop c s2=R:=hRk
       subst hRk
       have hcode:=hxE.2
       dsimp only[Rr.val,Rr.st,Rr.code]at g ⊢
       rcases hk6 with rfl|rfl|rfl|rfl|rfl
       all_goals(
        repeat' ((conv=>whnf);first|apply Wx|apply W6|apply oi|(apply fi<;>intro h)|refine⟨k,(Ai.tr ⟨_,nm,ag,ex⟩),rfl,aa hk,?_⟩|refine⟨_,rfl,?_⟩|exact rfl)
        all_goals try exact⟨KP⟩
        all_goals try exact KX
        refine cg (gv) ?_
        repeat' ((conv=>whnf);first|apply Wx|apply W6|apply oi|(apply fi<;>intro h)|refine⟨_,rfl,?_⟩|exact rfl)
        all_goals try exact⟨KP⟩
        refine cg (g) ?_
        repeat' ((conv=>whnf);first|apply Wx|apply W6|apply oi|(apply fi<;>intro h)|refine⟨_,rfl,?_⟩|exact rfl)
        all_goals try exact⟨KP⟩
        all_goals try(exfalso;simp at h;omega)
        skip)
      | .ok v s2,hE,hRk,hxE,g=>
       rw[Rr.bnd_ok]at hRk
       have hxE:Ext lim ⟨sk.out,sk.visits++[calls++[(k:Int)]]⟩ s2:=hxE
       have hV2:InV lim calls s2:=hV1.ext hxE
       have hvn2:s2.out.length≤1000:=by have:=hV2.vis;have:=hV2.lm;have:=hV2.out;omega
       dsimp only[Rr.val,Rr.st,Rr.code]at g
       rcases hk6 with rfl|rfl|rfl|rfl|rfl
       ·obtain⟨ix,hix⟩:=hset rfl
        have hixl:=gd hix
        have hIx:=cS L nm (by omega)
        rw[show dB L nm=(ix:Int) by rw[dB,hix];rfl]at hIx
        have hil:ix < (vals.map ab).length:=by omega
        have hgv:(vals.map ab)[ix]?=some (ab (atL vals ix)):=by rw[List.getElem?_map,nQ (by omega)];rfl
        have hsv:gA L ⟨1,nm,ag,ex⟩ vals v=vals.set ix v:=by rw[gA,if_pos rfl,hix]
        have hov:eb ⟨1,nm,ag,ex⟩ s2 v=s2:=by rw[eb,if_neg (by simp)]
        have hnx:bC p ⟨1,nm,ag,ex⟩ k v=k+1:=by rw[bC,if_neg (by simp)]
        rw[if_neg (by simp),hsv,hov,hnx]at hRk
        have hwn:=iq (f:=f) hk (by simp) (by simp)
        repeat' ((conv=>whnf);first|apply Wx|apply W6|apply oi|(apply fi<;>intro h)|refine⟨k,(Ai.tr ⟨_,nm,ag,ex⟩),rfl,aa hk,?_⟩|refine⟨_,rfl,?_⟩|exact rfl)
        all_goals try exact⟨KP⟩
        all_goals try exact KX
        refine cg (gv) ?_
        repeat' ((conv=>whnf);first|apply Wx|apply W6|apply oi|(apply fi<;>intro h)|refine⟨_,rfl,?_⟩|exact rfl)
        all_goals try exact⟨KP⟩
        refine cg (g) ?_
        repeat' ((conv=>whnf);first|apply Wx|apply W6|apply oi|(apply fi<;>intro h)|refine cl hIx ?_|refine⟨ix,rfl,hil,?_⟩|refine⟨_,hgv,?_⟩|refine⟨_,rfl,?_⟩|exact rfl)
        all_goals try exact⟨KP⟩
        all_goals try exact KX
        conv=>whnf
        refine⟨⟨(m,k+1,vals.set ix v,s2),by dsimp only;omega,hI.at (by have:=hI.lo;dsimp only;omega) (by dsimp only;omega),by dsimp only;rw[List.length_set];exact hvl,hV2,hRk⟩,?_,KD⟩
        repeat' ((conv=>whnf);first|apply Wx|apply W6|apply oi|(apply fi<;>intro h)|refine⟨_,rfl,?_⟩|exact rfl)
        all_goals try exact⟨KP⟩
        all_goals try exact⟨KW⟩
        all_goals try exact⟨by dsimp only;rw[hwn]⟩
        all_goals try exact⟨by dsimp only;rw[List.map_set];rfl⟩
       ·have hsv:gA L ⟨2,nm,ag,ex⟩ vals v=vals:=by rw[gA,if_neg (by simp)]
        have hov:eb ⟨2,nm,ag,ex⟩ s2 v=⟨s2.out++[v],s2.visits⟩:=by rw[eb,if_pos rfl]
        have hnx:bC p ⟨2,nm,ag,ex⟩ k v=k+1:=by rw[bC,if_neg (by simp)]
        have hxo:=nk (ln:=⟨2,nm,ag,ex⟩) (v:=v) hfull hxE
        rw[hov]at hxo
        rw[if_neg (by simp),hsv,hov,hnx]at hRk
        have hwn:=iq (f:=f) hk (by simp) (by simp)
        repeat' ((conv=>whnf);first|apply Wx|apply W6|apply oi|(apply fi<;>intro h)|refine⟨k,(Ai.tr ⟨_,nm,ag,ex⟩),rfl,aa hk,?_⟩|refine⟨_,rfl,?_⟩|exact rfl)
        all_goals try exact⟨KP⟩
        all_goals try exact KX
        refine cg (gv) ?_
        repeat' ((conv=>whnf);first|apply Wx|apply W6|apply oi|(apply fi<;>intro h)|refine⟨_,rfl,?_⟩|exact rfl)
        all_goals try exact⟨KP⟩
        refine cg (g) ?_
        repeat' ((conv=>whnf);first|apply Wx|apply W6|apply oi|(apply fi<;>intro h)|refine⟨_,rfl,?_⟩|exact rfl)
        all_goals try exact⟨KP⟩
        all_goals try exact KX
        all_goals try exact⟨⟨by simp <;> omega,by simp <;> omega⟩⟩
        conv=>whnf
        refine⟨⟨(m,k+1,vals,⟨s2.out++[v],s2.visits⟩),by dsimp only;omega,hI.at (by have:=hI.lo;dsimp only;omega) (by dsimp only;omega),hvl,hVk.ext hxo,hRk⟩,?_,KD⟩
        repeat' ((conv=>whnf);first|apply Wx|apply W6|apply oi|(apply fi<;>intro h)|refine⟨_,rfl,?_⟩|exact rfl)
        all_goals try exact⟨KP⟩
        all_goals try exact⟨KW⟩
        all_goals try exact⟨by dsimp only;rw[hwn]⟩
        all_goals try exact⟨by simp[ab]⟩
       ·have hsv:gA L ⟨3,nm,ag,ex⟩ vals v=vals:=by rw[gA,if_neg (by simp)]
        have hov:eb ⟨3,nm,ag,ex⟩ s2 v=s2:=by rw[eb,if_neg (by simp)]
        rw[if_neg (by simp),hsv,hov]at hRk
        by_cases hv0:v=0
        ·subst hv0
         have hnx:bC p ⟨3,nm,ag,ex⟩ k 0=bb p k+1:=by rw[bC,if_pos ⟨.inl rfl,rfl⟩]
         rw[hnx]at hRk
         have hws:=mD hp hI hkl hk (.inl rfl)
         have hsk:=hI.skip hp hk (.inl rfl) hkl
         have hEl:=fJ p (k:Int) (by omega)
         obtain⟨ek,hek,_,_⟩:=bu hI.en hI.lo hkl hk (by rw[opensK_iff];simp)
         have hEk:=bo p (k:Int) (by omega)
         rw[show bv p (k:Int)=(ek:Int) by rw[aG];exact aK hek]at hEk
         cases hel2:elseAt p k with
         | some j=>
          have hj:bb p k=j:=by rw[bb,hel2]
          rw[show aH p (k:Int)=(j:Int) by rw[db,hel2];rfl]at hEl
          rw[hj]at hRk hws hsk
          repeat' ((conv=>whnf);first|apply Wx|apply W6|apply oi|(apply fi<;>intro h)|refine⟨k,(Ai.tr ⟨_,nm,ag,ex⟩),rfl,aa hk,?_⟩|refine⟨_,rfl,?_⟩|exact rfl)
          all_goals try exact⟨KP⟩
          all_goals try exact KX
          refine cg (gv) ?_
          repeat' ((conv=>whnf);first|apply Wx|apply W6|apply oi|(apply fi<;>intro h)|refine⟨_,rfl,?_⟩|exact rfl)
          all_goals try exact⟨KP⟩
          refine cg (g) ?_
          repeat' ((conv=>whnf);first|apply Wx|apply W6|apply oi|(apply fi<;>intro h)|refine cl hEl ?_|refine⟨_,rfl,?_⟩|exact rfl)
          all_goals try exact⟨KP⟩
          all_goals try exact KX
          conv=>whnf
          refine⟨⟨(m,j+1,vals,s2),by dsimp only;omega,hI.at (by have:=hI.lo;dsimp only;omega) (by dsimp only;omega),hvl,hV2,hRk⟩,?_,KD⟩
          repeat' ((conv=>whnf);first|apply Wx|apply W6|apply oi|(apply fi<;>intro h)|refine⟨_,rfl,?_⟩|exact rfl)
          all_goals try exact⟨KP⟩
          all_goals try exact⟨KW⟩
          all_goals try exact⟨by dsimp only;rw[hws]⟩
         | none=>
          have hj:bb p k=ek:=by rw[bb,hel2,ct,hek];rfl
          rw[show aH p (k:Int)= -1 by rw[db,hel2];rfl]at hEl
          rw[hj]at hRk hws hsk
          repeat' ((conv=>whnf);first|apply Wx|apply W6|apply oi|(apply fi<;>intro h)|refine⟨k,(Ai.tr ⟨_,nm,ag,ex⟩),rfl,aa hk,?_⟩|refine⟨_,rfl,?_⟩|exact rfl)
          all_goals try exact⟨KP⟩
          all_goals try exact KX
          refine cg (gv) ?_
          repeat' ((conv=>whnf);first|apply Wx|apply W6|apply oi|(apply fi<;>intro h)|refine⟨_,rfl,?_⟩|exact rfl)
          all_goals try exact⟨KP⟩
          refine cg (g) ?_
          repeat' ((conv=>whnf);first|apply Wx|apply W6|apply oi|(apply fi<;>intro h)|refine cl hEl ?_|refine cl hEk ?_|refine⟨_,rfl,?_⟩|exact rfl)
          all_goals try exact⟨KP⟩
          all_goals try exact KX
          conv=>whnf
          refine⟨⟨(m,ek+1,vals,s2),by dsimp only;omega,hI.at (by have:=hI.lo;dsimp only;omega) (by dsimp only;omega),hvl,hV2,hRk⟩,?_,KD⟩
          repeat' ((conv=>whnf);first|apply Wx|apply W6|apply oi|(apply fi<;>intro h)|refine⟨_,rfl,?_⟩|exact rfl)
          all_goals try exact⟨KP⟩
          all_goals try exact⟨KW⟩
          all_goals try exact⟨by dsimp only;rw[hws]⟩
        ·have hnx:bC p ⟨3,nm,ag,ex⟩ k v=k+1:=by rw[bC,if_neg (fun h=>hv0 h.2)]
         rw[hnx]at hRk
         have hwn:=iq (f:=f) hk (by simp) (by simp)
         repeat' ((conv=>whnf);first|apply Wx|apply W6|apply oi|(apply fi<;>intro h)|refine⟨k,(Ai.tr ⟨_,nm,ag,ex⟩),rfl,aa hk,?_⟩|refine⟨_,rfl,?_⟩|exact rfl)
         all_goals try exact⟨KP⟩
         all_goals try exact KX
         refine cg (gv) ?_
         repeat' ((conv=>whnf);first|apply Wx|apply W6|apply oi|(apply fi<;>intro h)|refine⟨_,rfl,?_⟩|exact rfl)
         all_goals try exact⟨KP⟩
         refine cg (g) ?_
         repeat' ((conv=>whnf);first|apply Wx|apply W6|apply oi|(apply fi<;>intro h)|refine⟨_,rfl,?_⟩|exact rfl)
         all_goals try exact⟨KP⟩
         all_goals try exact KX
         all_goals try(exfalso;simp at h;exact hv0 h)
         conv=>whnf
         refine⟨⟨(m,k+1,vals,s2),by dsimp only;omega,hI.at (by have:=hI.lo;dsimp only;omega) (by dsimp only;omega),hvl,hV2,hRk⟩,?_,KD⟩
         repeat' ((conv=>whnf);first|apply Wx|apply W6|apply oi|(apply fi<;>intro h)|refine⟨_,rfl,?_⟩|exact rfl)
         all_goals try exact⟨KP⟩
         all_goals try exact⟨KW⟩
         all_goals try exact⟨by dsimp only;rw[hwn]⟩
       ·have hsv:gA L ⟨5,nm,ag,ex⟩ vals v=vals:=by rw[gA,if_neg (by simp)]
        have hov:eb ⟨5,nm,ag,ex⟩ s2 v=s2:=by rw[eb,if_neg (by simp)]
        rw[if_neg (by simp),hsv,hov]at hRk
        have hwl:=jW p f k
        by_cases hv0:v=0
        ·subst hv0
         have hnx:bC p ⟨5,nm,ag,ex⟩ k 0=bb p k+1:=by rw[bC,if_pos ⟨.inr rfl,rfl⟩]
         rw[hnx]at hRk
         have hws:=mD hp hI hkl hk (.inr rfl)
         have hsk:=hI.skip hp hk (.inr rfl) hkl
         obtain⟨ek,hek,_,_⟩:=bu hI.en hI.lo hkl hk (by rw[opensK_iff];simp)
         have hEk:=bo p (k:Int) (by omega)
         rw[show bv p (k:Int)=(ek:Int) by rw[aG];exact aK hek]at hEk
         have hj:bb p k=ek:=by rw[bb,oW (by rw[bz hk];simp),ct,hek];rfl
         rw[hj]at hRk hws hsk
         repeat' ((conv=>whnf);first|apply Wx|apply W6|apply oi|(apply fi<;>intro h)|refine⟨k,(Ai.tr ⟨_,nm,ag,ex⟩),rfl,aa hk,?_⟩|refine⟨_,rfl,?_⟩|exact rfl)
         all_goals try exact⟨KP⟩
         all_goals try exact KX
         refine cg (gv) ?_
         repeat' ((conv=>whnf);first|apply Wx|apply W6|apply oi|(apply fi<;>intro h)|refine⟨_,rfl,?_⟩|exact rfl)
         all_goals try exact⟨KP⟩
         refine cg (g) ?_
         repeat' ((conv=>whnf);first|apply Wx|apply W6|apply oi|(apply fi<;>intro h)|refine cl hEk ?_|refine⟨_,rfl,?_⟩|exact rfl)
         all_goals try exact⟨KP⟩
         all_goals try exact KX
         conv=>whnf
         refine⟨⟨(m,ek+1,vals,s2),by dsimp only;omega,hI.at (by have:=hI.lo;dsimp only;omega) (by dsimp only;omega),hvl,hV2,hRk⟩,?_,KD⟩
         repeat' ((conv=>whnf);first|apply Wx|apply W6|apply oi|(apply fi<;>intro h)|refine⟨_,rfl,?_⟩|exact rfl)
         all_goals try exact⟨KP⟩
         all_goals try exact⟨KW⟩
         all_goals try exact⟨by dsimp only;rw[hws]⟩
        ·have hnx:bC p ⟨5,nm,ag,ex⟩ k v=k+1:=by rw[bC,if_neg (fun h=>hv0 h.2)]
         rw[hnx]at hRk
         have hwn:=sw hp hI hkl hk rfl
         repeat' ((conv=>whnf);first|apply Wx|apply W6|apply oi|(apply fi<;>intro h)|refine⟨k,(Ai.tr ⟨_,nm,ag,ex⟩),rfl,aa hk,?_⟩|refine⟨_,rfl,?_⟩|exact rfl)
         all_goals try exact⟨KP⟩
         all_goals try exact KX
         refine cg (gv) ?_
         repeat' ((conv=>whnf);first|apply Wx|apply W6|apply oi|(apply fi<;>intro h)|refine⟨_,rfl,?_⟩|exact rfl)
         all_goals try exact⟨KP⟩
         refine cg (g) ?_
         repeat' ((conv=>whnf);first|apply Wx|apply W6|apply oi|(apply fi<;>intro h)|refine⟨_,rfl,?_⟩|exact rfl)
         all_goals try exact⟨KP⟩
         all_goals try exact KX
         all_goals try(exfalso;simp at h;exact hv0 h)
         all_goals try exact⟨⟨by simp <;> omega,by simp <;> omega⟩⟩
         conv=>whnf
         refine⟨⟨(m,k+1,vals,s2),by dsimp only;omega,hI.at (by have:=hI.lo;dsimp only;omega) (by dsimp only;omega),hvl,hV2,hRk⟩,?_,KD⟩
         repeat' ((conv=>whnf);first|apply Wx|apply W6|apply oi|(apply fi<;>intro h)|refine⟨_,rfl,?_⟩|exact rfl)
         all_goals try exact⟨KP⟩
         all_goals try exact⟨KW⟩
         all_goals try exact⟨by dsimp only;rw[hwn,List.map_append];rfl⟩
       ·rw[if_pos rfl]at hRk
        subst hRk
        dsimp only[Rr.val,Rr.st,Rr.code]
        repeat' ((conv=>whnf);first|apply Wx|apply W6|apply oi|(apply fi<;>intro h)|refine⟨k,(Ai.tr ⟨_,nm,ag,ex⟩),rfl,aa hk,?_⟩|refine⟨_,rfl,?_⟩|exact rfl)
        all_goals try exact⟨KP⟩
        all_goals try exact KX
        refine cg (gv) ?_
        repeat' ((conv=>whnf);first|apply Wx|apply W6|apply oi|(apply fi<;>intro h)|refine⟨_,rfl,?_⟩|exact rfl)
        all_goals try exact⟨KP⟩
        refine cg (g) ?_
        repeat' ((conv=>whnf);first|apply Wx|apply W6|apply oi|(apply fi<;>intro h)|refine⟨_,rfl,?_⟩|exact rfl)
        all_goals try exact⟨KP⟩
        all_goals try exact KX
   ·have hke':k=en:=by have:=hI.hi;omega
    have h7:ln.faa=7:=by omega
    have how:aD p k=f:=by obtain⟨_,h|h⟩:=hI.own7 hp hk h7;exact h.2;omega
    rw[bn hk h7,if_pos how]at hRk
    subst hRk
    dsimp only[Rr.val,Rr.st,Rr.code]
    repeat' ((conv=>whnf);first|apply Wx|apply W6|apply oi|(apply fi<;>intro h)|refine⟨_,rfl,?_⟩|exact rfl)
    all_goals try exact⟨KP⟩
    all_goals try exact KX
theorem vI {p:List Ai}(h:aB p=true){f:Nat}{y:Ai}(hy:p[f]?=some y)(h0:y.faa=0):di y.fad=true:=by
 unfold aB at h
 simp only[Bool.and_eq_true,decide_eq_true_eq]at h
 have hl:=List.all_eq_true.1 h.2.2.1 y (List.mem_of_getElem? hy)
 unfold bm at hl
 simp only[Bool.and_eq_true]at hl
 have:=hl.2.2.1
 rwa [if_pos h0]at this
theorem me {p:List Ai}(h60:p.length≤60)(lim:Int)(calls:List Int)(s:IS)(k ek:Nat)(hek:endAt p k=some ek):bt Try.prog 74 [.r (.c (.ptr (0,0,0) 0)),tI .i64 (k:Int)] (rnH (0,0,1) (0,0,2) (0,0,3) p lim calls s) (tI .i64 (bb p k:Int)) (rnH (0,0,1) (0,0,2) (0,0,3) p lim calls s):=by
 have hEl:=fG p (k:Int) (by omega)
 have hEk:=bF p (k:Int) (by omega)
 rw[show bv p (k:Int)=(ek:Int) by rw[aG];exact aK hek]at hEk
 refine aq hΓ au Try.func74 rfl (by decide) rfl rfl ?_
 cases hel2:elseAt p k with
 | some j=>
  rw[show aH p (k:Int)=(j:Int) by rw[db,hel2];rfl]at hEl
  rw[show bb p k=j by rw[bb,hel2]]
  repeat' ((conv=>whnf);first|apply Wx|apply W6|apply oi|(apply fi<;>intro h)|refine cl hEl ?_|refine cl hEk ?_|refine⟨_,rfl,?_⟩|exact rfl)
  all_goals try exact⟨KP⟩
  all_goals try exact KX
 | none=>
  rw[show aH p (k:Int)= -1 by rw[db,hel2];rfl]at hEl
  rw[show bb p k=ek by rw[bb,hel2,ct,hek];rfl]
  repeat' ((conv=>whnf);first|apply Wx|apply W6|apply oi|(apply fi<;>intro h)|refine cl hEl ?_|refine cl hEk ?_|refine⟨_,rfl,?_⟩|exact rfl)
  all_goals try exact⟨KP⟩
  all_goals try exact KX
theorem xU {p:List Ai}(hp:PgOk p)(hpo:aB p=true){lim:Int}:∀n,zl p lim n:=by
 intro n
 induction n using Nat.strongRecOn with
 | ind n ihn=>
  intro calls f args s hf hal hV hnf
  have hEv:∀m,m < n→∀e,yR p lim m e:=fun m hm e=>uH hp (ihn m hm) e.toks.length e (Nat.le_refl _)
  obtain⟨en,hI0⟩:=InF.start hp hf
  have h60:=hp.len
  obtain⟨y,hy,hy0⟩:=hf
  obtain⟨e',he',hL8,hAL,_⟩:=hp.fn f y hy hy0
  rw[hI0.en]at he';injection he' with he';subst he'
  obtain⟨_,_,_,_,hfe,hel⟩:=aw hI0.en
  have hA:argsN p f=y.fad.length:=by rw[argsN,hy]
  have h4:=(hp.line f y hy).2.2.1
  have hdist:=vI hpo hy hy0
  have hpre:=pr hy hy0 hI0.en
  obtain⟨L,hL⟩:∃L,localsOf p (f:Int)=L:=⟨_,rfl⟩
  have hKn:=fun{k:Nat} {ln:Ai} (hI:InF p f en k) (hk:p[k]?=some ln) (hke:k < en)=>tk hpo hI hk hke
  have hfl:=aU hy
  have hoL:=kl p p.length
  have hoLm:((dy p p.length).map ab).length=p.length:=by rw[List.length_map,hoL]
  rw[hL]at hL8 hAL hnf hpre ⊢
  obtain⟨R,hR⟩:∃R,aA p lim n calls f (f+1) (bT L.length args) s=R:=⟨_,rfl⟩
  rw[hR]at hnf ⊢
  have hargs:(args.map ab).length=args.length:=by simp
  have hanl:(y.fad.map ah).length=y.fad.length:=by simp
  refine tU Try.func34 rfl (by decide) rfl rfl ?_
  repeat' ((conv=>whnf);first|apply Wx|apply W6|apply oi|(apply fi<;>intro h)|refine⟨f,y.tr,rfl,aa hy,?_⟩|refine⟨_,rfl,?_⟩|exact rfl)
  all_goals try exact⟨KP⟩
  conv=>whnf
  refine⟨{q:Nat×List (Tr×Int) // q.1≤y.fad.length∧FillM y.fad args q.1 q.2},fun q=>⟨[(0,.r (.c (.ptr (0,0,0) 0))),(1,tI .i64 (f:Int)),(2,.r (.c (.t (.lst 1 (args.map ab))))),(7,.r (.c (.mpv (13,0,0)))),(21,.r (.c (.t (.lst 1 (y.fad.map ah))))),(22,tI .i64 ((y.fad.map ah).length:Int)),(23,tI .i64 (q.1.1:Int))],
   [((0,0,0),some (rnB p lim (0,0,1) (0,0,2) (0,0,3))),((0,0,1),some (.arr false 1 (s.out.map ab))),((0,0,2),some (.dar 1 (ak (s.visits.map aP)) none)),((0,0,3),some (.arr false 1 (calls.map ab))),((13,0,0),some (.mp none q.1.2))],[13,0]⟩,fun q=>y.fad.length - q.1.1,⟨(0,[]),Nat.zero_le _,FillM.zero _ _⟩,?_,?_⟩
  ·skip
   repeat' ((conv=>whnf);first|apply Wx|apply W6|apply oi|(apply fi<;>intro h)|refine⟨_,rfl,?_⟩|exact rfl)
   all_goals try exact⟨KP⟩
  intro⟨⟨j,ms⟩,hj,hfm⟩
  dsimp only at hj hfm ⊢
  by_cases hjlt:j < y.fad.length
  ·obtain⟨nm,hnm⟩:=af hjlt
   have hav:args[j]?=some (atL args j):=nQ (by omega)
   repeat' ((conv=>whnf);first|apply Wx|apply W6|apply oi|(apply fi<;>intro h)|refine⟨j,(ah nm),rfl,aa hnm,?_⟩|refine⟨j,(ab (atL args j)),rfl,aa hav,?_⟩|refine⟨_,rfl,?_⟩|exact rfl)
   all_goals try exact⟨KP⟩
   all_goals try exact KX
   conv=>whnf
   refine⟨⟨(j+1,er ms (kS nm) (atL args j)),by dsimp only;omega,hfm.step hdist hnm⟩,?_,KD⟩
   repeat' ((conv=>whnf);first|apply Wx|apply W6|apply oi|(apply fi<;>intro h)|refine⟨_,rfl,?_⟩|exact rfl)
   all_goals try exact⟨KP⟩
   all_goals try exact⟨KW⟩
  ·have hvm0:VarsM L (bT L.length args) ms:=by
    rw[show j=y.fad.length by omega]at hfm
    exact hfm.vars hpre (by omega)
   have hpl:(bT L.length args).length=L.length:=by rw[bT,List.length_append,List.length_replicate];omega
   generalize bT L.length args=V0 at *
   repeat' ((conv=>whnf);first|apply Wx|apply W6|apply oi|(apply fi<;>intro h)|refine⟨_,rfl,?_⟩|exact rfl)
   all_goals try exact⟨KP⟩
   all_goals try exact KX
   conv=>whnf
   refine⟨{q:Nat×Nat×List Int×List (Tr×Int)×IS // q.1≤n∧InF p f en q.2.1∧q.2.2.1.length=L.length∧VarsM L q.2.2.1 q.2.2.2.1∧InV lim calls q.2.2.2.2∧aA p lim q.1 calls f q.2.1 q.2.2.1 q.2.2.2.2=R},fun q=>⟨[(0,.r (.c (.ptr (0,0,0) 0))),(1,tI .i64 (f:Int)),(7,.r (.c (.mpv (13,0,0)))),(10,tI .i64 (q.1.2.1:Int))],
    [((0,0,0),some (rnB p lim (13,0,1) (13,0,2) (13,0,3))),((13,0,1),some (.arr false 1 (q.1.2.2.2.2.out.map ab))),((13,0,2),some (.dar 1 (ak (q.1.2.2.2.2.visits.map aP)) none)),((13,0,3),some (.arr false 1 (calls.map ab))),((13,0,0),some (.mp none q.1.2.2.2.1))],[13,0]⟩,fun q=>q.1.1,⟨(n,f+1,V0,ms,s),Nat.le_refl _,hI0,hpl,hvm0,hV,hR⟩,?_,?_⟩
   ·skip
    repeat' ((conv=>whnf);first|apply Wx|apply W6|apply oi|(apply fi<;>intro h)|refine⟨_,rfl,?_⟩|exact rfl)
    all_goals try exact⟨KP⟩
    all_goals try exact⟨KW⟩
   intro⟨⟨m,k,vals,ms,sk⟩,hm,hI,hvl,hvm,hVk,hRk⟩
   dsimp only at hm hI hvl hvm hVk hRk ⊢
   match m,hm,hRk with
   | 0,_,hRk=>exact absurd hRk.symm hnf
   | m+1,hm,hRk=>
   obtain⟨ln,hk,hk1,hk7,hke⟩:=hI.line hp
   have hkp:=aU hk
   obtain⟨kd,nm,ag,ex⟩:=ln
   dsimp only at hk1 hk7 hke
   have hHE:=iG kd
   have hkm:k < ((dy p p.length).map ab).length:=by omega
   by_cases hkl:k < en
   ·rcases(show kd=7∨kd=4∨(kd≠7∧kd≠4) by omega)with rfl|rfl|⟨h7,h4'⟩
    ·obtain⟨ho,h|⟨q1,q2,q3,y2,hy2,q4⟩⟩:=hI.own7 hp hk rfl
     ·omega
     rw[bn hk rfl,if_neg (by omega),bz hy2]at hRk
     have hog:=kH (p:=p) (.inl ho) hkp p.length (by omega)
     generalize aD p k=o at *
     have hgt:((dy p p.length).map ab)[k]?=some (ab (o:Int)):=aa hog
     have hop:=aU hy2
     rw[show bP 7=false from rfl]at hHE
     by_cases h5:y2.faa=5
     ·rw[if_pos h5]at hRk
      repeat' ((conv=>whnf);first|apply Wx|apply W6|apply oi|(apply fi<;>intro h)|refine⟨k,(Ai.tr ⟨7,nm,ag,ex⟩),rfl,aa hk,?_⟩|refine cl hHE ?_|refine⟨k,(ab (o:Int)),rfl,hgt,?_⟩|refine⟨o,y2.tr,rfl,aa hy2,?_⟩|refine⟨_,rfl,?_⟩|exact rfl)
      all_goals try exact⟨KP⟩
      all_goals try exact KX
      all_goals try(exfalso;simp_all;done)
      conv=>whnf
      refine⟨⟨(m,o,vals,ms,sk),by dsimp only;omega,hI.at q2 (by dsimp only;omega),hvl,hvm,hVk,hRk⟩,?_,KD⟩
      repeat' ((conv=>whnf);first|apply Wx|apply W6|apply oi|(apply fi<;>intro h)|refine⟨_,rfl,?_⟩|exact rfl)
      all_goals try exact⟨KP⟩
      all_goals try exact⟨KW⟩
     ·rw[if_neg h5]at hRk
      repeat' ((conv=>whnf);first|apply Wx|apply W6|apply oi|(apply fi<;>intro h)|refine⟨k,(Ai.tr ⟨7,nm,ag,ex⟩),rfl,aa hk,?_⟩|refine cl hHE ?_|refine⟨k,(ab (o:Int)),rfl,hgt,?_⟩|refine⟨o,y2.tr,rfl,aa hy2,?_⟩|refine⟨_,rfl,?_⟩|exact rfl)
      all_goals try exact⟨KP⟩
      all_goals try exact KX
      all_goals try(exfalso;simp_all;done)
      conv=>whnf
      refine⟨⟨(m,k+1,vals,ms,sk),by dsimp only;omega,hI.at (by have:=hI.lo;dsimp only;omega) (by dsimp only;omega),hvl,hvm,hVk,hRk⟩,?_,KD⟩
      repeat' ((conv=>whnf);first|apply Wx|apply W6|apply oi|(apply fi<;>intro h)|refine⟨_,rfl,?_⟩|exact rfl)
      all_goals try exact⟨KP⟩
      all_goals try exact⟨KW⟩
    ·have hn4:=hI.elseNext hp hk rfl
     obtain⟨q1,q2,q3,q4⟩:=hI.own4 hp hk rfl
     rw[bX hk rfl]at hRk
     have hEo:=bF p (aD p k:Int) (by omega)
     obtain⟨x3,e3,hx3,hx33,he3,_,_,_⟩:=aL q1
     have hE3:ct p (aD p k)=e3:=by rw[ct,he3];rfl
     rw[show bv p (aD p k:Int)=(e3:Int) by rw[aG];exact aK he3]at hEo
     rw[hE3]at hn4 hRk
     have hog:=kH (p:=p) (.inr q1) hkp p.length (by omega)
     generalize aD p k=o at *
     have hgt:((dy p p.length).map ab)[k]?=some (ab (o:Int)):=aa hog
     rw[show bP 4=false from rfl]at hHE
     repeat' ((conv=>whnf);first|apply Wx|apply W6|apply oi|(apply fi<;>intro h)|refine⟨k,(Ai.tr ⟨4,nm,ag,ex⟩),rfl,aa hk,?_⟩|refine cl hHE ?_|refine⟨k,(ab (o:Int)),rfl,hgt,?_⟩|refine cl hEo ?_|refine⟨_,rfl,?_⟩|exact rfl)
     all_goals try exact⟨KP⟩
     all_goals try exact KX
     all_goals try(exfalso;simp at h;done)
     conv=>whnf
     refine⟨⟨(m,e3+1,vals,ms,sk),by dsimp only;omega,hI.at (by have:=hI.lo;dsimp only;omega) (by dsimp only;omega),hvl,hvm,hVk,hRk⟩,?_,KD⟩
     repeat' ((conv=>whnf);first|apply Wx|apply W6|apply oi|(apply fi<;>intro h)|refine⟨_,rfl,?_⟩|exact rfl)
     all_goals try exact⟨KP⟩
     all_goals try exact⟨KW⟩
    ·have hk6:kd=1∨kd=2∨kd=3∨kd=5∨kd=6:=by omega
     have hHE1:bP kd=true:=by rcases hk6 with rfl|rfl|rfl|rfl|rfl <;> rfl
     rw[hHE1]at hHE
     have hlm:=hVk.lm
     have hvs:=hVk.vis
     by_cases hfull:(sk.visits.length:Int)=lim
     ·rw[bY hk h7 h4' hfull]at hRk
      subst hRk
      have gv:=rq p lim (k:Int) calls sk hfull
      repeat' ((conv=>whnf);first|with_reducible refine nh (id:=12) 2 ?_|with_reducible apply Wx|with_reducible apply W6|refine cp gv ?_|apply oi|(apply fi<;>intro h)|refine⟨k,(Ai.tr ⟨_,nm,ag,ex⟩),rfl,aa hk,?_⟩|refine cl hHE ?_|refine⟨_,rfl,?_⟩|exact rfl)
      all_goals try exact⟨KP⟩
      all_goals try exact KX
     ·rw[co hk h7 h4' hfull]at hRk
      have gv:=qo p lim (k:Int) calls sk hlm hVk.calls (by omega)
      obtain⟨hxo,e1,e2,e3⟩:=hI.known hp hk h7 h4'
      obtain⟨hkn,hset⟩:=hKn hI hk hkl
      have hV1:InV lim calls ⟨sk.out,sk.visits++[calls++[(k:Int)]]⟩:=hVk.ext (fX hfull _)
      dsimp only at hRk hxo e1 e2 hkn hset
      obtain⟨E,hE⟩:∃E,cJ p lim m calls f k vals (exL ex) ⟨sk.out,sk.visits++[calls++[(k:Int)]]⟩=E:=⟨_,rfl⟩
      have hxE:=je (p:=p) (locals:=localsOf p (f:Int)) (vals:=vals) (cX (p:=p) (lim:=lim) m calls k) (exL ex) ⟨sk.out,sk.visits++[calls++[(k:Int)]]⟩
      rw[show evE p (localsOf p (f:Int)) vals (az p lim m calls k) (exL ex) ⟨sk.out,sk.visits++[calls++[(k:Int)]]⟩=E from hE]at hRk hxE
      have hnE:cJ p lim m calls f k vals (exL ex) ⟨sk.out,sk.visits++[calls++[(k:Int)]]⟩≠.fuel:=fun e=>by
       rw[hE]at e;rw[e]at hRk;exact hnf hRk.symm
      have gE:=hEv m (by omega) (exL ex) calls f en k 0 ⟨kd,nm,ag,ex⟩ vals ms ⟨sk.out,sk.visits++[calls++[(k:Int)]]⟩ e1 hI hk ⟨[],by rw[List.drop_zero,List.append_nil];exact e2⟩ hkn (by rw[hL];exact hvl) (by rw[hL];exact hvm) hV1 hnE
      rw[hE]at gE
      rw[hL]at hRk hset
      match E,hE,hRk,hxE,gE with
      | .fuel,hE,_,_,_=>exact absurd hE hnE
      | .stop c s2,hE,hRk,hxE,g=>
       have hRk:Rr.stop c s2=R:=hRk
       subst hRk
       simp only[kQ]at g
       repeat' ((conv=>whnf);first|with_reducible refine nh (id:=13) 5 ?_|with_reducible apply Wx|with_reducible apply W6|refine cp g ?_|apply oi|(apply fi<;>intro h)|refine⟨k,(Ai.tr ⟨_,nm,ag,ex⟩),rfl,aa hk,?_⟩|refine cl hHE ?_|refine⟨_,rfl,?_⟩|exact rfl)
       all_goals try exact⟨KP⟩
       all_goals try exact KX
       refine cg (gv) ?_
       repeat' ((conv=>whnf);first|with_reducible refine nh (id:=13) 5 ?_|with_reducible apply Wx|with_reducible apply W6|refine cp g ?_|apply oi|(apply fi<;>intro h)|refine⟨_,rfl,?_⟩|exact rfl)
       all_goals try exact⟨KP⟩
      | .ok v s2,hE,hRk,hxE,g=>
       rw[Rr.bnd_ok]at hRk
       have hxE:Ext lim ⟨sk.out,sk.visits++[calls++[(k:Int)]]⟩ s2:=hxE
       have hV2:InV lim calls s2:=hV1.ext hxE
       have hvn2:s2.out.length≤1000:=by have:=hV2.vis;have:=hV2.lm;have:=hV2.out;omega
       simp only[kQ]at g
       rcases hk6 with rfl|rfl|rfl|rfl|rfl
       ·obtain⟨ix,hix⟩:=hset rfl
        have hixl:=gd hix
        have hsv:gA L ⟨1,nm,ag,ex⟩ vals v=vals.set ix v:=by rw[gA,if_pos rfl,hix]
        have hov:eb ⟨1,nm,ag,ex⟩ s2 v=s2:=by rw[eb,if_neg (by simp)]
        have hnx:bC p ⟨1,nm,ag,ex⟩ k v=k+1:=by rw[bC,if_neg (by simp)]
        rw[if_neg (by simp),hsv,hov,hnx]at hRk
        have hvm2:=hvm.set hix (by omega) v
        repeat' ((conv=>whnf);first|apply Wx|apply W6|apply oi|(apply fi<;>intro h)|refine⟨k,(Ai.tr ⟨_,nm,ag,ex⟩),rfl,aa hk,?_⟩|refine cl hHE ?_|refine⟨_,rfl,?_⟩|exact rfl)
        all_goals try exact⟨KP⟩
        all_goals try exact KX
        refine cg (gv) ?_
        repeat' ((conv=>whnf);first|apply Wx|apply W6|apply oi|(apply fi<;>intro h)|refine⟨_,rfl,?_⟩|exact rfl)
        all_goals try exact⟨KP⟩
        refine cg (g) ?_
        repeat' ((conv=>whnf);first|apply Wx|apply W6|apply oi|(apply fi<;>intro h)|refine⟨_,rfl,?_⟩|exact rfl)
        all_goals try exact⟨KP⟩
        all_goals try exact KX
        conv=>whnf
        refine⟨⟨(m,k+1,vals.set ix v,er ms (kS nm) v,s2),by dsimp only;omega,hI.at (by have:=hI.lo;dsimp only;omega) (by dsimp only;omega),by dsimp only;rw[List.length_set];exact hvl,hvm2,hV2,hRk⟩,?_,KD⟩
        repeat' ((conv=>whnf);first|apply Wx|apply W6|apply oi|(apply fi<;>intro h)|refine⟨_,rfl,?_⟩|exact rfl)
        all_goals try exact⟨KP⟩
        all_goals try exact⟨KW⟩
       ·have hsv:gA L ⟨2,nm,ag,ex⟩ vals v=vals:=by rw[gA,if_neg (by simp)]
        have hov:eb ⟨2,nm,ag,ex⟩ s2 v=⟨s2.out++[v],s2.visits⟩:=by rw[eb,if_pos rfl]
        have hnx:bC p ⟨2,nm,ag,ex⟩ k v=k+1:=by rw[bC,if_neg (by simp)]
        have hxo:=nk (ln:=⟨2,nm,ag,ex⟩) (v:=v) hfull hxE
        rw[hov]at hxo
        rw[if_neg (by simp),hsv,hov,hnx]at hRk
        repeat' ((conv=>whnf);first|apply Wx|apply W6|apply oi|(apply fi<;>intro h)|refine⟨k,(Ai.tr ⟨_,nm,ag,ex⟩),rfl,aa hk,?_⟩|refine cl hHE ?_|refine⟨_,rfl,?_⟩|exact rfl)
        all_goals try exact⟨KP⟩
        all_goals try exact KX
        refine cg (gv) ?_
        repeat' ((conv=>whnf);first|apply Wx|apply W6|apply oi|(apply fi<;>intro h)|refine⟨_,rfl,?_⟩|exact rfl)
        all_goals try exact⟨KP⟩
        refine cg (g) ?_
        repeat' ((conv=>whnf);first|apply Wx|apply W6|apply oi|(apply fi<;>intro h)|refine⟨_,rfl,?_⟩|exact rfl)
        all_goals try exact⟨KP⟩
        all_goals try exact KX
        all_goals try exact⟨⟨by simp <;> omega,by simp <;> omega⟩⟩
        conv=>whnf
        refine⟨⟨(m,k+1,vals,ms,⟨s2.out++[v],s2.visits⟩),by dsimp only;omega,hI.at (by have:=hI.lo;dsimp only;omega) (by dsimp only;omega),hvl,hvm,hVk.ext hxo,hRk⟩,?_,KD⟩
        repeat' ((conv=>whnf);first|apply Wx|apply W6|apply oi|(apply fi<;>intro h)|refine⟨_,rfl,?_⟩|exact rfl)
        all_goals try exact⟨KP⟩
        all_goals try exact⟨KW⟩
        all_goals try exact⟨by simp[ab]⟩
       ·have hsv:gA L ⟨3,nm,ag,ex⟩ vals v=vals:=by rw[gA,if_neg (by simp)]
        have hov:eb ⟨3,nm,ag,ex⟩ s2 v=s2:=by rw[eb,if_neg (by simp)]
        rw[if_neg (by simp),hsv,hov]at hRk
        by_cases hv0:v=0
        ·subst hv0
         have hnx:bC p ⟨3,nm,ag,ex⟩ k 0=bb p k+1:=by rw[bC,if_pos ⟨.inl rfl,rfl⟩]
         rw[hnx]at hRk
         have hsk:=hI.skip hp hk (.inl rfl) hkl
         obtain⟨ek,hek,_,_⟩:=bu hI.en hI.lo hkl hk (by rw[opensK_iff];simp)
         have gs:=me h60 lim calls s2 k ek hek
         repeat' ((conv=>whnf);first|apply Wx|apply W6|apply oi|(apply fi<;>intro h)|refine⟨k,(Ai.tr ⟨_,nm,ag,ex⟩),rfl,aa hk,?_⟩|refine cl hHE ?_|refine⟨_,rfl,?_⟩|exact rfl)
         all_goals try exact⟨KP⟩
         all_goals try exact KX
         refine cg (gv) ?_
         repeat' ((conv=>whnf);first|apply Wx|apply W6|apply oi|(apply fi<;>intro h)|refine⟨_,rfl,?_⟩|exact rfl)
         all_goals try exact⟨KP⟩
         refine cg (g) ?_
         repeat' ((conv=>whnf);first|apply Wx|apply W6|apply oi|(apply fi<;>intro h)|refine⟨_,rfl,?_⟩|exact rfl)
         all_goals try exact⟨KP⟩
         all_goals try exact KX
         refine cg (gs) ?_
         repeat' ((conv=>whnf);first|apply Wx|apply W6|apply oi|(apply fi<;>intro h)|refine⟨_,rfl,?_⟩|exact rfl)
         all_goals try exact⟨KP⟩
         conv=>whnf
         refine⟨⟨(m,bb p k+1,vals,ms,s2),by dsimp only;omega,hI.at (by have:=hI.lo;dsimp only;omega) (by dsimp only;omega),hvl,hvm,hV2,hRk⟩,?_,KD⟩
         repeat' ((conv=>whnf);first|apply Wx|apply W6|apply oi|(apply fi<;>intro h)|refine⟨_,rfl,?_⟩|exact rfl)
         all_goals try exact⟨KP⟩
         all_goals try exact⟨KW⟩
        ·have hnx:bC p ⟨3,nm,ag,ex⟩ k v=k+1:=by rw[bC,if_neg (fun h=>hv0 h.2)]
         rw[hnx]at hRk
         repeat' ((conv=>whnf);first|apply Wx|apply W6|apply oi|(apply fi<;>intro h)|refine⟨k,(Ai.tr ⟨_,nm,ag,ex⟩),rfl,aa hk,?_⟩|refine cl hHE ?_|refine⟨_,rfl,?_⟩|exact rfl)
         all_goals try exact⟨KP⟩
         all_goals try exact KX
         refine cg (gv) ?_
         repeat' ((conv=>whnf);first|apply Wx|apply W6|apply oi|(apply fi<;>intro h)|refine⟨_,rfl,?_⟩|exact rfl)
         all_goals try exact⟨KP⟩
         refine cg (g) ?_
         repeat' ((conv=>whnf);first|apply Wx|apply W6|apply oi|(apply fi<;>intro h)|refine⟨_,rfl,?_⟩|exact rfl)
         all_goals try exact⟨KP⟩
         all_goals try exact KX
         all_goals try(exfalso;simp at h;exact hv0 h)
         conv=>whnf
         refine⟨⟨(m,k+1,vals,ms,s2),by dsimp only;omega,hI.at (by have:=hI.lo;dsimp only;omega) (by dsimp only;omega),hvl,hvm,hV2,hRk⟩,?_,KD⟩
         repeat' ((conv=>whnf);first|apply Wx|apply W6|apply oi|(apply fi<;>intro h)|refine⟨_,rfl,?_⟩|exact rfl)
         all_goals try exact⟨KP⟩
         all_goals try exact⟨KW⟩
       ·have hsv:gA L ⟨5,nm,ag,ex⟩ vals v=vals:=by rw[gA,if_neg (by simp)]
        have hov:eb ⟨5,nm,ag,ex⟩ s2 v=s2:=by rw[eb,if_neg (by simp)]
        rw[if_neg (by simp),hsv,hov]at hRk
        by_cases hv0:v=0
        ·subst hv0
         have hnx:bC p ⟨5,nm,ag,ex⟩ k 0=bb p k+1:=by rw[bC,if_pos ⟨.inr rfl,rfl⟩]
         rw[hnx]at hRk
         have hsk:=hI.skip hp hk (.inr rfl) hkl
         obtain⟨ek,hek,_,_⟩:=bu hI.en hI.lo hkl hk (by rw[opensK_iff];simp)
         have gs:=me h60 lim calls s2 k ek hek
         repeat' ((conv=>whnf);first|apply Wx|apply W6|apply oi|(apply fi<;>intro h)|refine⟨k,(Ai.tr ⟨_,nm,ag,ex⟩),rfl,aa hk,?_⟩|refine cl hHE ?_|refine⟨_,rfl,?_⟩|exact rfl)
         all_goals try exact⟨KP⟩
         all_goals try exact KX
         refine cg (gv) ?_
         repeat' ((conv=>whnf);first|apply Wx|apply W6|apply oi|(apply fi<;>intro h)|refine⟨_,rfl,?_⟩|exact rfl)
         all_goals try exact⟨KP⟩
         refine cg (g) ?_
         repeat' ((conv=>whnf);first|apply Wx|apply W6|apply oi|(apply fi<;>intro h)|refine⟨_,rfl,?_⟩|exact rfl)
         all_goals try exact⟨KP⟩
         all_goals try exact KX
         refine cg (gs) ?_
         repeat' ((conv=>whnf);first|apply Wx|apply W6|apply oi|(apply fi<;>intro h)|refine⟨_,rfl,?_⟩|exact rfl)
         all_goals try exact⟨KP⟩
         conv=>whnf
         refine⟨⟨(m,bb p k+1,vals,ms,s2),by dsimp only;omega,hI.at (by have:=hI.lo;dsimp only;omega) (by dsimp only;omega),hvl,hvm,hV2,hRk⟩,?_,KD⟩
         repeat' ((conv=>whnf);first|apply Wx|apply W6|apply oi|(apply fi<;>intro h)|refine⟨_,rfl,?_⟩|exact rfl)
         all_goals try exact⟨KP⟩
         all_goals try exact⟨KW⟩
        ·have hnx:bC p ⟨5,nm,ag,ex⟩ k v=k+1:=by rw[bC,if_neg (fun h=>hv0 h.2)]
         rw[hnx]at hRk
         repeat' ((conv=>whnf);first|apply Wx|apply W6|apply oi|(apply fi<;>intro h)|refine⟨k,(Ai.tr ⟨_,nm,ag,ex⟩),rfl,aa hk,?_⟩|refine cl hHE ?_|refine⟨_,rfl,?_⟩|exact rfl)
         all_goals try exact⟨KP⟩
         all_goals try exact KX
         refine cg (gv) ?_
         repeat' ((conv=>whnf);first|apply Wx|apply W6|apply oi|(apply fi<;>intro h)|refine⟨_,rfl,?_⟩|exact rfl)
         all_goals try exact⟨KP⟩
         refine cg (g) ?_
         repeat' ((conv=>whnf);first|apply Wx|apply W6|apply oi|(apply fi<;>intro h)|refine⟨_,rfl,?_⟩|exact rfl)
         all_goals try exact⟨KP⟩
         all_goals try exact KX
         all_goals try(exfalso;simp at h;exact hv0 h)
         conv=>whnf
         refine⟨⟨(m,k+1,vals,ms,s2),by dsimp only;omega,hI.at (by have:=hI.lo;dsimp only;omega) (by dsimp only;omega),hvl,hvm,hV2,hRk⟩,?_,KD⟩
         repeat' ((conv=>whnf);first|apply Wx|apply W6|apply oi|(apply fi<;>intro h)|refine⟨_,rfl,?_⟩|exact rfl)
         all_goals try exact⟨KP⟩
         all_goals try exact⟨KW⟩
       ·rw[if_pos rfl]at hRk
        subst hRk
        repeat' ((conv=>whnf);first|apply Wx|apply W6|apply oi|(apply fi<;>intro h)|refine⟨k,(Ai.tr ⟨_,nm,ag,ex⟩),rfl,aa hk,?_⟩|refine cl hHE ?_|refine⟨_,rfl,?_⟩|exact rfl)
        all_goals try exact⟨KP⟩
        all_goals try exact KX
        refine cg (gv) ?_
        repeat' ((conv=>whnf);first|apply Wx|apply W6|apply oi|(apply fi<;>intro h)|refine⟨_,rfl,?_⟩|exact rfl)
        all_goals try exact⟨KP⟩
        refine cg (g) ?_
        repeat' ((conv=>whnf);first|apply Wx|apply W6|apply oi|(apply fi<;>intro h)|refine⟨_,rfl,?_⟩|exact rfl)
        all_goals try exact⟨KP⟩
        all_goals try exact KX
   ·have hke':k=en:=by have:=hI.hi;omega
    have h7:kd=7:=by omega
    subst h7
    obtain⟨ho,how⟩:=hI.own7 hp hk rfl
    have how:aD p k=f:=by rcases how with h|h;exact h.2;omega
    rw[bn hk rfl,if_pos how]at hRk
    subst hRk
    rw[how]at ho
    have hog:=kH (p:=p) (.inl ho) hkp p.length (by omega)
    have hgt:((dy p p.length).map ab)[k]?=some (ab (f:Int)):=aa hog
    rw[show bP 7=false from rfl]at hHE
    repeat' ((conv=>whnf);first|apply Wx|apply W6|apply oi|(apply fi<;>intro h)|refine⟨k,(Ai.tr ⟨7,nm,ag,ex⟩),rfl,aa hk,?_⟩|refine cl hHE ?_|refine⟨k,(ab (f:Int)),rfl,hgt,?_⟩|refine⟨f,y.tr,rfl,aa hy,?_⟩|refine⟨_,rfl,?_⟩|exact rfl)
    all_goals try exact⟨KP⟩
    all_goals try exact KX
    all_goals try(exfalso;simp_all;done)
abbrev is0:IS:=⟨[],[]⟩
noncomputable def dL (p:List Ai) (lim:Int):Rr Int:=open Classical in
 if h:∃n,aA p lim n [] 0 1 (bT (localsOf p 0).length []) is0≠.fuel then aA p lim (Classical.choose h) [] 0 1 (bT (localsOf p 0).length []) is0 else .fuel
theorem jm {p:List Ai}{lim:Int}{n:Nat}(h:aA p lim n [] 0 1 (bT (localsOf p 0).length []) is0≠.fuel):dL p lim=aA p lim n [] 0 1 (bT (localsOf p 0).length []) is0:=by
 have hx:∃n,aA p lim n [] 0 1 (bT (localsOf p 0).length []) is0≠.fuel:=⟨n,h⟩
 rw[dL,dif_pos hx]
 have h2:=Classical.choose_spec hx
 rcases Nat.le_total n (Classical.choose hx)with hle|hle
 ·exact fv h hle
 ·exact(fv h2 hle).symm
theorem nn {p:List Ai}(h:aB p=true):∃y,p[0]?=some y∧y.faa=0∧y.fab=cB∧y.fad=[]:=by
 unfold aB at h
 simp only[Bool.and_eq_true,decide_eq_true_eq]at h
 have h4:=h.2.2.2.1
 unfold gD at h4
 match p,h4 with
 | y::q,h4=>
  simp only[Bool.and_eq_true,beq_iff_eq]at h4
  exact⟨y,rfl,h4.1,h4.2.1,List.length_eq_zero_iff.1 h4.2.2⟩
theorem gM {p:List Ai}(hp:PgOk p)(h:aB p=true){lim:Int}(h0:0≤lim):∃n,aA p lim n [] 0 1 (bT (localsOf p 0).length []) is0≠.fuel:=by
 obtain⟨y,hy,hy0,_⟩:=nn h
 obtain⟨e,hI⟩:=InF.start hp ⟨y,hy,hy0⟩
 exact kp hp 6 [] rfl 0 e 1 _ is0 (by simpa using h0) hI
theorem lP (p:List Ai)(hs:bd 1048576 (.lst 4 (p.map Ai.tr)))(hpo:aB p=true)(lim:Int)(h0:0≤lim)(h1:lim≤1000):
  bt Try.prog 8 [.r (.c (.t (.lst 4 (p.map Ai.tr)))),tI .i64 lim] [] (.r (.agg [.own (1,0,1),.own (1,0,2),.t (.int .i64 (dL p lim).val),.t (.int .i64 (dL p lim).code)])) [((1,0,1),.arr false 1 ((dL p lim).st.out.map ab)),((1,0,2),.dar 1 (ak ((dL p lim).st.visits.map aP)) none)]:=by
 have hp:=qW hs hpo
 obtain⟨n,hn⟩:=gM hp hpo h0
 have hP:=fV p hs
 rw[hpo]at hP
 have gl:=dt lim 0 1000
 rw[show ae lim 0 1000=true by rw[within_iff];exact⟨h0,h1⟩]at gl
 obtain⟨y,hy,hy0,_,hya⟩:=nn hpo
 have hA:argsN p 0=0:=by rw[argsN,hy];dsimp only;rw[hya];rfl
 have gp:=wA hp hpo (lim:=lim) n [] 0 [] is0 ⟨y,hy,hy0⟩ (by rw[hA];rfl) ⟨h1,by simpa using h0,by simp,by simp⟩ hn
 rw[show(((0:Nat):Int))=0 from rfl,show(0:Nat)+1=1 from rfl,←jm hn]at gp
 have hcode:(∃v s,dL p lim= .ok v s)∨(∃c s,dL p lim= .stop c s∧(c=1∨c=2)):=by
  have hx:=cy (p:=p) (lim:=lim) n [] 0 1 (bT (localsOf p 0).length []) is0
  rw[jm hn]
  cases hr:aA p lim n [] 0 1 (bT (localsOf p 0).length []) is0 with
  | ok v s=>exact .inl ⟨v,s,rfl⟩
  | stop c s=>rw[hr]at hx;exact .inr ⟨c,s,rfl,hx.2⟩
  | fuel=>exact absurd hr hn
 generalize dL p lim=R at *
 refine aq hΓ au Try.func8 rfl (by decide) rfl rfl ?_
 repeat' ((conv=>whnf);first|(with_reducible apply W1;fail_if_success (with_reducible show Wo _ _ _ _ (Code.region 4 _ _) _ _))|(with_reducible first|apply W2|apply W3|apply W4|apply W5|apply W6|apply W7|apply W8|apply W9)|apply bB|apply oi|(apply fi<;>intro h)|refine cl hP ?_|refine cl gl ?_|refine⟨_,rfl,?_⟩|exact rfl)
 all_goals try exact⟨KP⟩
 all_goals try exact KX
 conv=>whnf
 refine wm ⟨[(4,.r (.c (.ptr (4,0,0) 0))),(5,.r (.c (.ptr (19,0,0) 0)))],[((4,0,0),some (.box [.nils 1,.nils 1,.t (.int .i64 0),.t (.int .i64 0)])),((19,0,0),some (.box [.t (.lst 4 (p.map Ai.tr)),.t (.int .i64 lim),.own (19,0,1),.own (19,0,2),.t (.int .i64 0),.t (.int .i64 0),.own (19,0,3)])),((19,0,1),some (.arr false 1 [])),((19,0,2),some (.dar 1 [] none)),((19,0,3),some (.arr false 1 []))],[19,4,0]⟩ ?_ ?_
 ·skip
  repeat' ((conv=>whnf);first|apply Wx|apply W6|apply oi|(apply fi<;>intro h)|refine⟨_,rfl,?_⟩|exact rfl)
  all_goals try exact⟨KP⟩
 rcases hcode with⟨v,s,rfl⟩|⟨c,s,rfl,hc⟩
 ·dsimp only[Rr.val,Rr.st,Rr.code]at gp ⊢
  repeat' ((conv=>whnf);first|apply Wx|apply W6|apply oi|(apply fi<;>intro h)|refine⟨_,rfl,?_⟩|exact rfl)
  all_goals try exact⟨KP⟩
  refine cg (gp) ?_
  repeat' ((conv=>whnf);first|apply Wx|apply W6|apply oi|(apply fi<;>intro h)|refine⟨_,rfl,?_⟩|exact rfl)
  all_goals try exact⟨KP⟩
  all_goals try exact⟨⟨_,rfl⟩⟩
 ·dsimp only[Rr.val,Rr.st,Rr.code]at gp ⊢
  repeat' ((conv=>whnf);first|apply Wx|apply W6|apply oi|(apply fi<;>intro h)|refine⟨_,rfl,?_⟩|exact rfl)
  all_goals try exact⟨KP⟩
  refine cg (gp) ?_
  repeat' ((conv=>whnf);first|apply Wx|apply W6|apply oi|(apply fi<;>intro h)|refine⟨_,rfl,?_⟩|exact rfl)
  all_goals try exact⟨KP⟩
  all_goals try(exfalso;simp at h;omega)
  all_goals try exact⟨⟨_,rfl⟩⟩
abbrev clH (p:List Ai)(lim:Int)(s:IS):List (Sim.Id×AO):=[((0,0,0),.box [.ptr (0,0,2) 0]),((0,0,1),.box [.nils 1,.nils 1,.t (.int .i64 0),.t (.int .i64 0)]),
 ((0,0,2),.box [.t (.lst 4 (p.map Ai.tr)),.t (.int .i64 lim),.opq,.own (0,0,3),.own (0,0,4),.t (.int .i64 0),.t (.int .i64 0),.t (.lst 1 ((dy p p.length).map ab))]),((0,0,3),.arr false 1 (s.out.map ab)),((0,0,4),.dar 1 (ak (s.visits.map aP)) none)]
abbrev clE (s:IS)(c:Int):List (Sim.Id×AO):=[((0,0,1),.box [.own (0,0,3),.own (0,0,4),.t (.int .i64 0),.t (.int .i64 c)]),((0,0,3),.arr false 1 (s.out.map ab)),((0,0,4),.dar 1 (ak (s.visits.map aP)) none)]
theorem od {a:Act}{d t:Nat}{v:Value}(hd:d < a.tmps.size):(a.put (some d) v).eval (.tmp t)=if t=d then v else a.eval (.tmp t):=by
 have:=dQ a d v t hd
 simpa [Act.eval,Array.getD_eq_getD_getElem?]using this
theorem uj {v s7 s8:Value}{a:Act}{w:World}(hv:a.eval (.tmp 5)=v)(hr:∀o:Oper,o.op= .typeAssert (.tmp 5) 20 67 true→(execOp (fun _=>v) o).run Try.prog w= .ok (.value (.tuple #[s7,s8])) w):∀o:Oper,o.op= .typeAssert (.tmp 5) 20 67 true→(execOp a.eval o).run Try.prog w= .ok (.value (.tuple #[s7,s8])) w:=fun o ho=>by
 have:=hr o ho
 simp only[execOp,ho]at this ⊢
 rw[hv]
 exact this
theorem wR {v:Value}{a:Act}{w:World}{t:Nat}(hv:a.eval (.tmp t)=v):∀o:Oper,o.op= .move (.tmp t)→(execOp a.eval o).run Try.prog w= .ok (.value v) w:=fun o ho=>by
 simp only[execOp,ho]
 rw[hv]
 rfl
theorem my {v:Value}{vs:Array Value}{a:Act}{w:World}{t i:Nat}(hv:a.eval (.tmp t)= .tuple vs)(hi:vs[i]?=some v):∀o:Oper,o.op= .extract (.tmp t) i→(execOp a.eval o).run Try.prog w= .ok (.value v) w:=fun o ho=>by
 simp only[execOp,ho]
 rw[hv]
 simp[Instr.extract,hi]
theorem qe {ops:Array Oper}{u u':FrameMode}{v s7 s8:Value}(hsz8:ops.size=8){o0 o1 o2 o3 o4:Oper}(h0:ops[0]?=some o0)(h1:ops[1]?=some o1)(h2:ops[2]?=some o2)(h3:ops[3]?=some o3)(h4:ops[4]?=some o4)
  (p0:o0.op= .call {callee:= .builtin .recover,args:=#[],argTypes:=#[]}) (p1:o1.op= .typeAssert (.tmp 5) 20 67 true) (p2:o2.op= .move (.tmp 6)) (p3:o3.op= .extract (.tmp 4) 0) (p4:o4.op= .extract (.tmp 4) 1)
  (d0:o0.dst=some 5) (d1:o1.dst=some 6) (d2:o2.dst=some 4) (d3:o3.dst=some 7) (d4:o4.dst=some 8) (g0:o0.guard=none) (g1:o1.guard=none) (g2:o2.guard=none) (g3:o3.guard=none) (g4:o4.guard=none)
  (hr:∀(c₀:Frame) (cs:List Frame),c₀.mode=u→recoverD (c₀::cs)=some (v,{c₀ with mode:=u'}::cs)∨(recoverD (c₀::cs)=none∧v= .nilIface∧{c₀ with mode:=u'}::cs=c₀::cs))
  (ha:∀(w:World) (o:Oper),o.op= .typeAssert (.tmp 5) 20 67 true→(execOp (fun _=>v) o).run Try.prog w= .ok (.value (.tuple #[s7,s8])) w)
  (a:Act) (c₀:Frame) (cs:List Frame) (w:World) (Q:Exit→Act→List Frame→World→Prop) (hsz:a.tmps.size=23) (hm:c₀.mode=u) (h:wpOpsS Try.prog ops Q [5,6,7] (ri a v s7 s8) ({c₀ with mode:=u'}::cs) w):wpOpsS Try.prog ops Q (List.range ops.size) a (c₀::cs) w:=by
 rw[hsz8,show List.range 8=[0,1,2,3,4,5,6,7] from rfl]
 refine ua h0 p0 d0 g0 (fun o ho=>?_) (hr c₀ cs hm) ?_
 ·simp only[execOp,ho]
  rfl
 refine gy h1 p1 d1 g1 (uj (by rw[od (by omega),if_pos rfl]) (ha w)) ?_
 refine gy h2 p2 d2 g2 (wR (by rw[od (by simp only[bi];omega),if_pos rfl])) ?_
 refine gy h3 p3 d3 g3 (my (vs:=#[s7,s8]) (by rw[od (by simp only[bi];omega),if_pos rfl]) rfl) ?_
 refine gy h4 p4 d4 g4 (my (vs:=#[s7,s8]) (by rw[od (by simp only[bi];omega),if_neg (by decide),od (by simp only[bi];omega),if_pos rfl]) rfl) ?_
 exact h
theorem wV (p:List Ai)(lim:Int)(s:IS)(c:Int):mg (pW Try.prog 33 (.panicking [{v:=gV c,recovered:=false}]) (.panicking [{v:=gV c,recovered:=true}])) [hZ,iK] (clH p lim s) (clE s c):=by
 refine oM (Γ:=Γ) (v5:=gV c) (s7:= .agg #[.int .i64 c]) (s8:= .bool true) (x7:= .r (.agg [.t (.int .i64 c)])) (x8:=tB true) hΓ au Try.func33 rfl rfl (by decide) (fun B ρ w ok=>⟨_,rfl,.int _ _,trivial⟩) (fun B ρ w ok=> .bool _) rfl ?_ rfl ?_
 ·refine qe rfl rfl rfl rfl rfl rfl rfl rfl rfl rfl rfl rfl rfl rfl rfl rfl rfl rfl rfl rfl rfl (fun c₀ cs hm=> .inl (by simp[recoverD,hm])) (fun w o ho=>?_)
  simp only[execOp,ho]
  kernel_rfl
 ·conv=>whnf
  repeat' ((conv=>whnf);first|apply Wx|apply W6|apply oi|(apply fi<;>intro h)|refine⟨_,rfl,?_⟩|exact rfl)
  all_goals try exact⟨KP⟩
theorem wZ:mg (pW Try.prog 33 .returning .returning) [.r (.c .opq),.r (.c .opq)] [] []:=by
 refine oM (Γ:=Γ) (v5:= .nilIface) (s7:= .agg #[.int .i64 0]) (s8:= .bool false) (x7:= .r (.agg [.t (.int .i64 0)])) (x8:=tB false) hΓ au Try.func33 rfl rfl (by decide) (fun B ρ w ok=>⟨_,rfl,.int _ _,trivial⟩) (fun B ρ w ok=> .bool _) rfl ?_ rfl ?_
 ·refine qe rfl rfl rfl rfl rfl rfl rfl rfl rfl rfl rfl rfl rfl rfl rfl rfl rfl rfl rfl rfl rfl (fun c₀ cs hm=> .inr ⟨by simp[recoverD,hm],rfl,by rw[←hm]⟩) (fun w o ho=>?_)
  simp only[execOp,ho]
  kernel_rfl
 ·conv=>whnf
  repeat' ((conv=>whnf);first|apply Wx|apply W6|apply oi|(apply fi<;>intro h)|refine⟨_,rfl,?_⟩|exact rfl)
  all_goals try exact⟨KP⟩
abbrev tlH (p:List Ai)(lim:Int):List (Sim.Id×AO):=[((0,0,0),.box [.ptr (0,0,2) 0]),((0,0,1),.box [.nils 1,.nils 1,.t (.int .i64 0),.t (.int .i64 0)]),
 ((0,0,2),.box [.t (.lst 4 (p.map Ai.tr)),.t (.int .i64 lim),.own (0,0,5),.own (0,0,3),.own (0,0,4),.t (.int .i64 0),.t (.int .i64 0),.own (0,0,6)]),((0,0,3),.arr false 1 []),((0,0,4),.dar 1 [] none),((0,0,5),.arr false 1 []),((0,0,6),.arr false 1 ((dy p p.length).map ab))]
abbrev tlV (p:List Ai)(lim:Int):List (Sim.Id×AO):=[((0,0,0),.box [.ptr (0,0,2) 0]),((0,0,1),.box [.nils 1,.nils 1,.t (.int .i64 0),.t (.int .i64 0)]),((0,0,2),rnB p lim (0,0,3) (0,0,4) (0,0,5)),((0,0,3),.arr false 1 []),((0,0,4),.dar 1 [] none),((0,0,5),.arr false 1 [])]
theorem qj {p:List Ai}{lim:Int}{c:Code}{K:Out→St→Prop}(h:Wo false Try.prog Γ 32 c K ⟨[(5,hZ),(4,iK)],(tlV p lim).map (fun p=>(p.1,some p.2)),[0]⟩):Wo false Try.prog Γ 32 c K ⟨[(5,hZ),(4,iK)],(tlH p lim).map (fun p=>(p.1,some p.2)),[0]⟩:=by
 refine nz ⟨[(5,hZ),(4,iK)],(tlV p lim).map (fun p=>(p.1,some p.2)),[0]⟩ ?_ ?_ rfl h
 ·exact⟨.inl rfl,.inl rfl,trivial⟩
 ·have tq:∀{H H':Sim.Id→Option AO} {o:Sim.Id} {t:Tr},bV H (.own o) t→H' o=none→vwC H H' (.own o) (.t t):=fun h1 h2=> .inr (.inr ⟨_,rfl,h1,fun q hq=>by simp only[AC.ids,List.mem_cons,List.not_mem_nil,or_false]at hq;subst hq;exact h2⟩)
  exact⟨.inr (.inl rfl),.inr (.inl rfl),.inr (.inr (.inl ⟨_,_,rfl,rfl,.inl rfl,.inl rfl,.inl rfl,.inl rfl,.inl rfl,.inl rfl,.inl rfl,tq rfl rfl,trivial⟩)),.inr (.inl rfl),.inr (.inl rfl),.inr (.inl rfl),trivial⟩
abbrev tlE (s:IS)(v c:Int):List (Sim.Id×AO):=[((0,0,1),.box [.own (1,0,3),.own (1,0,4),.t (.int .i64 v),.t (.int .i64 c)]),((1,0,3),.arr false 1 (s.out.map ab)),((1,0,4),.dar 1 (ak (s.visits.map aP)) none)]
noncomputable abbrev nZ:Code:=match Try.f10.body with
 | some (.seq _ (.seq _ (.seq _ (.seq _ t))))=>t
 | _=> .skip
theorem mj:lY Try.prog 33:=eD Try.func33 rfl rfl
theorem xN {p:List Ai}{lim:Int}{v:Int}{s:IS}(gf:bt Try.prog 34 [.r (.c (.ptr (0,0,0) 0)),tI .i64 ((0:Nat):Int),.r (.c (.t (.lst 1 [])))] (rnH (0,0,1) (0,0,2) (0,0,3) p lim [] is0) (tI .i64 v) (rnH (1,0,1) (1,0,2) (1,0,3) p lim [] s)):
  mg (oV Try.prog Try.f10 nZ 33) [hZ,iK] (tlH p lim) (tlE s v 0):=by
 refine oQ (Γ:=Γ) hΓ au mj rfl rfl ?_
 show Wo false Try.prog Γ 32 nZ _ _
 refine qj ?_
 repeat' ((conv=>whnf);first|apply Wx|apply W6|apply oi|(apply fi<;>intro h)|refine⟨_,rfl,?_⟩|exact rfl)
 all_goals try exact⟨KP⟩
 refine cg (gf) ?_
 repeat' ((conv=>whnf);first|apply Wx|apply W6|apply oi|(apply fi<;>intro h)|refine⟨_,rfl,?_⟩|exact rfl)
 all_goals try exact⟨KP⟩
 all_goals try exact⟨⟨_,rfl⟩⟩
 conv=>whnf
 refine⟨⟨[(5,hZ),(4,iK)],[((0,0,1),some (.box [.own (24,0,1),.own (24,0,2),.t (.int .i64 v),.t (.int .i64 0)])),((24,0,1),some (.arr false 1 (s.out.map ab))),((24,0,2),some (.dar 1 (ak (s.visits.map aP)) none))],[24,0]⟩,?_,rfl,rfl,rfl,⟨_,_,_,wZ,?_⟩⟩
 ·skip
  repeat' ((conv=>whnf);first|apply Wx|apply W6|apply oi|(apply fi<;>intro h)|refine⟨_,rfl,?_⟩|exact rfl)
  all_goals try exact⟨KP⟩
 ·skip
  repeat' ((conv=>whnf);first|apply Wx|apply W6|apply oi|(apply fi<;>intro h)|refine⟨_,rfl,?_⟩|exact rfl)
  all_goals try exact⟨KP⟩
theorem wF {p:List Ai}{lim:Int}{c:Int}{s:IS}(gf:pO Try.prog 34 [.r (.c (.ptr (0,0,0) 0)),tI .i64 ((0:Nat):Int),.r (.c (.t (.lst 1 [])))] (rnH (0,0,1) (0,0,2) (0,0,3) p lim [] is0) (gV c) (rnP (1,0,1) (1,0,2) p lim s)):
  mg (oV Try.prog Try.f10 nZ 33) [hZ,iK] (tlH p lim) (tlE s 0 c):=by
 refine oQ (Γ:=Γ) hΓ au mj rfl rfl ?_
 show Wo false Try.prog Γ 32 nZ _ _
 refine qj ?_
 repeat' ((conv=>whnf);first|with_reducible refine wM (id:=5) 2 ?_ ?_|((with_reducible show qu _=true);kernel_rfl)|refine Both.mk ?_ ?_|with_reducible apply Wx|with_reducible apply W6|refine cp gf ?_|apply oi|(apply fi<;>intro h)|refine True.intro|refine⟨_,rfl,?_⟩|exact rfl)
 all_goals try exact⟨KP⟩
 all_goals try exact⟨⟨_,rfl⟩⟩
 all_goals(conv=>whnf)
 all_goals refine⟨⟨[(5,hZ),(4,iK)],[((0,0,0),some (.box [.ptr (0,0,2) 0])),((0,0,1),some (.box [.nils 1,.nils 1,.t (.int .i64 0),.t (.int .i64 0)])),
  ((0,0,2),some (.box [.t (.lst 4 (p.map Ai.tr)),.t (.int .i64 lim),.opq,.own (24,0,1),.own (24,0,2),.t (.int .i64 0),.t (.int .i64 0),.t (.lst 1 ((dy p p.length).map ab))])),
  ((24,0,1),some (.arr false 1 (s.out.map ab))),((24,0,2),some (.dar 1 (ak (s.visits.map aP)) none))],[24,0]⟩,?_,rfl,rfl,rfl,⟨_,_,_,wV p lim s c,?_⟩⟩
 repeat' ((conv=>whnf);first|apply Wx|apply W6|apply oi|(apply fi<;>intro h)|refine⟨_,rfl,?_⟩|exact rfl)
 all_goals try exact⟨KP⟩
theorem lZ (p:List Ai)(hs:bd 1048576 (.lst 4 (p.map Ai.tr)))(hpo:aB p=true)(lim:Int)(h0:0≤lim)(h1:lim≤1000):
  bt Try.prog 10 [.r (.c (.t (.lst 4 (p.map Ai.tr)))),tI .i64 lim] [] (.r (.agg [.own (1,0,1),.own (1,0,2),.t (.int .i64 (dL p lim).val),.t (.int .i64 (dL p lim).code)])) [((1,0,1),.arr false 1 ((dL p lim).st.out.map ab)),((1,0,2),.dar 1 (ak ((dL p lim).st.visits.map aP)) none)]:=by
 have hp:=qW hs hpo
 obtain⟨n,hn⟩:=gM hp hpo h0
 have hP:=gi p hs
 rw[hpo]at hP
 have gl:=aV lim 0 1000
 rw[show ae lim 0 1000=true by rw[within_iff];exact⟨h0,h1⟩]at gl
 have hO:=pz p hp.len
 obtain⟨y,hy,hy0,_,hya⟩:=nn hpo
 have hA:argsN p 0=0:=by rw[argsN,hy];dsimp only;rw[hya];rfl
 have gp:=xU hp hpo (lim:=lim) n [] 0 [] is0 ⟨y,hy,hy0⟩ (by rw[hA];rfl) ⟨h1,by simpa using h0,by simp,by simp⟩ hn
 rw[show(((0:Nat):Int))=0 from rfl,show(0:Nat)+1=1 from rfl,←jm hn]at gp
 have hcode:∃v s c,(dL p lim).val=v∧(dL p lim).st=s∧(dL p lim).code=c∧mg (oV Try.prog Try.f10 nZ 33) [hZ,iK] (tlH p lim) (tlE s v c):=by
  have hx:=cy (p:=p) (lim:=lim) n [] 0 1 (bT (localsOf p 0).length []) is0
  rw[←jm hn]at hx hn
  cases hr:dL p lim with
  | ok v s=>rw[hr]at gp;exact⟨v,s,0,rfl,rfl,rfl,xN gp⟩
  | stop c s=>rw[hr]at gp;exact⟨0,s,c,rfl,rfl,rfl,wF gp⟩
  | fuel=>exact absurd hr hn
 obtain⟨v,s,c,hv,hst,hc,ht⟩:=hcode
 rw[hv,hst,hc]
 refine sK hΓ Try.func10 rfl rfl rfl rfl fun B M w0 ρ a w Q hF hd hco hQ=>?_
 refine qQ hΓ au hF hco (S:=⟨[(0,.r (.c (.t (.lst 4 (p.map Ai.tr))))),(1,tI .i64 lim),(4,.r (.c (.ptr (4,0,0) 0)))],[((4,0,0),some (.box [.nils 1,.nils 1,.t (.int .i64 0),.t (.int .i64 0)]))],[4,0]⟩) ?_ fun ρ1 a1 w1 hc1=>?_
 ·skip
  repeat' ((conv=>whnf);first|apply Wx|apply W6|apply oi|(apply fi<;>intro h)|refine⟨_,rfl,?_⟩|exact rfl)
  all_goals try exact⟨KP⟩
 refine qQ hΓ au hF hc1 (S:=⟨[(0,.r (.c (.t (.lst 4 (p.map Ai.tr))))),(1,tI .i64 lim),(4,.r (.c (.ptr (4,0,0) 0)))],[((4,0,0),some (.box [.nils 1,.nils 1,.t (.int .i64 0),.t (.int .i64 0)]))],[4,0]⟩) ?_ fun ρ2 a2 w2 hc2=>?_
 ·skip
  repeat' ((conv=>whnf);first|apply Wx|apply W6|apply oi|(apply fi<;>intro h)|refine cl hP ?_|refine cl gl ?_|refine⟨_,rfl,?_⟩|exact rfl)
  all_goals try exact⟨KP⟩
  all_goals try exact KX
 refine qQ hΓ au hF hc2 (S:=⟨[(5,.r (.c (.ptr (5,0,0) 0))),(4,.r (.c (.ptr (4,0,0) 0)))],[((4,0,0),some (.box [.nils 1,.nils 1,.t (.int .i64 0),.t (.int .i64 0)])),((5,0,0),some (.box [.ptr (20,0,0) 0])),
  ((20,0,0),some (.box [.t (.lst 4 (p.map Ai.tr)),.t (.int .i64 lim),.own (20,0,1),.own (20,0,2),.own (20,0,3),.t (.int .i64 0),.t (.int .i64 0),.own (18,0,0)])),((20,0,1),some (.arr false 1 [])),((20,0,2),some (.arr false 1 [])),((20,0,3),some (.dar 1 [] none)),((18,0,0),some (.arr false 1 ((dy p p.length).map ab)))],[20,18,5,4,0]⟩) ?_ fun ρ3 a3 w3 hc3=>?_
 ·skip
  repeat' ((conv=>whnf);first|apply Wx|apply W6|apply oi|(apply fi<;>intro h)|refine cl hO ?_|refine⟨_,rfl,?_⟩|exact rfl)
  all_goals try exact⟨KP⟩
 refine wB hΓ hF hd hc3 rfl (by decide) (by decide) (by decide) rfl rfl rfl rfl rfl (fun a w=>?_) (fun a w vs h=>?_) ⟨_,_,_,ht,?_⟩ hQ
 ·simp[execOp,Instr.makeFunc]
 ·simp[execOp,resolve,h,Deferred.ofValue]
 ·skip
  repeat' ((conv=>whnf);first|apply Wx|apply W6|apply oi|(apply fi<;>intro h)|refine⟨_,rfl,?_⟩|exact rfl)
  all_goals try exact⟨KP⟩
def mM (Φ:IS→Prop){α:Type}(r:Rr α):Prop:=match r with
 | .ok _ s=>Φ s
 | .stop _ s=>Φ s
 | .fuel=>True
section
variable {p:List Ai} {locals:List (List UInt8)} {vals:List Int} {call:fw} {Φ:IS→Prop}
mutual
theorem vl (h:∀g av s,Φ s→mM Φ (call g av s)):∀(e:Ex) (s:IS),Φ s→mM Φ (evE p locals vals call e s)
 | .node t es,s,hs=>by
  have h1:=sH h es s hs
  rw[evE]
  cases hr:aF p locals vals call es s with
  | ok av s1=>
   rw[hr]at h1
   rw[Rr.bnd_ok,cE]
   split
   ·exact h1
   ·split
    ·exact h1
    ·split
     ·exact h _ _ _ h1
     ·exact h1
  | stop c s1=>rw[hr]at h1;exact h1
  | fuel=>trivial
theorem sH (h:∀g av s,Φ s→mM Φ (call g av s)):∀(es:List Ex) (s:IS),Φ s→mM Φ (aF p locals vals call es s)
 | [],s,hs=>by rw[aF];exact hs
 | a::es,s,hs=>by
  have h1:=vl h a s hs
  rw[aF]
  cases hr:evE p locals vals call a s with
  | ok v s1=>
   rw[hr]at h1
   rw[Rr.bnd_ok]
   have h2:=sH h es s1 h1
   cases hr2:aF p locals vals call es s1 with
   | ok vs s2=>rw[hr2]at h2;exact h2
   | stop c s2=>rw[hr2]at h2;exact h2
   | fuel=>trivial
  | stop c s1=>rw[hr]at h1;exact h1
  | fuel=>trivial
end
theorem eL {lim:Int}(hvis:∀(calls:List Int) (k:Nat) (s:IS),calls.length≤6→Φ s→Φ ⟨s.out,s.visits++[calls++[(k:Int)]]⟩)(hout:∀(s:IS) (v:Int),Φ s→Φ ⟨s.out++[v],s.visits⟩):
  ∀(n:Nat) (calls:List Int) (f k:Nat) (vals:List Int) (s:IS),calls.length≤6→Φ s→mM Φ (aA p lim n calls f k vals s)
 | 0,_,_,_,_,_,_,_=>trivial
 | n+1,calls,f,k,vals,s,hc,hs=>by
  cases hk:p[k]? with
  | none=>rw[fk hk];exact hs
  | some ln=>
   by_cases h7:ln.faa=7
   ·rw[bn hk h7]
    split
    ·exact hs
    ·exact eL hvis hout n _ _ _ _ _ hc hs
   by_cases h4:ln.faa=4
   ·rw[bX hk h4]
    exact eL hvis hout n _ _ _ _ _ hc hs
   by_cases hv:(s.visits.length:Int)=lim
   ·rw[bY hk h7 h4 hv];exact hs
   ·rw[co hk h7 h4 hv]
    have hcall:∀g av s,Φ s→mM Φ (az p lim n calls k g av s):=by
     intro g av s' hs'
     unfold az
     split
     ·exact hs'
     ·exact eL hvis hout n _ _ _ _ _ (by rw[List.length_append];simp;omega) hs'
    have he:=vl (p:=p) (locals:=localsOf p (f:Int)) (vals:=vals) hcall (exL ln.fac) _ (hvis calls k s hc hs)
    cases hr:evE p (localsOf p (f:Int)) vals (az p lim n calls k) (exL ln.fac) ⟨s.out,s.visits++[calls++[(k:Int)]]⟩with
    | ok v s1=>
     rw[hr]at he
     rw[Rr.bnd_ok]
     split
     ·exact he
     ·refine eL hvis hout n _ _ _ _ _ hc ?_
      unfold eb
      split
      ·exact hout _ _ he
      ·exact he
    | stop c s1=>rw[hr]at he;exact he
    | fuel=>trivial
end
structure RunOk (lim:Int) (R:Rr Int):Prop where
 nf:R≠.fuel
 vis:(R.st.visits.length:Int)≤lim
 out:R.st.out.length≤R.st.visits.length
 rows:∀x∈R.st.visits,x.length≤7
 code:R.code=0∨R.code=1∨R.code=2
theorem yf {p:List Ai}(hp:PgOk p)(h:aB p=true){lim:Int}(h0:0≤lim):RunOk lim (dL p lim):=by
 obtain⟨n,hn⟩:=gM hp h h0
 rw[jm hn]
 have hx:=cy (p:=p) (lim:=lim) n [] 0 1 (bT (localsOf p 0).length []) is0
 have hr:=eL (p:=p) (lim:=lim) (Φ:=fun s=>∀x∈s.visits,x.length≤7) (fun calls k s hc hs x hx=>by
  rcases List.mem_append.1 hx with hx|hx
  ·exact hs x hx
  ·rw[List.mem_singleton]at hx;subst hx;rw[List.length_append];simp;omega) (fun s v hs=>hs) n [] 0 1 (bT (localsOf p 0).length []) is0 (by simp) (fun x hx=>by cases hx)
 cases hR:aA p lim n [] 0 1 (bT (localsOf p 0).length []) is0 with
 | fuel=>exact absurd hR hn
 | ok v s=>
  rw[hR]at hx hr
  have h1:=hx.le (by simpa using h0)
  have h2:=hx.ol
  exact⟨(fun e=>by cases e),h1,(show s.out.length≤s.visits.length by simpa using h2),hr,.inl rfl⟩
 | stop c s=>
  rw[hR]at hx hr
  have h1:=hx.1.le (by simpa using h0)
  have h2:=hx.1.ol
  exact⟨(fun e=>by cases e),h1,(show s.out.length≤s.visits.length by simpa using h2),hr,.inr hx.2⟩
end Go.Proofs.Ytjmplnfiabmalaa
namespace Go.Proofs.Ytjmplnfiabmalaa
open Go.Sim Go.RowKit
set_option maxRecDepth 100000
structure Ao where
 fak:List Int
 fah:List (List Int)
 fao:Int
 fag:Int
def Ao.tr (x:Ao):List Tr:=[.lst 1 (x.fak.map ab),.lst 1 (x.fah.map (ph 1 ab)),.int .i64 x.fao,.int .i64 x.fag]
def Ao.wf (x:Ao):Prop:=(x.fak.length≤maxLen∧∀y∈x.fak,inI y)∧(x.fah.length≤maxLen∧∀y∈x.fah,(y.length≤maxLen∧∀z∈y,inI z))∧inI x.fao∧inI x.fag
end Go.Proofs.Ytjmplnfiabmalaa
namespace Go.Proofs.Ytjmplnfiabmalaa
open Go.Sim
set_option maxRecDepth 100000
set_option maxHeartbeats 4000000
noncomputable def ivR (p:List Ai) (lim:Int):Ao:=if(aB p && ae lim 0 1000)=true then⟨(dL p lim).st.out,(dL p lim).st.visits,(dL p lim).val,(dL p lim).code⟩else⟨[],[],0,3⟩
abbrev ivE (x:Ao):List (Sim.Id×AO):=[((1,0,1),.arr false 1 (x.fak.map ab)),((1,0,2),.dar 1 (ak (x.fah.map (ph 1 ab))) none)]
abbrev ivV (x:Ao):AV:= .r (.agg [.own (1,0,1),.own (1,0,2),.t (.int .i64 x.fao),.t (.int .i64 x.fag)])
theorem qC {p:List Ai}{lim:Int}(h:¬(aB p && ae lim 0 1000)=true):ivR p lim=⟨[],[],0,3⟩:=by rw[ivR,if_neg h]
theorem tW {p:List Ai}{lim:Int}(h:(aB p && ae lim 0 1000)=true):ivR p lim=⟨(dL p lim).st.out,(dL p lim).st.visits,(dL p lim).val,(dL p lim).code⟩:=by rw[ivR,if_pos h]
theorem ku (p:List Ai)(hs:bd 1048576 (.lst 4 (p.map Ai.tr)))(lim:Int):
  bt Try.prog 8 [.r (.c (.t (.lst 4 (p.map Ai.tr)))),tI .i64 lim] [] (ivV (ivR p lim)) (ivE (ivR p lim)):=by
 by_cases h:(aB p && ae lim 0 1000)=true
 ·rw[tW h]
  rw[Bool.and_eq_true,within_iff]at h
  exact lP p hs h.1 lim h.2.1 h.2.2
 rw[qC h]
 have hP:=fV p hs
 have gl:=dt lim 0 1000
 generalize aB p=b1 at *
 generalize ae lim 0 1000=b2 at *
 refine aq hΓ au Try.func8 rfl (by decide) rfl rfl ?_
 repeat' ((conv=>whnf);first|(with_reducible apply W1;fail_if_success (with_reducible show Wo _ _ _ _ (Code.region 4 _ _) _ _))|(with_reducible first|apply W2|apply W3|apply W4|apply W5|apply W6|apply W7|apply W8|apply W9)|apply bB|apply oi|(apply fi<;>intro h)|refine cl hP ?_|refine cl gl ?_|refine⟨_,rfl,?_⟩|exact rfl)
 all_goals try exact⟨KP⟩
 all_goals try(exfalso;revert h;cases b1 <;> cases b2 <;> simp_all;done)
theorem lh (p:List Ai)(hs:bd 1048576 (.lst 4 (p.map Ai.tr)))(lim:Int):
  bt Try.prog 10 [.r (.c (.t (.lst 4 (p.map Ai.tr)))),tI .i64 lim] [] (ivV (ivR p lim)) (ivE (ivR p lim)):=by
 by_cases h:(aB p && ae lim 0 1000)=true
 ·rw[tW h]
  rw[Bool.and_eq_true,within_iff]at h
  exact lZ p hs h.1 lim h.2.1 h.2.2
 rw[qC h]
 have hP:=gi p hs
 have gl:=aV lim 0 1000
 generalize aB p=b1 at *
 generalize ae lim 0 1000=b2 at *
 refine aq hΓ au Try.func10 rfl (by decide) rfl rfl ?_
 repeat' ((conv=>whnf);first|(with_reducible apply W1;fail_if_success (with_reducible show Wo _ _ _ _ (Code.region 3 _ _) _ _))|(with_reducible first|apply W2|apply W3|apply W4|apply W5|apply W6|apply W7|apply W8|apply W9)|apply bB|apply oi|(apply fi<;>intro h)|refine cl hP ?_|refine cl gl ?_|refine⟨_,rfl,?_⟩|exact rfl)
 all_goals try exact⟨KP⟩
 all_goals try(exfalso;revert h;cases b1 <;> cases b2 <;> simp_all;done)
theorem kZ (p:List Ai)(hs:bd 1048576 (.lst 4 (p.map Ai.tr)))(lim:Int):Sim.Spec Try.prog 8 [tvP p,tvI lim] (.r (.agg ((ivR p lim).tr.map zs))):=by
 refine pJ (ts:=[tvP p,tvI lim]) (ku p hs lim) rfl ⟨trivial,trivial,trivial,trivial,trivial⟩ ⟨rfl,rfl,?_⟩
 repeat' ((conv=>whnf);first|exact rfl|exact trivial|(refine And.intro ?_ ?_))
 all_goals first|rfl|exact da _
theorem kD (p:List Ai)(hs:bd 1048576 (.lst 4 (p.map Ai.tr)))(lim:Int):Sim.Spec Try.prog 10 [tvP p,tvI lim] (.r (.agg ((ivR p lim).tr.map zs))):=by
 refine pJ (ts:=[tvP p,tvI lim]) (lh p hs lim) rfl ⟨trivial,trivial,trivial,trivial,trivial⟩ ⟨rfl,rfl,?_⟩
 repeat' ((conv=>whnf);first|exact rfl|exact trivial|(refine And.intro ?_ ?_))
 all_goals first|rfl|exact da _
def eK (l:List Ai):Nat→List UInt8
 | 0=>[]
 | n+1=>match l[n]? with
  | some x=>if x.faa=0 then x.fab else eK l n
  | none=>eK l n
def bR (l:List Ai)(k:Int):List UInt8:=if 0≤k∧k < l.length then eK l (k+1).toNat else []
theorem iU {l:List Ai}{k:Nat}{x:Ai}(hx:l[k]?=some x):eK l (k+1)=if x.faa=0 then x.fab else eK l k:=by
 rw[eK,hx]
theorem dz (l:List Ai)(k:Int)(hl:l.length≤1048576):Sim.Spec Try.prog 25 [tvL 4 (l.map Ai.tr),tvI k] (rS (bR l k)):=by
 refine ap hΓ au Try.func25 rfl (by decide) rfl ?_
 have hlen:(l.map Ai.tr).length=l.length:=by simp
 repeat' ((conv=>whnf);first|refine Or.inl ?_|apply oi|(apply fi<;>intro h)|refine⟨_,rfl,?_⟩|exact rfl)
 all_goals try exact⟨KO⟩
 unfold bR
 conv=>whnf
 refine⟨{q:Nat // q≤l.length∧(q=0∨(k < l.length∧(q:Int)≤k+1))},fun q=>⟨[(0,.r (.c (.t (.lst 4 (l.map Ai.tr))))),(1,tI .i64 k),(5,tS (eK l q.1)),(6,tI .i64 (q.1:Int))],[],[]⟩,fun q=>l.length - q.1,⟨0,by omega,by omega⟩,?_,?_⟩
 ·skip
  repeat' ((conv=>whnf);first|refine Or.inl ?_|apply oi|(apply fi<;>intro h)|refine⟨_,rfl,?_⟩|exact rfl)
  all_goals try exact⟨KO⟩
 intro⟨q,hq,hr⟩
 dsimp only at hq hr ⊢
 by_cases hlt:(q:Int)≤k∧k < l.length
 ·obtain⟨x,hx⟩:=af (l:=l) (k:=q) (by omega)
  have hn:=iU hx
  by_cases hf:x.faa=0
  ·rw[if_pos hf]at hn
   repeat' ((conv=>whnf);first|refine Or.inl ?_|apply oi|(apply fi<;>intro h)|refine⟨q,x.tr,rfl,aa hx,?_⟩|refine⟨_,rfl,?_⟩|exact rfl)
   all_goals try exact⟨KO⟩
   all_goals try exact KX
   all_goals try(exfalso;(try simp_all[ae]);(try omega);done)
   conv=>whnf
   refine⟨⟨q+1,by omega,by omega⟩,?_,KD⟩
   repeat' ((conv=>whnf);first|refine Or.inl ?_|apply oi|(apply fi<;>intro h)|refine⟨_,rfl,?_⟩|exact rfl)
   all_goals try exact⟨KO⟩
   all_goals try exact⟨K2⟩
   all_goals exact⟨by dsimp only;rw[hn]⟩
  ·rw[if_neg hf]at hn
   repeat' ((conv=>whnf);first|refine Or.inl ?_|apply oi|(apply fi<;>intro h)|refine⟨q,x.tr,rfl,aa hx,?_⟩|refine⟨_,rfl,?_⟩|exact rfl)
   all_goals try exact⟨KO⟩
   all_goals try exact KX
   all_goals try(exfalso;(try simp_all[ae]);(try omega);done)
   conv=>whnf
   refine⟨⟨q+1,by omega,by omega⟩,?_,KD⟩
   repeat' ((conv=>whnf);first|refine Or.inl ?_|apply oi|(apply fi<;>intro h)|refine⟨_,rfl,?_⟩|exact rfl)
   all_goals try exact⟨KO⟩
   all_goals try exact⟨K2⟩
   all_goals exact⟨by dsimp only;rw[hn]⟩
 ·have hfin:eK l q=if 0≤k∧k < l.length then eK l (k+1).toNat else []:=by
   by_cases hin:0≤k∧k < l.length
   ·rw[if_pos hin];congr 1;omega
   ·rw[if_neg hin,show q=0 by omega];rfl
  repeat' ((conv=>whnf);first|refine Or.inl ?_|apply oi|(apply fi<;>intro h)|refine⟨_,rfl,?_⟩|exact rfl)
  all_goals try exact⟨KO⟩
  all_goals try exact KX
  all_goals exact⟨by rw[hfin]⟩
def uZ (p:List Ai)(a b:Int):Prop:=∃(k:Nat) (y:Ai),a=(k:Int)∧p[k]?=some y∧∃t∈y.fac,t.faa=7∧t.fab=bR p b
structure VShape (p:List Ai) (v:List Int):Prop where
 len:v.length≤7
 main:∃a,v[0]?=some a∧bR p a=cB
 step:∀i a b,v[i]?=some a→v[i+1]?=some b→uZ p a b
theorem VShape.snoc {p:List Ai}{l:List Int}{a b:Int}(h:VShape p (l++[a]))(hl:l.length < 6)(hs:uZ p a b):VShape p ((l++[a])++[b]):=by
 refine⟨by simp;omega,?_,fun i x y hx hy=>?_⟩
 ·obtain⟨m,h1,h2⟩:=h.main
  exact⟨m,by rw[List.getElem?_append_left (by simp)];exact h1,h2⟩
 ·rcases Nat.lt_trichotomy (i+1) (l++[a]).length with hi|hi|hi
  ·rw[List.getElem?_append_left (by omega)]at hx hy
   exact h.step i x y hx hy
  ·have hil:i=l.length:=by simpa using hi
   rw[List.getElem?_append_left (by omega),hil,List.getElem?_append_right (Nat.le_refl _)]at hx
   rw[hi,List.getElem?_append_right (Nat.le_refl _)]at hy
   simp only[Nat.sub_self,List.getElem?_cons_zero,Option.some.injEq]at hx hy
   subst hx;subst hy
   exact hs
  ·rw[List.getElem?_eq_none (by simp at hi ⊢;omega)]at hy
   cases hy
def ww (p:List Ai)(s:IS):Prop:=∀v∈s.visits,VShape p v
structure Ctx (p:List Ai) (calls:List Int) (f:Nat):Prop where
 len:calls.length≤6
 shp:∀e k,InF p f e k→VShape p (calls++[(k:Int)])
section
variable {p:List Ai} {locals:List (List UInt8)} {vals:List Int} {call:fw} {Φ:IS→Prop} {ts:List Ar}
mutual
theorem tw (h:∀t∈ts,t.faa=7→∀av s,Φ s→mM Φ (call ((findN p 0 t.fab).getD 0) av s)):∀(e:Ex) (s:IS),(∀t∈e.toks,t∈ts)→Φ s→mM Φ (evE p locals vals call e s)
 | .node t es,s,hm,hs=>by
  have h1:=pN h es s (fun x hx=>hm x (by rw[Ex.toks];exact List.mem_cons_of_mem _ hx)) hs
  rw[evE]
  cases hr:aF p locals vals call es s with
  | ok av s1=>
   rw[hr]at h1
   rw[Rr.bnd_ok,cE]
   split
   ·exact h1
   ·split
    ·exact h1
    ·split
     ·rename_i h7
      exact h t (hm t (by rw[Ex.toks];exact List.mem_cons_self ..)) h7 _ _ h1
     ·exact h1
  | stop c s1=>rw[hr]at h1;exact h1
  | fuel=>trivial
theorem pN (h:∀t∈ts,t.faa=7→∀av s,Φ s→mM Φ (call ((findN p 0 t.fab).getD 0) av s)):∀(es:List Ex) (s:IS),(∀t∈ay es,t∈ts)→Φ s→mM Φ (aF p locals vals call es s)
 | [],s,_,hs=>by rw[aF];exact hs
 | a::es,s,hm,hs=>by
  have h1:=tw h a s (fun x hx=>hm x (by rw[ay];exact List.mem_append.2 (.inl hx))) hs
  rw[aF]
  cases hr:evE p locals vals call a s with
  | ok v s1=>
   rw[hr]at h1
   rw[Rr.bnd_ok]
   have h2:=pN h es s1 (fun x hx=>hm x (by rw[ay];exact List.mem_append.2 (.inr hx))) h1
   cases hr2:aF p locals vals call es s1 with
   | ok vs s2=>rw[hr2]at h2;exact h2
   | stop c s2=>rw[hr2]at h2;exact h2
   | fuel=>trivial
  | stop c s1=>rw[hr]at h1;exact h1
  | fuel=>trivial
end
end
theorem qd {p:List Ai}(hp:PgOk p){f e:Nat}{y:Ai}(hy:p[f]?=some y)(h0:y.faa=0):∀d,InF p f e (f+1+d)→eK p (f+1+d+1)=y.fab
 | 0,h=>by
  obtain⟨ln,hk,h1,_⟩:=h.line hp
  rw[iU hk,if_neg (by omega)]
  show eK p (f+1)=_
  rw[iU hy,if_pos h0]
 | d+1,h=>by
  obtain⟨ln,hk,h1,_⟩:=h.line hp
  rw[iU hk,if_neg (by omega)]
  exact qd hp hy h0 d (h.at (by omega) (by have:=h.hi;omega))
theorem vh {p:List Ai}(hp:PgOk p){f e k:Nat}{y:Ai}(hy:p[f]?=some y)(h0:y.faa=0)(h:InF p f e k):bR p (k:Int)=y.fab:=by
 obtain⟨ln,hk,_⟩:=h.line hp
 have hkl:=aU hk
 have hlo:=h.lo
 rw[bR,if_pos ⟨by omega,by omega⟩,show((k:Int)+1).toNat=k+1 by omega]
 have:=qd hp hy h0 (k - (f+1)) (by rw[show f+1+(k - (f+1))=k by omega];exact h)
 rwa [show f+1+(k - (f+1))=k by omega]at this
theorem cG {p:List Ai}(hp:PgOk p){lim:Int}:∀(n:Nat) (calls:List Int) (f e k:Nat) (vals:List Int) (s:IS),Ctx p calls f→InF p f e k→ww p s→mM (ww p) (aA p lim n calls f k vals s)
 | 0,_,_,_,_,_,_,_,_,_=>trivial
 | n+1,calls,f,e,k,vals,s,hc,hI,hs=>by
  obtain⟨ln,hk,hk1,hk7,hke⟩:=hI.line hp
  have hlo:=hI.lo
  by_cases h7:ln.faa=7
  ·rw[bn hk h7]
   split
   ·exact hs
   ·rename_i hne
    obtain⟨_,⟨_,h2⟩|⟨q1,q2,q3,_⟩⟩:=hI.own7 hp hk h7
    ·exact absurd h2 hne
    ·split
     ·exact cG hp n _ _ e _ _ _ hc (hI.at q2 (by omega)) hs
     ·exact cG hp n _ _ e _ _ _ hc (hI.at (by omega) (by omega)) hs
  by_cases h4:ln.faa=4
  ·rw[bX hk h4]
   have:=hI.elseNext hp hk h4
   exact cG hp n _ _ e _ _ _ hc (hI.at (by omega) (by omega)) hs
  by_cases hv:(s.visits.length:Int)=lim
  ·rw[bY hk h7 h4 hv];exact hs
  ·rw[co hk h7 h4 hv]
   obtain⟨_,_,e2,e3⟩:=hI.known hp hk h7 h4
   have hs1:ww p ⟨s.out,s.visits++[calls++[(k:Int)]]⟩:=fun v hv=>by
    rcases List.mem_append.1 hv with hv|hv
    ·exact hs v hv
    ·rw[List.mem_singleton]at hv;subst hv;exact hc.shp e k hI
   have hcall:∀t∈(exL ln.fac).toks,t.faa=7→∀av s,ww p s→mM (ww p) (az p lim n calls k ((findN p 0 t.fab).getD 0) av s):=by
    intro t ht ht7 av s' hs'
    obtain⟨g,hg⟩:=e3 t ht ht7
    rw[hg,Option.getD_some]
    unfold az
    split
    ·exact hs'
    ·rename_i h6
     obtain⟨_,y,hy,h0,hyn⟩:=dF hg
     obtain⟨eg,hIg⟩:=InF.start hp ⟨y,hy,h0⟩
     have hcl:=hc.len
     refine cG hp n _ _ eg _ _ _ ⟨by rw[List.length_append];simp;omega,fun e' k' hI'=>?_⟩ hIg hs'
     refine(hc.shp e k hI).snoc (by omega) ⟨k,ln,rfl,hk,t,by rw[e2];exact ht,ht7,?_⟩
     rw[vh hp hy h0 hI']
     simpa using hyn.symm
   have hE:=tw (p:=p) (locals:=localsOf p (f:Int)) (vals:=vals) hcall (exL ln.fac) _ (fun _ h=>h) hs1
   cases hr:evE p (localsOf p (f:Int)) vals (az p lim n calls k) (exL ln.fac) ⟨s.out,s.visits++[calls++[(k:Int)]]⟩with
   | ok v s1=>
    rw[hr]at hE
    rw[Rr.bnd_ok]
    split
    ·exact hE
    ·refine cG hp n _ _ e _ _ _ hc (hI.next hp hk h7 v).1 ?_
     unfold eb
     split
     ·exact hE
     ·exact hE
   | stop c s1=>rw[hr]at hE;exact hE
   | fuel=>trivial
theorem tF {p:List Ai}(hp:PgOk p)(h:aB p=true){lim:Int}(h0:0≤lim):∀v∈(dL p lim).st.visits,VShape p v:=by
 obtain⟨n,hn⟩:=gM hp h h0
 rw[jm hn]
 obtain⟨y,hy,hy0,hyn,_⟩:=nn h
 obtain⟨e,hI⟩:=InF.start hp ⟨y,hy,hy0⟩
 have hC:Ctx p [] 0:=⟨by simp,fun e k hI=>⟨by simp,⟨(k:Int),rfl,(vh hp hy hy0 hI).trans hyn⟩,fun i a b ha hb=>by simp at hb⟩⟩
 have:=cG hp (lim:=lim) n [] 0 e 1 (bT (localsOf p 0).length []) is0 hC hI (fun v hv=>by cases hv)
 cases hR:aA p lim n [] 0 1 (bT (localsOf p 0).length []) is0 with
 | fuel=>exact absurd hR hn
 | ok v s=>rw[hR]at this;exact this
 | stop c s=>rw[hR]at this;exact this
end Go.Proofs.Ytjmplnfiabmalaa
