import Derived.Test.YtoglejgmjeojoaaGh
namespace Go.Proofs.Ytoglejgmjeojoaa
open Go.Sim
set_option maxRecDepth 100000
set_option maxHeartbeats 4000000
def uk (R:List Og)(d:Nat):Prop:=0<R.length/\R.length<=5^d/\∀t∈R,t.fac.length<=8
abbrev KI (vars:List (List UInt8))(c:NQ):List (Sim.Id×AO):=fC c++[((0,0,1),.arr false 1 (vars.map ax))]
abbrev Eo (m:Int)(names:List (List UInt8))(ars:List Int):List AV:=[gZ,tI .i64 m,.r (.c (.own (0,0,1))),vN names,.r (.c (.t (.lst 1 (ars.map aa))))]
abbrev Ke (vars:List (List UInt8))(c:NQ)(R:List Og):List (Sim.Id×AO):=KI vars c++[((1,0,0),.arr false 3 (R.map Og.tr))]
theorem vq (d:Nat):1<=5^d:=Nat.one_le_pow _ _ o_
theorem KG {d:Nat}(h:d<=8):5^d<=390625:=Nat.pow_le_pow_right (n:=5) (by omega) h
theorem V92{p:Prop}(h:p:=by
 rw[Int.tdiv_eq_ediv_of_nonneg h0,c9 _ o_];have:(2:Int)^(d+1)=2*2^d:=by rw[Int.pow_succ];omega
 omega):p:=h
theorem JA {m:Int}{d:Nat}(h0:0<=m)(h1:m<2^(d+1))(hb:m<=1000):0<=IntKind.i64.wrap (m.tdiv 4)/\IntKind.i64.wrap (m.tdiv 4)<2^d/\IntKind.i64.wrap (m.tdiv 4)<=1000:=by exact V92
def vg (P:NQ->List Og->NQ->Prop)(d:Nat):Nat->NQ->List Og->NQ->List Og->Prop
 | 0,c,acc,c',O6=>c'=c/\O6=acc
 | k+1,c,acc,c',O6=>∃R c1,uk R d/\c1.b=c.b/\c1.ok/\P c R c1/\vg P d k c1 (acc++R) c' O6
theorem DF {P:NQ->List Og->NQ->Prop}{d:Nat}(ih:∀c:NQ,c.ok->∃R c1,uk R d/\c1.b=c.b/\c1.ok/\P c R c1):∀(k:Nat) (c:NQ) (acc:List Og),c.ok->∃c' O6,vg P d k c acc c' O6
 | 0,c,acc,_=>⟨c,acc,rfl,rfl⟩
 | k+1,c,acc,hc=>by
  obtain⟨R,c1,h1,h2,h3,h4⟩:=ih c hc;obtain⟨c',O6,h5⟩:=DF ih k c1 (acc++R) h3;exact⟨c',O6,R,c1,h1,h2,h3,h4,h5⟩
theorem tP {P:NQ->List Og->NQ->Prop}{d:Nat}:∀{k:Nat} {c c':NQ} {acc O6:List Og},vg P d k c acc c' O6->c.ok->c'.b=c.b/\c'.ok/\acc.length<=O6.length/\O6.length<=acc.length+k*5^d/\((∀t∈acc,t.fac.length<=8)->∀t∈O6,t.fac.length<=8)
 | 0,c,c',acc,O6,h,hc=>by
  obtain⟨rfl,rfl⟩:=h
  exact⟨rfl,hc,d6 _,o_,fun h=>h⟩
 | k+1,c,c',acc,O6,h,hc=>by
  obtain⟨R,c1,h1,h2,h3,_,h5⟩:=h;obtain⟨g1,g2,g3,g4,g5⟩:=tP h5 h3;rw[c7]at g3 g4;have hR:=h1.2.1;refine⟨g1.trans h2,g2,o_,by rw[o9];omega,fun H=>g5 fun t ht=>?_⟩;rcases e7.1 ht with ht|ht
  ·exact H t ht
  ·exact h1.2.2 t ht
theorem Lf {m:Int}{d:Nat}(h0:0<=m)(h1:m<2^(d+1))(hb:m<=1000):0<=IntKind.i64.wrap (m.tdiv 2)/\IntKind.i64.wrap (m.tdiv 2)<2^d/\IntKind.i64.wrap (m.tdiv 2)<=1000:=by exact V92
theorem gM (vars names:List (List UInt8))(ars:List Int)(hv:vars.length<=100)(hn:names.length<=100)(ha:ars.length=names.length)(Tt:∀a∈ars,0<=a/\a<=4)(UW:∀s∈vars,s.length<=8)(UK:∀s∈names,s.length<=8):
  ∀(d:Nat) (m:Int) (c:NQ),d<=8->0<=m->m<2^d->m<=1000->c.ok->∃(R:List Og) (c':NQ),uk R d/\c'.b=c.b/\c'.ok/\bf Try.prog 75 (Eo m names ars) (KI vars c) (.r (.c (.own (1,0,0)))) (Ke vars c' R)
 | d,m,c,hd,h0,h1,hm,hc=>by
  have p5d:=KG hd;have OK:(vars.map ax).length=vars.length:=s_;have Pp:(names.map ax).length=names.length:=s_;obtain⟨k,c1,k1,_,b1,o1,g1⟩:=bO c 10 hc;by_cases aaK:2<m/\k<5
  ·cases d with
   | zero=>omega
   | succ d=>
    obtain⟨kd,c2,k2,_,b2,o2,g2⟩:=bO c1 5 o1;obtain⟨q1,q2,q3⟩:=Lf h0 h1 hm;obtain⟨R3,c3,t3,b3,o3,g3⟩:=gM vars names ars hv hn ha Tt UW UK d _ c2 o_ q1 q2 q3 o2;obtain⟨R4,c4,t4,b4,o4,g4⟩:=gM vars names ars hv hn ha Tt UW UK d _ c3 o_ q1 q2 q3 o3;have p5:=vq d;have p5':5^(d+1)=5*5^d:=by rw[H5];omega
    have t3l:=t3.2.1;have t4l:=t4.2.1;refine⟨⟨2+kd,0,[]⟩::(R3++R4),c4,⟨s_,?_,?_⟩,((b4.trans b3).trans b2).trans b1,o4,?_⟩
    ·have:=t3.2.1;have:=t4.2.1;rw[d5,c7];omega
    ·intro t ht;rcases d7.1 ht with rfl|ht
     ·simp
     ·rcases e7.1 ht with ht|ht
      ·exact t3.2.2 t ht
      ·exact t4.2.2 t ht
    ·refine aw hΓ aK Try.func75 rfl d_ rfl rfl ?_;repeat' ((conv=>whnf);first|apply Wx|apply W6|apply oi|apply fi|intro h|refine⟨_,rfl,?_⟩|exact Y7|fail)
     refine cg (g1) ?_;repeat' ((conv=>whnf);first|apply Wx|apply W6|apply oi|apply fi|intro h|refine⟨_,rfl,?_⟩|exact Y5|fail)
     all_goals try(exfalso;simp at h;omega)
     refine cg (g2) ?_;repeat' ((conv=>whnf);first|apply Wx|apply W6|apply oi|apply fi|intro h|refine⟨_,rfl,?_⟩|exact Y7|fail)
     refine cg (g3) ?_;repeat' ((conv=>whnf);first|apply Wx|apply W6|apply oi|apply fi|intro h|refine⟨_,rfl,?_⟩|exact Y7|fail)
     all_goals try exact⟨⟨by simp<;>omega,by simp<;>omega⟩⟩
     refine cg (g4) ?_;repeat' ((conv=>whnf);first|apply Wx|apply W6|apply oi|apply fi|intro h|refine⟨_,rfl,?_⟩|exact Y7|fail)
     all_goals try exact⟨⟨by simp<;>omega,by simp<;>omega⟩⟩
     all_goals exact⟨by rw[c9 _ o_];simp[Og.tr]⟩
  ·by_cases M5:0<names.length/\1<m/\k<8
   ·cases d with
    | zero=>omega
    | succ d=>
     obtain⟨Pu,S3,hc3⟩:=M5;obtain⟨f,c2,kf,_,b2,o2,g2⟩:=bO c1 ((names.map ax).length:Int) o1;rw[Pp]at kf;have Ph:f<names.length:=by have:=kf o_;omega
     obtain⟨nm,Pn⟩:=ae Ph;obtain⟨a,Xg⟩:=ae (l:=ars) (k:=f) o_;have hab:=Tt a (d4 Xg);obtain⟨an,rfl⟩:=j8 hab.1;obtain⟨q1,q2,q3⟩:=JA h0 h1 hm;have ih:=fun c hc=>gM vars names ars hv hn ha Tt UW UK d (IntKind.i64.wrap (m.tdiv 4)) c o_ q1 q2 q3 hc;have p5:=vq d;have p5':5^(d+1)=5*5^d:=by rw[H5];omega
     obtain⟨c',R,O0⟩:=DF (P:=fun c R c'=>bf Try.prog 75 (Eo (IntKind.i64.wrap (m.tdiv 4)) names ars) (KI vars c) (.r (.c (.own (1,0,0)))) (Ke vars c' R)) (d:=d) ih an c2 [⟨7,an,nm⟩] o2;have Vu:=tP O0 o2;refine⟨R,c',⟨by have:=Vu.2.2.1;simp at this;omega,by have:=Vu.2.2.2.1;have h4:an*5^d<=4*5^d:=l6 _ o_;simp at this;omega,Vu.2.2.2.2 (by intro t ht;simp at ht;subst ht;exact UK nm (d4 Pn))⟩,(Vu.1.trans b2).trans b1,Vu.2.1,?_⟩;refine aw hΓ aK Try.func75 rfl d_ rfl rfl ?_;repeat' ((conv=>whnf);first|apply Wx|apply W6|apply oi|apply fi|intro h|refine⟨_,rfl,?_⟩|exact Y7|fail)
     refine cg (g1) ?_;repeat' ((conv=>whnf);first|apply Wx|apply W6|apply oi|apply fi|intro h|refine⟨_,rfl,?_⟩|exact Y5|fail)
     all_goals(
      refine cg (g2) ?_;have PI:(ars.map aa).length=ars.length:=s_;repeat' ((conv=>whnf);first|apply Wx|apply W6|apply oi|apply fi|intro h|refine⟨f,(aa an),rfl,ab Xg,?_⟩|refine⟨f,(ax nm),rfl,ab Pn,?_⟩|refine⟨_,rfl,?_⟩|exact Y7|fail)
      conv=>whnf
      refine⟨{q:Nat×NQ×List Og//q.1<=an/\q.2.1.ok/\q.2.2.length<=1+q.1*5^d/\vg (fun c R c'=>bf Try.prog 75 (Eo (IntKind.i64.wrap (m.tdiv 4)) names ars) (KI vars c) (.r (.c (.own (1,0,0)))) (Ke vars c' R)) d (an-q.1) q.2.1 q.2.2 c' R},fun q=>⟨[(0,gZ),(1,tI .i64 m),(2,.r (.c (.own (0,0,1)))),(3,vN names),(4,.r (.c (.t (.lst 1 (ars.map aa))))),(13,tI .i64 (f:Int)),(14,.r (.c (.own (14,0,0)))),(15,tI .i64 (q.1.1:Int))],[((0,0,0),some (.box [.t (.lst 1 (q.1.2.1.b.map ba)),.t (.int .i64 q.1.2.1.i),.t (.int .i64 q.1.2.1.h)])),((0,0,1),some (.arr false 1 (vars.map ax))),((14,0,0),some (.arr false 3 (q.1.2.2.map Og.tr)))],[14,0]⟩,fun q=>an-q.1.1,⟨(0,c2,[⟨7,an,nm⟩]),g_,o2,s_,O0⟩,?_,?_⟩
      ·exact Z1
      intro⟨⟨i,ci,acc⟩,r1,r2,r3,r4⟩;dsimp only at r1 r2 r3 r4⊢;by_cases J3:i<an
      ·obtain⟨w,hw⟩:∃w,an-i=w+1:=⟨an-i-1,o_⟩;rw[hw]at r4;obtain⟨R5,c5,t5,b5,o5,g5,r5⟩:=r4;have t5l:=t5.2.1;have i5:i*5^d<=4*5^d:=l6 _ o_;have i6:(i+1)*5^d=i*5^d+5^d:=by rw[o9];omega
       repeat' ((conv=>whnf);first|apply Wx|apply W6|apply oi|apply fi|intro h|refine⟨f,(aa an),rfl,ab Xg,?_⟩|refine⟨_,rfl,?_⟩|exact Y5|fail)
       refine cg (g5) ?_;repeat' ((conv=>whnf);first|apply Wx|apply W6|apply oi|apply fi|intro h|refine⟨_,rfl,?_⟩|exact Y7|fail)
       all_goals try exact⟨⟨by simp<;>omega,by simp<;>omega⟩⟩
       conv=>whnf
       refine⟨⟨(i+1,c5,acc++R5),g_,o5,by simp;omega,by rw[show an-(i+1)=w by omega];exact r5⟩,?_,KD⟩;repeat' ((conv=>whnf);first|apply Wx|apply W6|apply oi|apply fi|intro h|refine⟨_,rfl,?_⟩|exact Y6|fail)
       all_goals exact⟨s_⟩
      ·rw[show an-i=0 by omega]at r4;obtain⟨rfl,rfl⟩:=r4;repeat' ((conv=>whnf);first|apply Wx|apply W6|apply oi|apply fi|intro h|refine⟨f,(aa an),rfl,ab Xg,?_⟩|refine⟨_,rfl,?_⟩|exact Y5|fail)
     )
   ·have pick:∀c:NQ,c.ok->∃(v:Int) (c':NQ),c'.b=c.b/\c'.ok/\bf Try.prog 23 [gZ,.r (.c (.own (0,0,1)))] (fC c++[((0,0,1),.arr false 1 (([0,1,2,3,10,999]:List Int).map aa))]) (tI .i64 v) (fC c'++[((0,0,1),.arr false 1 (([0,1,2,3,10,999]:List Int).map aa))]):=fun c hc=>by
     obtain⟨v,c',_,b,o,g⟩:=ki c [0,1,2,3,10,999] hc d_ d_;exact⟨v,c',b,o,g⟩
    have p5:=vq d;have PH:∀(t:Og),t.fac.length<=8->uk [t] d:=fun t ht=>⟨s_,by simpa using p5,by intro u hu;simp at hu;subst hu;exact ht⟩;by_cases aa0:0<vars.length
    ·obtain⟨o,c2,b2,o2,g2⟩:=dU c1 2 o1
     cases o with
     | true=>
      obtain⟨f,c3,kf,_,b3,o3,g3⟩:=bO c2 ((vars.map ax).length:Int) o2;rw[OK]at kf;have Ph:f<vars.length:=by have:=kf o_;omega
      obtain⟨nm,Pn⟩:=ae Ph;have L8:f<(vars.map ax).length:=by rw[OK];exact Ph
      refine⟨[⟨1,0,nm⟩],c3,PH _ (UW nm (d4 Pn)),(b3.trans b2).trans b1,o3,?_⟩;refine aw hΓ aK Try.func75 rfl d_ rfl rfl ?_;repeat' ((conv=>whnf);first|apply Wx|apply W6|apply oi|apply fi|intro h|refine⟨_,rfl,?_⟩|exact Y7|fail)
      refine cg (g1) ?_;repeat' ((conv=>whnf);first|apply Wx|apply W6|apply oi|apply fi|intro h|refine⟨_,rfl,?_⟩|exact Y5|fail)
      all_goals try(exfalso;simp at h;omega)
      all_goals(
       refine cg (g2) ?_;repeat' ((conv=>whnf);first|apply Wx|apply W6|apply oi|apply fi|intro h|refine⟨_,rfl,?_⟩|exact Y7|fail)
       refine cg (g3) ?_;repeat' ((conv=>whnf);first|apply Wx|apply W6|apply oi|apply fi|intro h|refine⟨f,rfl,L8,?_⟩|refine⟨(ax nm),ab Pn,?_⟩|refine⟨_,rfl,?_⟩|exact Y7|fail)
      )
     | false=>
      obtain⟨v,c3,b3,o3,g3⟩:=pick c2 o2;refine⟨[⟨0,v,[]⟩],c3,PH _ s_,(b3.trans b2).trans b1,o3,?_⟩;refine aw hΓ aK Try.func75 rfl d_ rfl rfl ?_;repeat' ((conv=>whnf);first|apply Wx|apply W6|apply oi|apply fi|intro h|refine⟨_,rfl,?_⟩|exact Y7|fail)
      refine cg (g1) ?_;repeat' ((conv=>whnf);first|apply Wx|apply W6|apply oi|apply fi|intro h|refine⟨_,rfl,?_⟩|exact Y5|fail)
      all_goals try(exfalso;simp at h;omega)
      all_goals(
       refine cg (g2) ?_;repeat' ((conv=>whnf);first|apply Wx|apply W6|apply oi|apply fi|intro h|refine⟨_,rfl,?_⟩|exact Y7|fail)
       refine cg (g3) ?_;exact Z1
      )
    ·obtain⟨v,c3,b3,o3,g3⟩:=pick c1 o1;refine⟨[⟨0,v,[]⟩],c3,PH _ s_,b3.trans b1,o3,?_⟩;refine aw hΓ aK Try.func75 rfl d_ rfl rfl ?_;repeat' ((conv=>whnf);first|apply Wx|apply W6|apply oi|apply fi|intro h|refine⟨_,rfl,?_⟩|exact Y7|fail)
     refine cg (g1) ?_;repeat' ((conv=>whnf);first|apply Wx|apply W6|apply oi|apply fi|intro h|refine⟨_,rfl,?_⟩|exact Y5|fail)
     all_goals try(exfalso;simp at h;omega)
     all_goals(
      refine cg (g3) ?_;exact Z1
     )
termination_by d=>d
def Jk (h:Int)(u:UInt8):Int:=IntKind.i64.wrap ((BitVec.ofInt IntKind.i64.bits (IntKind.i64.wrap (IntKind.i64.wrap (IntKind.i64.wrap (h*131)+IntKind.i64.wrap (u.toNat:Int))+7)) &&& BitVec.ofInt IntKind.i64.bits 1073741823).toNat:Int)
def JG (code:List UInt8):Int:=(code.take 4000).foldl Jk (IntKind.i64.wrap (33147+((code.map ba).length:Int)))
theorem ya (code:List UInt8)(hl:code.length<=1048576):bf Try.prog 12 [.r (.c (.t (.lst 1 (code.map ba))))] [] (.r (.c (.ptr (1,0,0) 0))) [((1,0,0),.box [.t (.lst 1 (code.map ba)),.t (.int .i64 0),.t (.int .i64 (JG code))])]:=by
 refine aw hΓ aK Try.func12 rfl d_ rfl rfl ?_;have J0:(code.map ba).length=code.length:=s_;obtain⟨H,hH⟩:∃H,JG code=H:=⟨_,rfl⟩;rw[hH];have ht:(code.take 4000).length<=4000:=by simp;omega
 repeat' ((conv=>whnf);first|apply Wx|apply W6|apply oi|apply fi|intro h|refine⟨_,rfl,?_⟩|exact Y7|fail)
 conv=>whnf
 refine⟨{q:Nat×Int//q.1<=code.length/\((code.take 4000).drop q.1).foldl Jk q.2=H},fun q=>⟨[(0,.r (.c (.t (.lst 1 (code.map ba))))),(3,tI .i64 q.1.2),(4,tI .i64 (q.1.1:Int))],[],[0]⟩,fun q=>code.length-q.1.1,⟨(0,IntKind.i64.wrap (33147+((code.map ba).length:Int))),g_,hH⟩,?_,?_⟩
 ·exact Z1
 intro⟨⟨i,hv⟩,hi,hr⟩;dsimp only at hi hr⊢;by_cases J3:i<code.length/\i<4000
 ·obtain⟨u,hu⟩:=ae J3.1;rw[dD (x:=u) (by rw[n6,b9 J3.2];exact hu),List.foldl_cons]at hr;repeat' ((conv=>whnf);first|apply Wx|apply W6|apply oi|apply fi|intro h|refine⟨i,(ba u),rfl,ab hu,?_⟩|refine⟨_,rfl,?_⟩|exact Y5|fail)
  conv=>whnf
  refine⟨⟨(i+1,Jk hv u),g_,hr⟩,?_,KD⟩;repeat' ((conv=>whnf);first|apply Wx|apply W6|apply oi|apply fi|intro h|refine⟨_,rfl,?_⟩|exact Y6|fail)
  all_goals exact⟨rfl⟩
 ·rw[q8 (by simp;omega)]at hr;have hr:hv=H:=hr;subst hr;exact Z5
abbrev MH (vars names:List (List UInt8))(ars:List Int)(c:NQ):List (Sim.Id×AO):=[((0,0,0),.box [.ptr (0,0,1) 0,.own (0,0,2),.t (.lst 1 (names.map ax)),.t (.lst 1 (ars.map aa))]),((0,0,1),.box [.t (.lst 1 (c.b.map ba)),.t (.int .i64 c.i),.t (.int .i64 c.h)]),((0,0,2),.arr false 1 (vars.map ax))]
theorem rJ (vars names:List (List UInt8))(ars:List Int)(hv:vars.length<=100)(hn:names.length<=100)(ha:ars.length=names.length)(Tt:∀a∈ars,0<=a/\a<=4)(UW:∀s∈vars,s.length<=8)(UK:∀s∈names,s.length<=8)
  (d:Nat) (m:Int) (c:NQ) (hd:d<=8) (h0:0<=m) (h1:m<2^d) (hm:m<=1000) (hc:c.ok):∃(R:List Og) (c':NQ),uk R d/\c'.b=c.b/\c'.ok/\bf Try.prog 65 [gZ,tI .i64 m] (MH vars names ars c) (.r (.c (.own (1,0,0)))) (MH vars names ars c'++[((1,0,0),.arr false 3 (R.map Og.tr))]):=by
 obtain⟨R,c',t1,b1,o1,g1⟩:=gM vars names ars hv hn ha Tt UW UK d m c hd h0 h1 hm hc;refine⟨R,c',t1,b1,o1,?_⟩;refine aw hΓ aK Try.func65 rfl d_ rfl rfl ?_;repeat' ((conv=>whnf);first|apply Wx|apply W6|apply oi|apply fi|intro h|refine⟨_,rfl,?_⟩|exact Y7|fail)
 refine cg (g1) ?_;exact Z1
noncomputable section
open Classical (propDecidable)
attribute [local instance] propDecidable
def ca (n:Int)(c:NQ):Nat×NQ:=if h:c.ok then(Classical.choose (bO c n h),Classical.choose (r9 (bO c n h)))else(0,c)
theorem bX {c:NQ}(h:c.ok)(n:Int):(0<n->((ca n c).1:Int)<n)/\(ca n c).2.b=c.b/\(ca n c).2.ok/\bf Try.prog 24 [gZ,tI .i64 n] (fC c) (tI .i64 (ca n c).1) (fC (ca n c).2):=by rw[ca,dif_pos h];have:=r9 (r9 (bO c n h));exact⟨this.1,this.2.2.1,this.2.2.2.1,this.2.2.2.2⟩
def kn (n:Int)(c:NQ):Bool×NQ:=if h:c.ok then(Classical.choose (dU c n h),Classical.choose (r9 (dU c n h)))else(false,c)
theorem iG {c:NQ}(h:c.ok)(n:Int):(kn n c).2.b=c.b/\(kn n c).2.ok/\bf Try.prog 42 [gZ,tI .i64 n] (fC c) (tB (kn n c).1) (fC (kn n c).2):=by rw[kn,dif_pos h];exact r9 (r9 (dU c n h))
structure GP where
 vars:List (List UInt8)
 names:List (List UInt8)
 ars:List Int
structure GP.ok (G:GP):Prop where
 v1:0<G.vars.length
 v:G.vars.length<=100
 n:G.names.length<=100
 a:G.ars.length=G.names.length
 a4:∀a∈G.ars,0<=a/\a<=4
 v8:∀s∈G.vars,s.length<=8
 n8:∀s∈G.names,s.length<=8
abbrev gH (G:GP)(c:NQ):List (Sim.Id×AO):=MH G.vars G.names G.ars c
theorem gex {G:GP}(hG:G.ok){c:NQ}(hc:c.ok)(m:Nat)(hm:m<8):∃(R:List Og) (c':NQ),uk R 3/\c'.b=c.b/\c'.ok/\bf Try.prog 65 [gZ,tI .i64 (m:Int)] (gH G c) (.r (.c (.own (1,0,0)))) (gH G c'++[((1,0,0),.arr false 3 (R.map Og.tr))]):=
 rJ G.vars G.names G.ars hG.v hG.n hG.a hG.a4 hG.v8 hG.n8 3 (m:Int) c o_ o_ (by show(m:Int)<8;omega) o_ hc
def exV (G:GP)(m:Nat)(c:NQ):List Og×NQ:=if h:G.ok/\c.ok/\m<8 then(Classical.choose (gex h.1 h.2.1 m h.2.2),Classical.choose (r9 (gex h.1 h.2.1 m h.2.2)))else([],c)
theorem eG {G:GP}(hG:G.ok){c:NQ}(hc:c.ok)(m:Nat)(hm:m<8):uk (exV G m c).1 3/\(exV G m c).2.b=c.b/\(exV G m c).2.ok/\bf Try.prog 65 [gZ,tI .i64 (m:Int)] (gH G c) (.r (.c (.own (1,0,0)))) (gH G (exV G m c).2++[((1,0,0),.arr false 3 ((exV G m c).1.map Og.tr))]):=by rw[exV,dif_pos ⟨hG,hc,hm⟩];exact r9 (r9 (gex hG hc m hm))
def jQ (G:GP)(rc:Nat->NQ->List NX×NQ)(dp:Bool)(c:NQ):List NX×NQ:=
 let k:=(ca 9 c).1
 let c1:=(ca 9 c).2
 if k<4 then
  let v:=ca G.vars.length c1
  let e:=exV G 6 v.2
  ([⟨1,G.vars[v.1]?.getD [],[],e.1⟩],e.2)
 else if k<6 then
  let e:=exV G 5 c1
  ([⟨2,[],[],e.1⟩],e.2)
 else if k=6/\dp=true then
  let e:=exV G 4 c1
  let t:=ca 2 e.2
  let B:=rc (1+t.1) t.2
  let o:=kn 2 B.2
  if o.1=true then
   let E:=rc 1 o.2
   (⟨3,[],[],e.1⟩::(B.1++(⟨4,[],[],[]⟩::(E.1++[⟨7,[],[],[]⟩]))),E.2)
  else(⟨3,[],[],e.1⟩::(B.1++[⟨7,[],[],[]⟩]),o.2)
 else if k=7/\dp=true then
  let t:=ca 3 c1
  let B:=rc 1 t.2
  (⟨5,[],[],[⟨5,0,[]⟩,⟨1,0,[105]⟩,⟨0,(1+t.1:Nat),[]⟩]⟩::(B.1++[⟨1,[105],[],[⟨2,0,[]⟩,⟨1,0,[105]⟩,⟨0,1,[]⟩]⟩,⟨7,[],[],[]⟩]),B.2)
 else
  let o:=kn 3 c1
  if o.1=true then
   let e:=exV G 4 o.2
   ([⟨6,[],[],e.1⟩],e.2)
  else([],o.2)
def mJ (G:GP)(rc:Nat->NQ->List NX×NQ)(dp:Bool):Nat->NQ->List NX×NQ
 | 0,c=>([],c)
 | n+1,c=>((jQ G rc dp c).1++(mJ G rc dp n (jQ G rc dp c).2).1,(mJ G rc dp n (jQ G rc dp c).2).2)
def uc (G:GP):Nat->Nat->NQ->List NX×NQ
 | 0=>mJ G (fun _ c=>([],c)) false
 | d+1=>mJ G (uc G d) true
end
def sB:Nat->Nat
 | 0=>1
 | d+1=>3+3*sB d
structure BL (x:NX):Prop where
 name:x.fac.length<=8
 args:x.faj=[]
 len:x.fae.length<=125
 tok:∀t∈x.fae,t.fac.length<=8
 kind:1<=x.faa/\x.faa<=7
structure RcOk (s:Nat) (rc:Nat->NQ->List NX×NQ):Prop where
 len:∀n c,c.ok->(rc n c).1.length<=n*s
 b:∀n c,c.ok->(rc n c).2.b=c.b
 ok:∀n c,c.ok->(rc n c).2.ok
 bl:∀n c,c.ok->∀x∈(rc n c).1,BL x
theorem yq {k:Int}{n:List UInt8}{e:List Og}(hn:n.length<=8)(h:uk e 3)(hk:1<=k/\k<=7:=by omega):BL ⟨k,n,[],e⟩:=⟨hn,rfl,h.2.1,h.2.2,hk⟩
theorem xC {k:Int}(hk:1<=k/\k<=7:=by omega):BL ⟨k,[],[],[]⟩:=⟨s_,rfl,s_,s_,hk⟩
theorem zX {G:GP}(hG:G.ok){s:Nat}{rc:Nat->NQ->List NX×NQ}{dp:Bool}(h:dp=true->RcOk s rc){c:NQ}(hc:c.ok):
  (jQ G rc dp c).1.length<=3+3*s/\(dp=false->(jQ G rc dp c).1.length<=1)/\(jQ G rc dp c).2.b=c.b/\(jQ G rc dp c).2.ok/\∀x∈(jQ G rc dp c).1,BL x:=by
 obtain⟨k1,b1,o1,_⟩:=bX hc 9;unfold jQ;dsimp only
 generalize(ca 9 c).1=k at *
 generalize(ca 9 c).2=c1 at *
 split
 ·obtain⟨k2,b2,o2,_⟩:=bX o1 (G.vars.length:Int);obtain⟨t3,b3,o3,_⟩:=eG hG o2 6 o_;refine⟨by simp;omega,fun _=>by simp,(b3.trans b2).trans b1,o3,fun x hx=>?_⟩;simp only[s9]at hx;subst hx;refine yq ?_ t3
  cases hv:G.vars[(ca (G.vars.length:Int) c1).1]? with
  | none=>simp
  | some v=>exact hG.v8 v (d4 hv)
 split
 ·obtain⟨t3,b3,o3,_⟩:=eG hG o1 5 o_;refine⟨by simp;omega,fun _=>by simp,b3.trans b1,o3,fun x hx=>?_⟩;simp only[s9]at hx;subst hx;exact yq s_ t3
 split
 ·rename_i hk;have hr:=h hk.2;obtain⟨t3,b3,o3,_⟩:=eG hG o1 4 o_;obtain⟨k4,b4,o4,_⟩:=bX o3 2;have hl:=hr.len (1+(ca 2 (exV G 4 c1).2).1) _ o4;have Py:=hr.b (1+(ca 2 (exV G 4 c1).2).1) _ o4;have Si:=hr.ok (1+(ca 2 (exV G 4 c1).2).1) _ o4;have Rg:=hr.bl (1+(ca 2 (exV G 4 c1).2).1) _ o4;have Ve:=k4 o_;have Pc:(rc (1+(ca 2 (exV G 4 c1).2).1) (ca 2 (exV G 4 c1).2).2).1.length<=2*s:=t7 hl (l6 _ o_)
  generalize rc (1+(ca 2 (exV G 4 c1).2).1) (ca 2 (exV G 4 c1).2).2=B at *
  obtain⟨b5,o5,_⟩:=iG Si 2;split
  ·have XL:=hr.len 1 _ o5;have XD:=hr.b 1 _ o5;have YS:=hr.ok 1 _ o5;have WN:=hr.bl 1 _ o5
   generalize rc 1 (kn 2 B.2).2=E at *
   refine⟨by simp;omega,(fun e=>by rw[e]at hk;cases hk.2),((((XD.trans b5).trans Py).trans b4).trans b3).trans b1,YS,fun x hx=>?_⟩;simp only[d7,e7,l8,or_false]at hx;rcases hx with rfl|hx|rfl|hx|rfl
   ·exact yq s_ t3
   ·exact Rg x hx
   ·exact xC
   ·exact WN x hx
   ·exact xC
  ·refine⟨by simp;omega,(fun e=>by rw[e]at hk;cases hk.2),(((b5.trans Py).trans b4).trans b3).trans b1,o5,fun x hx=>?_⟩;simp only[d7,e7,l8,or_false]at hx;rcases hx with rfl|hx|rfl
   ·exact yq s_ t3
   ·exact Rg x hx
   ·exact xC
 split
 ·rename_i hk;have hr:=h hk.2;obtain⟨k4,b4,o4,_⟩:=bX o1 3;have XL:=hr.len 1 _ o4;have XD:=hr.b 1 _ o4;have YS:=hr.ok 1 _ o4;have WN:=hr.bl 1 _ o4
  generalize rc 1 (ca 3 c1).2=B at *
  refine⟨by simp;omega,(fun e=>by rw[e]at hk;cases hk.2),(XD.trans b4).trans b1,YS,fun x hx=>?_⟩;simp only[d7,e7,l8,or_false]at hx;rcases hx with rfl|hx|rfl|rfl
  ·exact⟨s_,rfl,s_,s_,s_⟩
  ·exact WN x hx
  ·exact⟨s_,rfl,s_,s_,s_⟩
  ·exact xC
 ·obtain⟨b5,o5,_⟩:=iG o1 3;split
  ·obtain⟨t3,b3,o3,_⟩:=eG hG o5 4 o_;refine⟨by simp;omega,fun _=>by simp,(b3.trans b5).trans b1,o3,fun x hx=>?_⟩;simp only[s9]at hx;subst hx;exact yq s_ t3
  ·exact⟨s_,fun _=>by simp,b5.trans b1,o5,fun x hx=>by cases hx⟩
theorem Kw {G:GP}{rc:Nat->NQ->List NX×NQ}{dp:Bool}{s:Nat}(hs:∀c:NQ,c.ok->(jQ G rc dp c).1.length<=s/\(jQ G rc dp c).2.b=c.b/\(jQ G rc dp c).2.ok/\∀x∈(jQ G rc dp c).1,BL x):RcOk s (mJ G rc dp):=by
 have key:∀n c,c.ok->(mJ G rc dp n c).1.length<=n*s/\(mJ G rc dp n c).2.b=c.b/\(mJ G rc dp n c).2.ok/\∀x∈(mJ G rc dp n c).1,BL x:=by
  intro n
  induction n with
  | zero=>exact fun c hc=>⟨by simp[mJ],rfl,hc,fun x hx=>by simp[mJ]at hx⟩
  | succ n ih=>
   intro c hc;obtain⟨h1,h2,h3,h4⟩:=hs c hc;obtain⟨i1,i2,i3,i4⟩:=ih _ h3;rw[mJ];refine⟨by simp only[c7];rw[Nat.succ_mul];omega,i2.trans h2,i3,fun x hx=>?_⟩;rcases e7.1 hx with hx|hx
   ·exact h4 x hx
   ·exact i4 x hx
 exact⟨fun n c hc=>(key n c hc).1,fun n c hc=>(key n c hc).2.1,fun n c hc=>(key n c hc).2.2.1,fun n c hc=>(key n c hc).2.2.2⟩
theorem oJ {G:GP}(hG:G.ok):∀d,RcOk (sB d) (uc G d)
 | 0=>Kw fun c hc=>by
  have:=zX hG (s:=0) (rc:=fun _ c=>([],c)) (dp:=false) (fun e=>by cases e) hc
  exact⟨this.2.1 rfl,this.2.2⟩
 | d+1=>Kw fun c hc=>by
  have:=zX hG (dp:=true) (fun _=>oJ hG d) hc;exact⟨this.1,this.2.2⟩
end Go.Proofs.Ytoglejgmjeojoaa
namespace Go.Proofs.Ytoglejgmjeojoaa
open Go.Sim
set_option maxRecDepth 100000
set_option maxHeartbeats 4000000
def dr (x:NX):List DC:=match x.fae with
 | []=>[.t (.int .i64 x.faa),.t (.str x.fac),.t (.lst 0 []),.t (.lst 0 [])]
 | t::l=>[.d (.int .i64 x.faa),.d (.str x.fac),.d (.lst 0 []),.d (.lst 3 ((t::l).map Og.tr))]
theorem sX (k:Int)(n:List UInt8)(a:List (List UInt8)):dr ⟨k,n,a,[]⟩=[.t (.int .i64 k),.t (.str n),.t (.lst 0 []),.t (.lst 0 [])]:=rfl
theorem KE (k:Int)(n:List UInt8)(a:List (List UInt8))(t:Og)(l:List Og):dr ⟨k,n,a,t::l⟩=[.d (.int .i64 k),.d (.str n),.d (.lst 0 []),.d (.lst 3 ((t::l).map Og.tr))]:=rfl
theorem nE {e:List Og}(h:0<e.length)(k:Int)(n:List UInt8)(a:List (List UInt8)):dr ⟨k,n,a,e⟩=[.d (.int .i64 k),.d (.str n),.d (.lst 0 []),.d (.lst 3 (e.map Og.tr))]:=by
 cases e with
 | nil=>cases h
 | cons t l=>rfl
abbrev It (G:GP)(n:Nat)(d:Int)(c:NQ)(R:List NX×NQ):Prop:=bf Try.prog 64 [gZ,tI .i64 (n:Int),tI .i64 d] (gH G c) (.r (.c (.own (1,0,0)))) (gH G R.2++[((1,0,0),.dar 4 (R.1.map dr) none)])
theorem Mm {G:GP}(hG:G.ok){rc:Nat->NQ->List NX×NQ}{dp:Bool}{s d:Nat}(hd:d<=5)(Xk:dp=decide (0<d))(hs:3+3*s<=1000)(hR:dp=true->RcOk s rc)(TB:dp=true->∀n c,n<=2->c.ok->It G n ((d:Int)-1) c (rc n c))(n:Nat)(c:NQ)(hn:n<=4)(hc:c.ok):
  It G n d c (mJ G rc dp n c):=by
 refine aw hΓ aK Try.func64 rfl d_ rfl rfl ?_;obtain⟨R,c',Q4⟩:∃R c',mJ G rc dp n c=(R,c'):=⟨_,_,rfl⟩;rw[Q4];have OK:(G.vars.map ax).length=G.vars.length:=s_;repeat' ((conv=>whnf);first|apply Wx|apply W6|apply oi|apply fi|intro h|refine⟨_,rfl,?_⟩|exact Y7|fail)
 conv=>whnf
 refine⟨{q:Nat×NQ×List NX//q.1<=n/\q.2.1.ok/\q.2.2.length+q.1*1000<=4000/\q.2.2++(mJ G rc dp q.1 q.2.1).1=R/\(mJ G rc dp q.1 q.2.1).2=c'},fun q=>⟨[(0,gZ),(1,tI .i64 (q.1.1:Int)),(2,tI .i64 (d:Int)),(7,.r (.c (.own (10,0,0))))],[((0,0,0),some (.box [.ptr (0,0,1) 0,.own (0,0,2),.t (.lst 1 (G.names.map ax)),.t (.lst 1 (G.ars.map aa))])),((0,0,1),some (.box [.t (.lst 1 (q.1.2.1.b.map ba)),.t (.int .i64 q.1.2.1.i),.t (.int .i64 q.1.2.1.h)])),((0,0,2),some (.arr false 1 (G.vars.map ax))),((10,0,0),some (.dar 4 (q.1.2.2.map dr) none))],[10,0]⟩,fun q=>q.1.1,⟨(n,c,[]),g_,hc,by simp;omega,by rw[Q4];rfl,by rw[Q4]⟩,?_,?_⟩
 ·repeat' ((conv=>whnf);first|apply Wx|apply W6|apply oi|apply fi|intro h|refine⟨_,rfl,?_⟩|exact Y7|fail)
  all_goals try exact⟨rfl⟩
 intro⟨⟨rem,ci,acc⟩,hi,PI,Ow,O7,Ou⟩;dsimp only at hi PI Ow O7 Ou⊢
 cases rem with
 | zero=>
  simp only[mJ,m9]at O7 Ou;subst O7;subst Ou
  exact Z5
 | succ m=>
  rw[mJ]at O7 Ou;dsimp only at O7 Ou;obtain⟨s1,_,s3,s4,_⟩:=zX hG hR PI
  generalize hS:jQ G rc dp ci=S at *
  obtain⟨k1,b1,o1,g1⟩:=bX PI 9;unfold jQ at hS;dsimp only at hS
  generalize ca 9 ci=q at *
  rw[<-k0]at O7;have J0:(acc++S.1).length+m*1000<=4000:=by rw[c7];omega
  by_cases XP:q.1<4
  ·rw[b9 XP]at hS;obtain⟨k2,b2,o2,g2⟩:=bX o1 (G.vars.length:Int);obtain⟨t3,b3,o3,g3⟩:=eG hG o2 6 o_
   generalize ca (G.vars.length:Int) q.2=v at *
   generalize exV G 6 v.2=e at *
   subst hS;have kv:=hG.v1;have Yz:v.1<(G.vars.map ax).length:=by have:=k2 o_;omega
   obtain⟨nm,Pn⟩:=ae (l:=G.vars) (k:=v.1) o_;have hvg:(G.vars.map ax)[v.1]?=some (ax nm):=ab Pn;rw[OK.symm]at g2;repeat' ((conv=>whnf);first|apply Wx|apply W6|apply oi|apply fi|intro h|refine⟨_,rfl,?_⟩|exact Y7|fail)
   refine cg (g1) ?_;repeat' ((conv=>whnf);first|apply Wx|apply W6|apply oi|apply fi|intro h|refine⟨_,rfl,?_⟩|exact Y5|fail)
   refine cg (g2) ?_;repeat' ((conv=>whnf);first|apply Wx|apply W6|apply oi|apply fi|intro h|refine⟨_,rfl,Yz,?_⟩|refine⟨_,hvg,?_⟩|refine⟨_,rfl,?_⟩|exact Y7|fail)
   refine cg (g3) ?_;repeat' ((conv=>whnf);first|apply Wx|apply W6|apply oi|apply fi|intro h|refine⟨_,rfl,?_⟩|exact Y7|fail)
   all_goals try exact⟨aW _⟩
   all_goals try exact⟨⟨by simp<;>omega,by simp<;>omega⟩⟩
   all_goals try exact⟨KW⟩
   conv=>whnf
   refine⟨⟨(m,_,_),g_,s4,J0,O7,Ou⟩,?_,KD⟩;repeat' ((conv=>whnf);first|apply Wx|apply W6|apply oi|apply fi|intro h|refine⟨_,rfl,?_⟩|exact Y14|fail)
   all_goals exact⟨by simp[nE t3.1,Pn]⟩
  rw[b8 XP]at hS;by_cases UF:q.1<6
  ·rw[b9 UF]at hS;obtain⟨t3,b3,o3,g3⟩:=eG hG o1 5 o_
   generalize exV G 5 q.2=e at *
   subst hS;repeat' ((conv=>whnf);first|apply Wx|apply W6|apply oi|apply fi|intro h|refine⟨_,rfl,?_⟩|exact Y7|fail)
   refine cg (g1) ?_;repeat' ((conv=>whnf);first|apply Wx|apply W6|apply oi|apply fi|intro h|refine⟨_,rfl,?_⟩|exact Y5|fail)
   refine cg (g3) ?_;repeat' ((conv=>whnf);first|apply Wx|apply W6|apply oi|apply fi|intro h|refine⟨_,rfl,?_⟩|exact Y7|fail)
   all_goals try exact⟨aW _⟩
   all_goals try exact⟨⟨by simp<;>omega,by simp<;>omega⟩⟩
   all_goals try exact⟨KW⟩
   conv=>whnf
   refine⟨⟨(m,_,_),g_,s4,J0,O7,Ou⟩,?_,KD⟩;repeat' ((conv=>whnf);first|apply Wx|apply W6|apply oi|apply fi|intro h|refine⟨_,rfl,?_⟩|exact Y14|fail)
   all_goals exact⟨by simp[nE t3.1]⟩
  rw[b8 UF]at hS;by_cases Rf:q.1=6/\dp=true
  ·rw[b9 Rf]at hS;obtain⟨Rf,Rh⟩:=Rf;have SL:0<d:=by rw[Xk]at Rh;exact f9 Rh
   have Vf:=hR Rh;obtain⟨t3,b3,o3,g3⟩:=eG hG o1 4 o_
   generalize exV G 4 q.2=e at *
   obtain⟨k4,b4,o4,g4⟩:=bX o3 2
   generalize ca 2 e.2=t at *
   have g5:=TB Rh (1+t.1) t.2 (by have:=k4 o_;omega) o4;have l5:=Vf.len (1+t.1) t.2 o4;have ob5:=Vf.ok (1+t.1) t.2 o4;have l5':(rc (1+t.1) t.2).1.length<=2*s:=t7 l5 (l6 _ (by have:=k4 o_;omega))
   generalize rc (1+t.1) t.2=B at *
   obtain⟨b6,o6,g6⟩:=iG ob5 2
   generalize kn 2 B.2=o at *
   cases ho:o.1 with
   | true=>
    rw[b9 ho]at hS;rw[ho]at g6;have g7:=TB Rh 1 o.2 o_ o6;have l7:=Vf.len 1 o.2 o6
    generalize rc 1 o.2=E at *
    subst hS;repeat' ((conv=>whnf);first|apply Wx|apply W6|apply oi|apply fi|intro h|refine⟨_,rfl,?_⟩|exact Y7|fail)
    refine cg (g1) ?_;repeat' ((conv=>whnf);first|apply Wx|apply W6|apply oi|apply fi|intro h|refine⟨_,rfl,?_⟩|exact Y13|fail)
    refine cg (g3) ?_;repeat' ((conv=>whnf);first|apply Wx|apply W6|apply oi|apply fi|intro h|refine⟨_,rfl,?_⟩|exact Y7|fail)
    all_goals try exact⟨aW _⟩
    all_goals try exact⟨⟨by simp<;>omega,by simp<;>omega⟩⟩
    all_goals try exact⟨KW⟩
    refine cg (g4) ?_;repeat' ((conv=>whnf);first|apply Wx|apply W6|apply oi|apply fi|intro h|refine⟨_,rfl,?_⟩|exact Y7|fail)
    all_goals try exact⟨aW _⟩
    all_goals try exact⟨⟨by simp<;>omega,by simp<;>omega⟩⟩
    all_goals try exact⟨KW⟩
    refine cg (g5) ?_;repeat' ((conv=>whnf);first|apply Wx|apply W6|apply oi|apply fi|intro h|refine⟨_,rfl,?_⟩|exact Y7|fail)
    all_goals try exact⟨aW _⟩
    all_goals try exact⟨⟨by simp<;>omega,by simp<;>omega⟩⟩
    all_goals try exact⟨KW⟩
    refine cg (g6) ?_;repeat' ((conv=>whnf);first|apply Wx|apply W6|apply oi|apply fi|intro h|refine⟨_,rfl,?_⟩|exact Y7|fail)
    all_goals try exact⟨aW _⟩
    all_goals try exact⟨⟨by simp<;>omega,by simp<;>omega⟩⟩
    all_goals try exact⟨KW⟩
    refine cg (g7) ?_;repeat' ((conv=>whnf);first|apply Wx|apply W6|apply oi|apply fi|intro h|refine⟨_,rfl,?_⟩|exact Y7|fail)
    all_goals try exact⟨aW _⟩
    all_goals try exact⟨⟨by simp<;>omega,by simp<;>omega⟩⟩
    all_goals try exact⟨KW⟩
    conv=>whnf
    refine⟨⟨(m,_,_),g_,s4,J0,O7,Ou⟩,?_,KD⟩;repeat' ((conv=>whnf);first|apply Wx|apply W6|apply oi|apply fi|intro h|refine⟨_,rfl,?_⟩|exact Y14|fail)
    all_goals exact⟨by simp[nE t3.1,sX]⟩
   | false=>
    rw[b8 (by simp[ho])]at hS;rw[ho]at g6;subst hS;repeat' ((conv=>whnf);first|apply Wx|apply W6|apply oi|apply fi|intro h|refine⟨_,rfl,?_⟩|exact Y7|fail)
    refine cg (g1) ?_;repeat' ((conv=>whnf);first|apply Wx|apply W6|apply oi|apply fi|intro h|refine⟨_,rfl,?_⟩|exact Y13|fail)
    refine cg (g3) ?_;repeat' ((conv=>whnf);first|apply Wx|apply W6|apply oi|apply fi|intro h|refine⟨_,rfl,?_⟩|exact Y7|fail)
    all_goals try exact⟨aW _⟩
    all_goals try exact⟨⟨by simp<;>omega,by simp<;>omega⟩⟩
    all_goals try exact⟨KW⟩
    refine cg (g4) ?_;repeat' ((conv=>whnf);first|apply Wx|apply W6|apply oi|apply fi|intro h|refine⟨_,rfl,?_⟩|exact Y7|fail)
    all_goals try exact⟨aW _⟩
    all_goals try exact⟨⟨by simp<;>omega,by simp<;>omega⟩⟩
    all_goals try exact⟨KW⟩
    refine cg (g5) ?_;repeat' ((conv=>whnf);first|apply Wx|apply W6|apply oi|apply fi|intro h|refine⟨_,rfl,?_⟩|exact Y7|fail)
    all_goals try exact⟨aW _⟩
    all_goals try exact⟨⟨by simp<;>omega,by simp<;>omega⟩⟩
    all_goals try exact⟨KW⟩
    refine cg (g6) ?_;repeat' ((conv=>whnf);first|apply Wx|apply W6|apply oi|apply fi|intro h|refine⟨_,rfl,?_⟩|exact Y7|fail)
    all_goals try exact⟨aW _⟩
    all_goals try exact⟨⟨by simp<;>omega,by simp<;>omega⟩⟩
    all_goals try exact⟨KW⟩
    conv=>whnf
    refine⟨⟨(m,_,_),g_,s4,J0,O7,Ou⟩,?_,KD⟩;repeat' ((conv=>whnf);first|apply Wx|apply W6|apply oi|apply fi|intro h|refine⟨_,rfl,?_⟩|exact Y14|fail)
    all_goals exact⟨by simp[nE t3.1,sX]⟩
  rw[b8 Rf]at hS;by_cases Wg:q.1=7/\dp=true
  ·rw[b9 Wg]at hS;obtain⟨Wg,Rh⟩:=Wg;have SL:0<d:=by rw[Xk]at Rh;exact f9 Rh
   have Vf:=hR Rh;obtain⟨k4,b4,o4,g4⟩:=bX o1 3
   generalize ca 3 q.2=t at *
   have Ve:=k4 o_;have UC:IntKind.i64.wrap (1+(t.1:Int))=1+(t.1:Int):=c9 _ o_;have g5:=TB Rh 1 t.2 o_ o4;have l5:=Vf.len 1 t.2 o4
   generalize rc 1 t.2=B at *
   subst hS;repeat' ((conv=>whnf);first|apply Wx|apply W6|apply oi|apply fi|intro h|refine⟨_,rfl,?_⟩|exact Y7|fail)
   refine cg (g1) ?_;repeat' ((conv=>whnf);first|apply Wx|apply W6|apply oi|apply fi|intro h|refine⟨_,rfl,?_⟩|exact Y13|fail)
   refine cg (g4) ?_;repeat' ((conv=>whnf);first|apply Wx|apply W6|apply oi|apply fi|intro h|refine⟨_,rfl,?_⟩|exact Y7|fail)
   all_goals try exact⟨aW [⟨5,0,[]⟩,⟨1,0,[105]⟩,⟨0,IntKind.i64.wrap (1+(t.1:Int)),[]⟩]⟩
   all_goals try exact⟨aW _⟩
   all_goals try exact⟨⟨by simp<;>omega,by simp<;>omega⟩⟩
   all_goals try exact⟨KW⟩
   refine cg (g5) ?_;repeat' ((conv=>whnf);first|apply Wx|apply W6|apply oi|apply fi|intro h|refine⟨_,rfl,?_⟩|exact Y7|fail)
   all_goals try exact⟨aW [⟨2,0,[]⟩,⟨1,0,[105]⟩,⟨0,1,[]⟩]⟩
   all_goals try exact⟨aW _⟩
   all_goals try exact⟨⟨by simp<;>omega,by simp<;>omega⟩⟩
   all_goals try exact⟨KW⟩
   conv=>whnf
   refine⟨⟨(m,_,_),g_,s4,J0,O7,Ou⟩,?_,KD⟩;repeat' ((conv=>whnf);first|apply Wx|apply W6|apply oi|apply fi|intro h|refine⟨_,rfl,?_⟩|exact Y14|fail)
   all_goals exact⟨by simp[sX,KE,Og.tr,UC]⟩
  rw[b8 Wg]at hS;have Qm:¬(q.1=6/\0<d)/\¬(q.1=7/\0<d):=⟨fun h=>Rf ⟨h.1,by rw[Xk];exact s6 h.2⟩,fun h=>Wg ⟨h.1,by rw[Xk];exact s6 h.2⟩⟩;obtain⟨b6,o6,g6⟩:=iG o1 3
  generalize kn 3 q.2=o at *
  cases ho:o.1 with
  | true=>
   rw[b9 ho]at hS;rw[ho]at g6;obtain⟨t3,b3,o3,g3⟩:=eG hG o6 4 o_
   generalize exV G 4 o.2=e at *
   subst hS;repeat' ((conv=>whnf);first|apply Wx|apply W6|apply oi|apply fi|intro h|refine⟨_,rfl,?_⟩|exact Y7|fail)
   refine cg (g1) ?_;repeat' ((conv=>whnf);first|apply Wx|apply W6|apply oi|apply fi|intro h|refine⟨_,rfl,?_⟩|exact Y13|fail)
   all_goals(
    refine cg (g6) ?_;repeat' ((conv=>whnf);first|apply Wx|apply W6|apply oi|apply fi|intro h|refine⟨_,rfl,?_⟩|exact Y7|fail)
    refine cg (g3) ?_;repeat' ((conv=>whnf);first|apply Wx|apply W6|apply oi|apply fi|intro h|refine⟨_,rfl,?_⟩|exact Y7|fail)
    all_goals try exact⟨aW _⟩
    all_goals try exact⟨⟨by simp<;>omega,by simp<;>omega⟩⟩
    all_goals try exact⟨KW⟩
    conv=>whnf
    refine⟨⟨(m,_,_),g_,s4,J0,O7,Ou⟩,?_,KD⟩;repeat' ((conv=>whnf);first|apply Wx|apply W6|apply oi|apply fi|intro h|refine⟨_,rfl,?_⟩|exact Y14|fail)
    all_goals exact⟨by simp[nE t3.1]⟩)
  | false=>
   rw[b8 (by simp[ho])]at hS;rw[ho]at g6;subst hS;repeat' ((conv=>whnf);first|apply Wx|apply W6|apply oi|apply fi|intro h|refine⟨_,rfl,?_⟩|exact Y7|fail)
   refine cg (g1) ?_;repeat' ((conv=>whnf);first|apply Wx|apply W6|apply oi|apply fi|intro h|refine⟨_,rfl,?_⟩|exact Y13|fail)
   all_goals(
    refine cg (g6) ?_;repeat' ((conv=>whnf);first|apply Wx|apply W6|apply oi|apply fi|intro h|refine⟨_,rfl,?_⟩|exact Y7|fail)
    conv=>whnf
    refine⟨⟨(m,_,_),g_,s4,J0,O7,Ou⟩,?_,KD⟩;repeat' ((conv=>whnf);first|apply Wx|apply W6|apply oi|apply fi|intro h|refine⟨_,rfl,?_⟩|exact Y14|fail)
    all_goals exact⟨s_⟩)
theorem AJ {G:GP}(hG:G.ok):∀(d n:Nat) (c:NQ),d<=2->n<=4->c.ok->It G n d c (uc G d n c)
 | 0,n,c,_,hn,hc=>Mm hG (s:=0) o_ rfl o_ (fun h=>by cases h) (fun h=>by cases h) n c hn hc
 | d+1,n,c,hd,hn,hc=>Mm hG (s:=sB d) o_ s_ (by
   have:d=0\/d=1:=o_
   rcases this with rfl|rfl<;>simp[sB]) (fun _=>oJ hG d) (fun _ m c' hm J6=>by
   have e:(((d+1:Nat):Int)-1)=(d:Int):=o_;rw[e]
   exact AJ hG d m c' o_ o_ J6) n c hn hc
def nm0:List (List UInt8):=[[109,97,105,110],[102],[103,103],[104]]
def ar0:List Int:=[0,1,2,1]
def arg0:List (List UInt8):=[[120],[121]]
def arN (k:Nat):Nat:=(ar0[k]?.getD 0).toNat
def nmN (k:Nat):List UInt8:=nm0[k]?.getD []
def gpV (n k:Nat)(b:Bool):GP:=⟨arg0.take (arN k)++[[105],[122]],(nm0.take n).drop (if b=true then k else k+1),(ar0.take n).drop (if b=true then k else k+1)⟩
theorem Be {n k:Nat}(b:Bool):(gpV n k b).ok:=by
 refine⟨by simp[gpV],by simp[gpV,arg0];omega,by simp[gpV,nm0];omega,by simp[gpV,nm0,ar0],fun a ha=>?_,fun s hs=>?_,fun s hs=>?_⟩
 ·have:=u3 (A6 ha);simp[ar0]at this;omega
 ·simp only[gpV,e7]at hs;rcases hs with hs|hs
  ·have:=u3 hs;simp[arg0]at this;rcases this with rfl|rfl<;>simp
  ·simp at hs;rcases hs with rfl|rfl<;>simp
 ·have:=u3 (A6 hs);simp[nm0]at this;rcases this with rfl|rfl|rfl|rfl<;>simp
noncomputable def yh (n k:Nat) (c:NQ):List NX×NQ:=
 let o:=if 0<k then kn 5 c else(false,c)
 let G:=gpV n k o.1
 let t:=ca 4 o.2
 let u:=ca 2 t.2
 let B:=uc G (1+u.1) (1+t.1) u.2
 let e:=exV G 3 B.2
 (⟨0,nmN k,arg0.take (arN k),[]⟩::(B.1++[⟨6,[],[],e.1⟩,⟨7,[],[],[]⟩]),e.2)
noncomputable def kj (n:Nat):Nat->Nat->NQ->List NX×NQ
 | 0,_,c=>([],c)
 | r+1,k,c=>((yh n k c).1++(kj n r (k+1) (yh n k c).2).1,(kj n r (k+1) (yh n k c).2).2)
noncomputable def lr (c:NQ):List NX×NQ:=kj (1+(ca 4 c).1) (1+(ca 4 c).1) 0 (ca 4 c).2
def drP (x:NX):List DC:=if x.faa=0 then [.d (.int .i64 0),.d (.str x.fac),.d (.lst 1 (x.faj.map ax)),.d (.lst 0 [])]else dr x
structure PL (x:NX):Prop where
 name:x.fac.length<=8
 args:x.faj.length<=2/\∀s∈x.faj,s.length<=8
 len:x.fae.length<=125
 tok:∀t∈x.fae,t.fac.length<=8
 fe:x.faa=0->x.fae=[]
 fa:x.faa≠0->x.faj=[]
theorem Jg {n k:Nat}{c:NQ}(hc:c.ok):(yh n k c).1.length<=200/\(yh n k c).2.b=c.b/\(yh n k c).2.ok/\∀x∈(yh n k c).1,PL x:=by
 unfold yh;dsimp only
 have ho:(if 0<k then kn 5 c else(false,c)).2.b=c.b/\(if 0<k then kn 5 c else(false,c)).2.ok:=by
  split
  ·have:=iG hc 5;exact⟨this.1,this.2.1⟩
  ·exact⟨rfl,hc⟩
 generalize(if 0<k then kn 5 c else(false,c))=o at *
 have hG:=Be (n:=n) (k:=k) o.1
 generalize gpV n k o.1=G at *
 obtain⟨k4,b4,o4,_⟩:=bX ho.2 4;obtain⟨k2,b2,o2,_⟩:=bX o4 2;have Ve:=k4 o_;have k2':=k2 o_;have hB:=oJ hG (1+(ca 2 (ca 4 o.2).2).1);have hl:=hB.len (1+(ca 4 o.2).1) _ o2;have hb:=hB.b (1+(ca 4 o.2).1) _ o2;have hk:=hB.ok (1+(ca 4 o.2).1) _ o2;have hx:=hB.bl (1+(ca 4 o.2).1) _ o2
 have hs:sB (1+(ca 2 (ca 4 o.2).2).1)<=21:=by have:(ca 2 (ca 4 o.2).2).1=0\/(ca 2 (ca 4 o.2).2).1=1:=o_;rcases this with e|e<;>rw[e]<;>simp[sB]
 have Pc:=A1 (show 1+(ca 4 o.2).1<=4 by omega) hs
 generalize uc G (1+(ca 2 (ca 4 o.2).2).1) (1+(ca 4 o.2).1) (ca 2 (ca 4 o.2).2).2=B at *
 obtain⟨t3,b3,o3,_⟩:=eG hG hk 3 o_;refine⟨by simp;omega,((b3.trans hb).trans b2).trans (b4.trans ho.1),o3,fun x h=>?_⟩;have Rg:∀{x:NX},BL x->PL x:=fun h=>⟨h.name,by rw[h.args];simp,h.len,h.tok,fun e=>by have:=h.kind;omega,fun _=>h.args⟩;simp only[d7,e7,l8,or_false]at h;rcases h with rfl|h|rfl|rfl
 ·refine⟨?_,⟨?_,fun s hs=>?_⟩,s_,s_,fun _=>rfl,fun e=>absurd rfl e⟩
  ·show(nmN k).length<=8;unfold nmN
   cases hn:nm0[k]? with
   | none=>simp
   | some v=>have:=d4 hn;simp[nm0]at this;rcases this with rfl|rfl|rfl|rfl<;>simp
  ·simp[arg0];omega
  ·have:=u3 hs;simp[arg0]at this;rcases this with rfl|rfl<;>simp
 ·exact Rg (hx x h)
 ·exact Rg (yq s_ t3)
 ·exact Rg xC
theorem AZ (n:Nat):∀(r k:Nat) (c:NQ),c.ok->(kj n r k c).1.length<=r*200/\(kj n r k c).2.b=c.b/\(kj n r k c).2.ok/\∀x∈(kj n r k c).1,PL x
 | 0,_,c,hc=>⟨by simp[kj],rfl,hc,fun x hx=>by simp[kj]at hx⟩
 | r+1,k,c,hc=>by
  obtain⟨h1,h2,h3,h4⟩:=Jg (n:=n) (k:=k) hc;obtain⟨i1,i2,i3,i4⟩:=AZ n r (k+1) _ h3;rw[kj];refine⟨by simp only[c7];omega,i2.trans h2,i3,fun x hx=>?_⟩;rcases e7.1 hx with hx|hx
  ·exact h4 x hx
  ·exact i4 x hx
theorem FY {c:NQ}(hc:c.ok):(lr c).1.length<=800/\(lr c).2.b=c.b/\(lr c).2.ok/\∀x∈(lr c).1,PL x:=by obtain⟨k1,b1,o1,_⟩:=bX hc 4;have Xq:=k1 o_;obtain⟨h1,h2,h3,h4⟩:=AZ (1+(ca 4 c).1) (1+(ca 4 c).1) 0 _ o1;have:=l6 200 (show 1+(ca 4 c).1<=4 by omega);exact⟨by unfold lr;omega,h2.trans b1,h3,h4⟩
theorem Fj {l:List NX}(h:∀x∈l,BL x):l.map dr=l.map drP:=by refine List.map_congr_left fun x hx=>?_;have:=(h x hx).kind;rw[drP,b8 o_]
theorem LS {x:NX}(h:PL x):((drP x).map DC.tr).length=x.tr.length/\∀(p:Nat) (c d:Tr),((drP x).map DC.tr)[p]?=some c->x.tr[p]?=some d->emE c d:=by
 obtain⟨k,n,a,e⟩:=x
 have key:∃u v,(drP ⟨k,n,a,e⟩).map DC.tr=[.int .i64 k,.str n,u,v]/\emE u (.lst 1 (a.map ax))/\emE v (.lst 3 (e.map Og.tr)):=by
  by_cases h0:k=0
  ·subst h0;have he:=h.fe rfl;dsimp only at he;subst he;exact⟨_,_,rfl,.inl rfl,.inr ⟨_,_,rfl,rfl⟩⟩
  ·have ha:=h.fa h0;dsimp only at ha;subst ha;rw[drP,b8 h0]
   cases e with
   | nil=>exact⟨_,_,rfl,.inr ⟨_,_,rfl,rfl⟩,.inr ⟨_,_,rfl,rfl⟩⟩
   | cons t l=>exact⟨_,_,rfl,.inr ⟨_,_,rfl,rfl⟩,.inl rfl⟩
 obtain⟨u,v,e1,e2,e3⟩:=key;rw[e1];refine⟨rfl,fun p c d hc hd=>?_⟩
 match p with
 | 0=>simp[NX.tr]at hc hd;subst hc;subst hd;exact .inl rfl
 | 1=>simp[NX.tr]at hc hd;subst hc;subst hd;exact .inl rfl
 | 2=>simp[NX.tr]at hc hd;subst hc;subst hd;exact e2
 | 3=>simp[NX.tr]at hc hd;subst hc;subst hd;exact e3
 | p+4=>simp at hc
theorem FC:∀{l:List NX},(∀x∈l,PL x)->emR ((l.map drP).map fun x=>x.map DC.tr) (l.map NX.tr)
 | [],_=>trivial
 | x::l,h=>⟨LS (h x s_),FC fun y hy=>h y (by simp[hy])⟩
theorem V109{p:Prop}(h:p:=by
 have:u.1=0\/u.1=1:=o_
 rcases this with e|e<;>rw[e]<;>simp[sB]):p:=h
theorem rF (c:NQ)(hc:c.ok):bf Try.prog 41 [gZ] (fC c) (.r (.c (.t (.lst 4 ((lr c).1.map NX.tr))))) (fC (lr c).2):=by
 obtain⟨k1,b1,o1,g1⟩:=bX hc 4;have Xq:=k1 o_;refine aw hΓ aK Try.func41 rfl d_ rfl rfl ?_;unfold lr
 generalize(ca 4 c).2=c1 at *
 obtain⟨n,hn⟩:∃n,1+(ca 4 c).1=n:=⟨_,rfl⟩;have hw:IntKind.i64.wrap (1+((ca 4 c).1:Int))=(n:Int):=by rw[c9 _ o_];omega
 rw[hn];obtain⟨R,c',Q4⟩:∃R c',kj n n 0 c1=(R,c'):=⟨_,_,rfl⟩;have Ys:=(AZ n n 0 _ o1).2.2.2;rw[Q4]at Ys⊢;repeat' ((conv=>whnf);first|(with_reducible apply W1;fail_if_success (with_reducible show Wo _ _ _ _ (Code.seq (Code.region 5 _ _) _) _ _))|(with_reducible first|apply W2|apply W3|apply W4|apply W5|apply W6|apply W7|apply W8|apply W9)|apply aq|apply oi|apply fi|intro h|refine⟨_,rfl,?_⟩|exact Y7|fail)
 refine cg (g1) ?_;repeat' ((conv=>whnf);first|(with_reducible apply W1;fail_if_success (with_reducible show Wo _ _ _ _ (Code.seq (Code.region 5 _ _) _) _ _))|(with_reducible first|apply W2|apply W3|apply W4|apply W5|apply W6|apply W7|apply W8|apply W9)|apply aq|apply oi|apply fi|intro h|refine⟨_,rfl,?_⟩|exact Y7|fail)
 conv=>whnf
 refine jJ ⟨[(0,gZ),(3,vN nm0),(4,.r (.c (.t (.lst 1 (ar0.map aa))))),(5,tI .i64 (IntKind.i64.wrap (1+((ca 4 c).1:Int)))),(6,.r (.c (.own (15,0,0))))],[((0,0,0),some (.box [.t (.lst 1 (c1.b.map ba)),.t (.int .i64 c1.i),.t (.int .i64 c1.h)])),((15,0,0),some (.arr true 4 []))],[15,13,11,10,0]⟩ ?_ ?_ rfl ?_
 ·refine⟨.inl rfl,.inr ⟨_,_,rfl,rfl,rfl,?_⟩,.inr ⟨_,_,rfl,rfl,rfl,?_⟩,.inl rfl,.inl rfl,trivial⟩;all_goals(intro q hq;simp only[AC.ids,d7,l8,or_false]at hq;subst hq;rfl)
 ·exact⟨.inr rfl,.inr rfl,trivial⟩
 rw[hw];repeat' ((conv=>whnf);first|apply Wx|apply W6|apply oi|apply fi|intro h|refine⟨_,rfl,?_⟩|exact Y7|fail)
 conv=>whnf
 refine⟨{q:Nat×NQ×List NX//q.1<=n/\q.2.1.ok/\q.2.2.length+(n-q.1)*200<=800/\q.2.2++(kj n (n-q.1) q.1 q.2.1).1=R/\(kj n (n-q.1) q.1 q.2.1).2=c'},fun q=>⟨[(0,gZ),(3,vN nm0),(4,.r (.c (.t (.lst 1 (ar0.map aa))))),(5,tI .i64 (n:Int)),(6,.r (.c (.own (15,0,0)))),(7,tI .i64 (q.1.1:Int))],[((0,0,0),some (.box [.t (.lst 1 (q.1.2.1.b.map ba)),.t (.int .i64 q.1.2.1.i),.t (.int .i64 q.1.2.1.h)])),((15,0,0),some (.dar 4 (q.1.2.2.map drP) none))],[15,0]⟩,fun q=>n-q.1.1,⟨(0,c1,[]),g_,o1,by simp;omega,by dsimp only;rw[x5,Q4];rfl,by dsimp only;rw[x5,Q4]⟩,?_,?_⟩
 ·repeat' ((conv=>whnf);first|apply Wx|apply W6|apply oi|apply fi|intro h|refine⟨_,rfl,?_⟩|exact Y7|fail)
  all_goals try exact⟨rfl⟩
 intro⟨⟨k,ci,acc⟩,hi,PI,Ow,O7,Ou⟩;dsimp only at hi PI Ow O7 Ou⊢;by_cases J3:k<n
 ·obtain⟨m,hm⟩:∃m,n-k=m+1:=⟨n-k-1,o_⟩;rw[hm]at O7 Ou Ow;rw[kj]at O7 Ou;dsimp only at O7 Ou;obtain⟨s1,_,s3,s4⟩:=Jg (n:=n) (k:=k) PI
  generalize hF:yh n k ci=F at *
  rw[<-k0]at O7;have J0:(acc++F.1).length+(n-(k+1))*200<=800:=by rw[c7];omega
  rw[show m=n-(k+1) by omega]at O7 Ou;unfold yh at hF;dsimp only at hF;have XP:k<4:=o_
  have Pn:nm0[k]?=some (nmN k):=by have:k=0\/k=1\/k=2\/k=3:=o_;rcases this with rfl|rfl|rfl|rfl<;>rfl
  have TF:ar0[k]?=some (arN k:Int):=by have:k=0\/k=1\/k=2\/k=3:=o_;rcases this with rfl|rfl|rfl|rfl<;>rfl
  have Qa:arN k<=2:=by have:k=0\/k=1\/k=2\/k=3:=o_;rcases this with rfl|rfl|rfl|rfl<;>decide
  have OB:IntKind.i64.wrap ((k:Int)+1)=((k+1:Nat):Int):=by rw[c9 _ o_];omega
  have Pp:(nm0.map ax).length=4:=rfl;have SA:(ar0.map aa).length=4:=rfl;have L8:flat ([]++List.take (arN k) (arg0.map ax)):=by rw[s8,<-x9];exact ls _
  rcases B5 k with QR|QR
  ·rw[b8 o_]at hF
   (try dsimp only at hF)
   have hG:=Be (n:=n) (k:=k) false;obtain⟨k4,b4,o4,g4⟩:=bX PI 4
   generalize ca 4 ci=t at *
   obtain⟨k5,b5,o5,g5⟩:=bX o4 2
   generalize ca 2 t.2=u at *
   have Ve:=k4 o_;have Zl:=k5 o_;have g6:=AJ hG (1+u.1) (1+t.1) u.2 o_ o_ o5;have hB:=oJ hG (1+u.1);have hl:=hB.len (1+t.1) _ o5;have hk:=hB.ok (1+t.1) _ o5;have hx:=Fj (hB.bl (1+t.1) _ o5)
   have hs:sB (1+u.1)<=21:=by exact V109
   have Pc:=A1 (show 1+t.1<=4 by omega) hs
   generalize uc (gpV n k false) (1+u.1) (1+t.1) u.2=B at *
   obtain⟨t3,b3,o3,g3⟩:=eG hG hk 3 o_
   generalize exV (gpV n k false) 3 B.2=e at *
   subst hF;have Ot:Tr.lst 1 ((gpV n k false).names.map ax)=Tr.lst 1 (((nm0.map ax).take n).drop (k+1)):=by simp[gpV,C6,x9]
   have Sb:Tr.lst 1 ((gpV n k false).ars.map aa)=Tr.lst 1 (((ar0.map aa).take n).drop (k+1)):=by simp[gpV,C6,x9]
   have M0:[]++List.take (arN k) (arg0.map ax)++([[105],[122]]:List (List UInt8)).map ax=(gpV n k false).vars.map ax:=by simp[gpV,x9]
   have SR:Tr.int .i64 ((1+t.1:Nat):Int)=Tr.int .i64 (IntKind.i64.wrap (1+(t.1:Int))):=by rw[c9 _ o_];simp
   have Qn:Tr.int .i64 ((1+u.1:Nat):Int)=Tr.int .i64 (IntKind.i64.wrap (1+(u.1:Int))):=by rw[c9 _ o_];simp
   repeat' ((conv=>whnf);first|apply Wx|apply W6|apply oi|apply fi|intro h|refine⟨k,(aa (arN k)),rfl,ab TF,?_⟩|refine⟨0,arN k,rfl,rfl,v4 _,Qa,?_⟩|refine⟨k+1,n,OB,rfl,o_,by(rw[Pp];omega),?_⟩|refine⟨k+1,n,OB,rfl,o_,by(rw[SA];omega),?_⟩|refine⟨k,(ax (nmN k)),rfl,ab Pn,?_⟩|refine⟨_,rfl,?_⟩|exact Y5|fail)
   all_goals try exact⟨Qa⟩
   all_goals try exact⟨⟨by simp<;>omega,by simp<;>omega⟩⟩
   all_goals try exact⟨L8⟩
   refine cg (g4) ?_;repeat' ((conv=>whnf);first|apply Wx|apply W6|apply oi|apply fi|intro h|refine⟨_,rfl,?_⟩|exact Y7|fail)
   refine cg (g5) ?_;repeat' ((conv=>whnf);first|apply Wx|apply W6|apply oi|apply fi|intro h|refine⟨_,rfl,?_⟩|exact Y7|fail)
   refine cg (g6) ?_;repeat' ((conv=>whnf);first|apply Wx|apply W6|apply oi|apply fi|intro h|refine⟨_,rfl,?_⟩|exact Y7|fail)
   all_goals try exact⟨Ot⟩
   all_goals try exact⟨Sb⟩
   all_goals try exact⟨SR⟩
   all_goals try exact⟨Qn⟩
   all_goals try exact⟨M0⟩
   all_goals try exact⟨⟨by simp<;>omega,by simp<;>omega⟩⟩
   refine cg (g3) ?_;repeat' ((conv=>whnf);first|apply Wx|apply W6|apply oi|apply fi|intro h|refine⟨_,rfl,?_⟩|exact Y7|fail)
   all_goals try exact⟨aW _⟩
   all_goals try exact⟨⟨by simp<;>omega,by simp<;>omega⟩⟩
   conv=>whnf
   refine⟨⟨(k+1,_,_),g_,s3,J0,O7,Ou⟩,?_,KD⟩;repeat' ((conv=>whnf);first|apply Wx|apply W6|apply oi|apply fi|intro h|refine⟨_,rfl,?_⟩|exact Y8|fail)
   all_goals try exact⟨by simp[drP,nE t3.1,sX,hx,x9,arg0,ax]⟩
  ·rw[b9 QR]at hF;obtain⟨b7,o7,g7⟩:=iG PI 5
   generalize kn 5 ci=o at *
   (try dsimp only at hF)
   cases ho:o.1 with
   | true=>
    rw[ho]at hF g7;have hG:=Be (n:=n) (k:=k) true;obtain⟨k4,b4,o4,g4⟩:=bX o7 4
    generalize ca 4 o.2=t at *
    obtain⟨k5,b5,o5,g5⟩:=bX o4 2
    generalize ca 2 t.2=u at *
    have Ve:=k4 o_;have Zl:=k5 o_;have g6:=AJ hG (1+u.1) (1+t.1) u.2 o_ o_ o5;have hB:=oJ hG (1+u.1);have hl:=hB.len (1+t.1) _ o5;have hk:=hB.ok (1+t.1) _ o5;have hx:=Fj (hB.bl (1+t.1) _ o5)
    have hs:sB (1+u.1)<=21:=by exact V109
    have Pc:=A1 (show 1+t.1<=4 by omega) hs
    generalize uc (gpV n k true) (1+u.1) (1+t.1) u.2=B at *
    obtain⟨t3,b3,o3,g3⟩:=eG hG hk 3 o_
    generalize exV (gpV n k true) 3 B.2=e at *
    subst hF;have Ot:Tr.lst 1 ((gpV n k true).names.map ax)=Tr.lst 1 (((nm0.map ax).take n).drop (k)):=by simp[gpV,C6,x9]
    have Sb:Tr.lst 1 ((gpV n k true).ars.map aa)=Tr.lst 1 (((ar0.map aa).take n).drop (k)):=by simp[gpV,C6,x9]
    have M0:[]++List.take (arN k) (arg0.map ax)++([[105],[122]]:List (List UInt8)).map ax=(gpV n k true).vars.map ax:=by simp[gpV,x9]
    have SR:Tr.int .i64 ((1+t.1:Nat):Int)=Tr.int .i64 (IntKind.i64.wrap (1+(t.1:Int))):=by rw[c9 _ o_];simp
    have Qn:Tr.int .i64 ((1+u.1:Nat):Int)=Tr.int .i64 (IntKind.i64.wrap (1+(u.1:Int))):=by rw[c9 _ o_];simp
    repeat' ((conv=>whnf);first|apply Wx|apply W6|apply oi|apply fi|intro h|refine⟨k,(aa (arN k)),rfl,ab TF,?_⟩|refine⟨0,arN k,rfl,rfl,v4 _,Qa,?_⟩|refine⟨k+1,n,OB,rfl,o_,by(rw[Pp];omega),?_⟩|refine⟨k+1,n,OB,rfl,o_,by(rw[SA];omega),?_⟩|refine⟨k,(ax (nmN k)),rfl,ab Pn,?_⟩|refine⟨_,rfl,?_⟩|exact Y5|fail)
    all_goals try exact⟨Qa⟩
    all_goals try exact⟨⟨by simp<;>omega,by simp<;>omega⟩⟩
    all_goals try exact⟨L8⟩
    refine cg (g7) ?_;repeat' ((conv=>whnf);first|apply Wx|apply W6|apply oi|apply fi|intro h|refine⟨k,(ax (nmN k)),rfl,ab Pn,?_⟩|refine⟨k,n,rfl,rfl,o_,by(rw[Pp];omega),?_⟩|refine⟨k,n,rfl,rfl,o_,by(rw[SA];omega),?_⟩|refine⟨_,rfl,?_⟩|exact Y5|fail)
    all_goals try exact⟨Qa⟩
    all_goals try exact⟨⟨by simp<;>omega,by simp<;>omega⟩⟩
    all_goals try exact⟨L8⟩
    refine cg (g4) ?_;repeat' ((conv=>whnf);first|apply Wx|apply W6|apply oi|apply fi|intro h|refine⟨_,rfl,?_⟩|exact Y7|fail)
    refine cg (g5) ?_;repeat' ((conv=>whnf);first|apply Wx|apply W6|apply oi|apply fi|intro h|refine⟨_,rfl,?_⟩|exact Y7|fail)
    refine cg (g6) ?_;repeat' ((conv=>whnf);first|apply Wx|apply W6|apply oi|apply fi|intro h|refine⟨_,rfl,?_⟩|exact Y7|fail)
    all_goals try exact⟨Ot⟩
    all_goals try exact⟨Sb⟩
    all_goals try exact⟨SR⟩
    all_goals try exact⟨Qn⟩
    all_goals try exact⟨M0⟩
    all_goals try exact⟨⟨by simp<;>omega,by simp<;>omega⟩⟩
    refine cg (g3) ?_;repeat' ((conv=>whnf);first|apply Wx|apply W6|apply oi|apply fi|intro h|refine⟨_,rfl,?_⟩|exact Y7|fail)
    all_goals try exact⟨aW _⟩
    all_goals try exact⟨⟨by simp<;>omega,by simp<;>omega⟩⟩
    conv=>whnf
    refine⟨⟨(k+1,_,_),g_,s3,J0,O7,Ou⟩,?_,KD⟩;repeat' ((conv=>whnf);first|apply Wx|apply W6|apply oi|apply fi|intro h|refine⟨_,rfl,?_⟩|exact Y8|fail)
    all_goals try exact⟨by simp[drP,nE t3.1,sX,hx,x9,arg0,ax]⟩
   | false=>
    rw[ho]at hF g7;have hG:=Be (n:=n) (k:=k) false;obtain⟨k4,b4,o4,g4⟩:=bX o7 4
    generalize ca 4 o.2=t at *
    obtain⟨k5,b5,o5,g5⟩:=bX o4 2
    generalize ca 2 t.2=u at *
    have Ve:=k4 o_;have Zl:=k5 o_;have g6:=AJ hG (1+u.1) (1+t.1) u.2 o_ o_ o5;have hB:=oJ hG (1+u.1);have hl:=hB.len (1+t.1) _ o5;have hk:=hB.ok (1+t.1) _ o5;have hx:=Fj (hB.bl (1+t.1) _ o5)
    have hs:sB (1+u.1)<=21:=by exact V109
    have Pc:=A1 (show 1+t.1<=4 by omega) hs
    generalize uc (gpV n k false) (1+u.1) (1+t.1) u.2=B at *
    obtain⟨t3,b3,o3,g3⟩:=eG hG hk 3 o_
    generalize exV (gpV n k false) 3 B.2=e at *
    subst hF;have Ot:Tr.lst 1 ((gpV n k false).names.map ax)=Tr.lst 1 (((nm0.map ax).take n).drop (k+1)):=by simp[gpV,C6,x9]
    have Sb:Tr.lst 1 ((gpV n k false).ars.map aa)=Tr.lst 1 (((ar0.map aa).take n).drop (k+1)):=by simp[gpV,C6,x9]
    have M0:[]++List.take (arN k) (arg0.map ax)++([[105],[122]]:List (List UInt8)).map ax=(gpV n k false).vars.map ax:=by simp[gpV,x9]
    have SR:Tr.int .i64 ((1+t.1:Nat):Int)=Tr.int .i64 (IntKind.i64.wrap (1+(t.1:Int))):=by rw[c9 _ o_];simp
    have Qn:Tr.int .i64 ((1+u.1:Nat):Int)=Tr.int .i64 (IntKind.i64.wrap (1+(u.1:Int))):=by rw[c9 _ o_];simp
    repeat' ((conv=>whnf);first|apply Wx|apply W6|apply oi|apply fi|intro h|refine⟨k,(aa (arN k)),rfl,ab TF,?_⟩|refine⟨0,arN k,rfl,rfl,v4 _,Qa,?_⟩|refine⟨k+1,n,OB,rfl,o_,by(rw[Pp];omega),?_⟩|refine⟨k+1,n,OB,rfl,o_,by(rw[SA];omega),?_⟩|refine⟨k,(ax (nmN k)),rfl,ab Pn,?_⟩|refine⟨_,rfl,?_⟩|exact Y5|fail)
    all_goals try exact⟨Qa⟩
    all_goals try exact⟨⟨by simp<;>omega,by simp<;>omega⟩⟩
    all_goals try exact⟨L8⟩
    refine cg (g7) ?_;repeat' ((conv=>whnf);first|apply Wx|apply W6|apply oi|apply fi|intro h|refine⟨k,(ax (nmN k)),rfl,ab Pn,?_⟩|refine⟨_,rfl,?_⟩|exact Y5|fail)
    all_goals try exact⟨Qa⟩
    all_goals try exact⟨⟨by simp<;>omega,by simp<;>omega⟩⟩
    all_goals try exact⟨L8⟩
    refine cg (g4) ?_;repeat' ((conv=>whnf);first|apply Wx|apply W6|apply oi|apply fi|intro h|refine⟨_,rfl,?_⟩|exact Y7|fail)
    refine cg (g5) ?_;repeat' ((conv=>whnf);first|apply Wx|apply W6|apply oi|apply fi|intro h|refine⟨_,rfl,?_⟩|exact Y7|fail)
    refine cg (g6) ?_;repeat' ((conv=>whnf);first|apply Wx|apply W6|apply oi|apply fi|intro h|refine⟨_,rfl,?_⟩|exact Y7|fail)
    all_goals try exact⟨Ot⟩
    all_goals try exact⟨Sb⟩
    all_goals try exact⟨SR⟩
    all_goals try exact⟨Qn⟩
    all_goals try exact⟨M0⟩
    all_goals try exact⟨⟨by simp<;>omega,by simp<;>omega⟩⟩
    refine cg (g3) ?_;repeat' ((conv=>whnf);first|apply Wx|apply W6|apply oi|apply fi|intro h|refine⟨_,rfl,?_⟩|exact Y7|fail)
    all_goals try exact⟨aW _⟩
    all_goals try exact⟨⟨by simp<;>omega,by simp<;>omega⟩⟩
    conv=>whnf
    refine⟨⟨(k+1,_,_),g_,s3,J0,O7,Ou⟩,?_,KD⟩;repeat' ((conv=>whnf);first|apply Wx|apply W6|apply oi|apply fi|intro h|refine⟨_,rfl,?_⟩|exact Y8|fail)
    all_goals try exact⟨by simp[drP,nE t3.1,sX,hx,x9,arg0,ax]⟩
 ·have O5:k=n:=o_;subst O5;rw[v5]at O7 Ou;simp only[kj,m9]at O7 Ou;subst O7;subst Ou;dsimp only at Ys;refine jJ ⟨[(0,gZ),(5,tI .i64 (k:Int)),(6,.r (.c (.t (.lst 4 ((acc.map drP).map fun x=>x.map DC.tr))))),(7,tI .i64 (k:Int))],[((0,0,0),some (.box [.t (.lst 1 (ci.b.map ba)),.t (.int .i64 ci.i),.t (.int .i64 ci.h)]))],[15,0]⟩ ?_ ?_ rfl ?_
  ·refine⟨.inl rfl,.inl rfl,.inr ⟨_,_,rfl,rfl,rfl,?_⟩,.inl rfl,trivial⟩;intro q hq;simp only[AC.ids,d7,l8,or_false]at hq;subst hq;rfl
  ·exact⟨.inr rfl,trivial⟩
  refine uo 6 rfl (FC Ys) ?_;exact Z5
theorem wQ {l:List NX}(h:∀x∈l,PL x)(hl:l.length<=800):aH 1048576 (.lst 4 (l.map NX.tr)):=by
 refine jH o_ fun x hx=>?_;have hp:=h x hx
 have h1:aH 1048576 (.lst 1 (x.faj.map ax)):=jH (by have:=hp.args.1;omega) fun s hs=>by
  have:=hp.args.2 s hs;simp only[ax,aR,aH];exact⟨o_,trivial⟩
 have h2:aH 1048576 (.lst 3 (x.fae.map Og.tr)):=jH (by have:=hp.len;omega) fun t ht=>by
  have:=hp.tok t ht;simp only[Og.tr,aR,aH];exact⟨trivial,trivial,o_,trivial⟩
 have h3:=hp.name;exact⟨trivial,by simp only[aH];omega,h1,h2,trivial⟩
def fbP:List NX:=[⟨0,[109,97,105,110],[],[]⟩,⟨2,[],[],[⟨0,1,[]⟩]⟩,⟨6,[],[],[⟨0,1,[]⟩]⟩,⟨7,[],[],[]⟩]
theorem MD:ah fbP=true:=d_
theorem MX:∀x∈fbP,PL x:=by intro x hx;simp only[fbP,d7,l8,or_false]at hx;rcases hx with rfl|rfl|rfl|rfl;all_goals exact⟨s_,s_,s_,s_,s_,s_⟩
noncomputable def kg:Nat->NQ->List NX×NQ
 | 0,c=>(fbP,c)
 | r+1,c=>if ah (lr c).1=true then lr c else kg r (lr c).2
theorem BM:∀(r:Nat) (c:NQ),c.ok->ah (kg r c).1=true/\(kg r c).1.length<=800/\(kg r c).2.b=c.b/\(kg r c).2.ok/\∀x∈(kg r c).1,PL x
 | 0,c,hc=>⟨MD,by simp[kg,fbP],rfl,hc,MX⟩
 | r+1,c,hc=>by
  obtain⟨h1,h2,h3,h4⟩:=FY hc;rw[kg];split
  ·rename_i h;exact⟨h,h1,h2,h3,h4⟩
  ·obtain⟨i1,i2,i3,i4,i5⟩:=BM r _ h3;exact⟨i1,i2,i3.trans h2,i4,i5⟩
theorem NE:emR [[.int .i64 0,.str [109,97,105,110],.lst 0 [],.lst 0 []],[.int .i64 2,.str [],.lst 0 [],.lst 3 [[.int .i64 0,.int .i64 1,.str []]]],[.int .i64 6,.str [],.lst 0 [],.lst 3 [[.int .i64 0,.int .i64 1,.str []]]],[.int .i64 7,.str [],.lst 0 [],.lst 0 []]] (fbP.map NX.tr):=by
 refine⟨⟨rfl,fun p c d hc hd=>?_⟩,⟨rfl,fun p c d hc hd=>?_⟩,⟨rfl,fun p c d hc hd=>?_⟩,⟨rfl,fun p c d hc hd=>?_⟩,trivial⟩
 all_goals(
  match p with
  | 0=>simp[NX.tr]at hc hd;subst hc;subst hd;exact .inl rfl
  | 1=>simp[NX.tr]at hc hd;subst hc;subst hd;exact .inl rfl
  | 2=>simp[NX.tr]at hc hd;subst hc;subst hd;exact .inr ⟨_,_,rfl,rfl⟩
  | 3=>simp[NX.tr,Og.tr]at hc hd;subst hc;subst hd;first|exact .inl rfl|exact .inr ⟨_,_,rfl,rfl⟩
  | p+4=>simp at hc)
theorem V80{p:Prop}(h:p:=by
 refine⟨.inr ⟨_,_,rfl,rfl,rfl,?_⟩,trivial⟩
 intro q hq;simp only[AC.ids,d7,l8,or_false]at hq;subst hq;rfl):p:=h
theorem rR (c:NQ)(hc:c.ok):bf Try.prog 20 [gZ] (fC c) (.r (.c (.t (.lst 4 ((kg 5 c).1.map NX.tr))))) (fC (kg 5 c).2):=by
 refine aw hΓ aK Try.func20 rfl d_ rfl rfl ?_
 generalize hR:kg 5 c=R at *
 repeat' ((conv=>whnf);first|apply Wx|apply W6|apply oi|apply fi|intro h|refine⟨_,rfl,?_⟩|exact Y7|fail)
 conv=>whnf
 refine⟨{q:Nat×NQ//q.1<=5/\q.2.ok/\kg (5-q.1) q.2=R},fun q=>⟨[(0,gZ),(3,tI .i64 (q.1.1:Int))],[((0,0,0),some (.box [.t (.lst 1 (q.1.2.b.map ba)),.t (.int .i64 q.1.2.i),.t (.int .i64 q.1.2.h)]))],[0]⟩,fun q=>5-q.1.1,⟨(0,c),g_,hc,hR⟩,?_,?_⟩
 ·exact Z1
 intro⟨⟨k,ci⟩,hi,PI,hr⟩;dsimp only at hi PI hr⊢;by_cases J3:k<5
 ·obtain⟨m,hm⟩:∃m,5-k=m+1:=⟨5-k-1,o_⟩;rw[hm,kg]at hr;have gP:=rF ci PI;obtain⟨h1,h2,h3,h4⟩:=FY PI;have hO:=cF (lr ci).1 (wQ h4 h1)
  generalize lr ci=Q at *
  cases hq:ah Q.1 with
  | true=>
   rw[b9 hq]at hr;subst hr;rw[hq]at hO;repeat' ((conv=>whnf);first|apply Wx|apply W6|apply oi|apply fi|intro h|refine⟨_,rfl,?_⟩|exact Y7|fail)
   refine cg (gP) ?_
   repeat' ((conv=>whnf);first|apply Wx|apply W6|apply oi|apply fi|intro h|refine cl hO ?_|refine⟨_,rfl,?_⟩|exact Y5|fail)
  | false=>
   rw[b8 (by simp[hq])]at hr;rw[hq]at hO;repeat' ((conv=>whnf);first|apply Wx|apply W6|apply oi|apply fi|intro h|refine⟨_,rfl,?_⟩|exact Y7|fail)
   refine cg (gP) ?_;repeat' ((conv=>whnf);first|apply Wx|apply W6|apply oi|apply fi|intro h|refine cl hO ?_|refine⟨_,rfl,?_⟩|exact Y5|fail)
   conv=>whnf
   refine⟨⟨(k+1,Q.2),g_,h3,by dsimp only;rw[show 5-(k+1)=m by omega];exact hr⟩,?_,KD⟩;exact Z7
 ·have hk:k=5:=o_;subst hk;rw[show(5:Nat)-5=0 from rfl,kg]at hr;subst hr;repeat' ((conv=>whnf);first|(with_reducible apply W1;fail_if_success (with_reducible show Wo _ _ _ _ (Code.region 8 _ _) _ _))|(with_reducible first|apply W2|apply W3|apply W4|apply W5|apply W6|apply W7|apply W8|apply W9)|apply aq|apply oi|apply fi|intro h|refine⟨_,rfl,?_⟩|exact Y5|fail)
  conv=>whnf
  refine jJ ⟨[(5,.r (.c (.t (.lst 3 [[.int .i64 0,.int .i64 1,.str []]]))))],[((0,0,0),some (.box [.t (.lst 1 (ci.b.map ba)),.t (.int .i64 ci.i),.t (.int .i64 ci.h)]))],[16,0]⟩ ?_ ?_ rfl ?_
  ·exact V80
  ·exact⟨.inr rfl,trivial⟩
  repeat' ((conv=>whnf);first|(with_reducible first|apply W1|apply W2)|apply aq|refine oi ?_ ?_|refine⟨_,rfl,?_⟩|exact Y7|fail)
  conv=>whnf
  refine jJ ⟨[(2,.r (.c (.t (.lst 4 [[.int .i64 0,.str [109,97,105,110],.lst 0 [],.lst 0 []],[.int .i64 2,.str [],.lst 0 [],.lst 3 [[.int .i64 0,.int .i64 1,.str []]]],[.int .i64 6,.str [],.lst 0 [],.lst 3 [[.int .i64 0,.int .i64 1,.str []]]],[.int .i64 7,.str [],.lst 0 [],.lst 0 []]]))))],[((0,0,0),some (.box [.t (.lst 1 (ci.b.map ba)),.t (.int .i64 ci.i),.t (.int .i64 ci.h)]))],[23,16,0]⟩ ?_ ?_ rfl ?_
  ·exact V80
  ·exact⟨.inr rfl,trivial⟩
  refine uo 2 rfl NE ?_;exact Z1
abbrev Nz (code:List UInt8):AV:= .r (.c (.t (.lst 1 (code.map ba))))
theorem LO {code:List UInt8}(hl:code.length<=1048576):(⟨code,0,JG code⟩:NQ).ok:=⟨s_,hl⟩
theorem He {rows:List (List Tr)}(h:∀r∈rows,∃n,r=[.int .u8 n]/\(Lit.int .u8 n).wf=true):∃bs:List UInt8,rows=bs.map ba:=by
 obtain⟨bs,hb,_⟩:=Dy (g:=ba) (Q:=fun _=>True) (rows:=rows) fun r hr=>by
  obtain⟨n,rfl,hw⟩:=h r hr;have h1:IntKind.u8.min<=n/\n<=IntKind.u8.max:=by simpa [Lit.wf]using hw
  have h2:0<=n/\n<=255:=h1;refine⟨UInt8.ofNat n.toNat,?_,trivial⟩;rw[ba,show(UInt8.ofNat n.toNat).toNat=n.toNat by simp;omega,H3 h2.1]
 exact⟨bs,hb⟩
def dH (c:NQ):NQ:=⟨c.b,if c.i<c.b.length then c.i+1 else c.i,iX c.h⟩
def jh (c:NQ):Nat:=match c.b[c.i]? with
 | some u=>(byN (iX c.h)+u.toNat)%256
 | none=>byN (iX c.h)
theorem jV {c:NQ}(h:c.ok):(dH c).ok:=⟨by have:=h.1;unfold dH;dsimp only;split<;>omega,h.2⟩
theorem vh (c:NQ):jh c<256:=by
 unfold jh;split
 ·omega
 ·exact JV _
theorem Kq (n:Nat):IntKind.i64.wrap ((BitVec.ofInt IntKind.i64.bits (IntKind.i64.wrap (n:Int)) &&& BitVec.ofInt IntKind.i64.bits 255).toNat:Int)=((n%256:Nat):Int):=by
 show IntKind.i64.wrap (((BitVec.ofInt 64 (IntKind.i64.wrap (n:Int)) &&& BitVec.ofInt 64 255).toNat:Nat):Int)=_;rw[Il]
 have hw:IntKind.i64.wrap (n:Int)%256=(n:Int)%256:=by exact V108
 rw[hw,c9 _ o_];omega
theorem gQ (c:NQ)(hc:c.ok):bf Try.prog 46 [gZ] (fC c) (tI .i64 (jh c)) (fC (dH c)):=by
 obtain⟨hi,hl⟩:=hc;have Rg:(c.b.map ba).length=c.b.length:=s_;have Te:=MM (iX c.h);have abC:=JV (iX c.h);unfold jh dH
 generalize hx:byN (iX c.h)=x0 at *
 unfold byW iX at Te;unfold iX;by_cases J3:c.i<c.b.length
 ·obtain⟨u,hu⟩:=ae J3;have hu8:=u.toNat_lt;have he:=Kq (x0+u.toNat);rw[hu,b9 J3];dsimp only;refine aw hΓ aK Try.func46 rfl d_ rfl rfl ?_;repeat' ((conv=>whnf);first|apply Wx|apply W6|apply oi|apply fi|intro h|refine⟨c.i,(ba u),rfl,ab hu,?_⟩|refine⟨_,rfl,?_⟩|exact Y5|fail)
  all_goals try exact⟨congrArg (Tr.int _) (by rw[Te,c9 (u.toNat:Int) o_];exact he)⟩
  all_goals exact⟨by rw[c9 _ o_];rfl⟩
 ·rw[d8 o_,b8 J3];dsimp only;exact V44
theorem yj (c:NQ)(n:Nat)(hc:c.ok)(h0:0<n)(h1:n<=256):bf Try.prog 24 [gZ,tI .i64 (n:Int)] (fC c) (tI .i64 ((jh c%n:Nat):Int)) (fC (dH c)):=by
 have g1:=gQ c hc;have hm:((jh c:Nat):Int).tmod (n:Int)=((jh c%n:Nat):Int):=by rw[Int.tmod_eq_emod_of_nonneg o_];rfl
 refine aw hΓ aK Try.func24 rfl d_ rfl rfl ?_;repeat' ((conv=>whnf);first|apply Wx|apply W6|refine cg g1 ?_|apply oi|apply fi|intro h|refine⟨_,rfl,?_⟩|exact Y5|fail)
 all_goals try exact⟨o_⟩
 all_goals exact⟨congrArg (Tr.int _) hm⟩
theorem oZ (c:NQ)(n:Int)(hc:c.ok)(h:256<n):∃y:Nat,(y:Int)<n/\bf Try.prog 24 [gZ,tI .i64 n] (fC c) (tI .i64 (y:Int)) (fC (dH (dH (dH (dH c))))):=by
 have g1:=gQ c hc;have g2:=gQ _ (jV hc);have g3:=gQ _ (jV (jV hc));have g4:=gQ _ (jV (jV (jV hc)));have k1:=vh c;have k2:=vh (dH c);have k3:=vh (dH (dH c));have k4:=vh (dH (dH (dH c)))
 generalize jh c=x1 at *
 generalize jh (dH c)=x2 at *
 generalize jh (dH (dH c))=x3 at *
 generalize jh (dH (dH (dH c)))=x4 at *
 obtain⟨y,hy,hm⟩:=pA (x:=x1*16777216+x2*65536+x3*256+x4) (n:=n) o_;refine⟨y,hy,?_⟩;exact V5
theorem rH (c:NQ)(ns:List Int)(hc:c.ok)(hp:0<ns.length)(hl:ns.length<=256):bf Try.prog 23 [gZ,.r (.c (.own (0,0,1)))] (fC c++[((0,0,1),.arr false 1 (ns.map aa))]) (tI .i64 (ns[jh c%ns.length]?.getD 0)) (fC (dH c)++[((0,0,1),.arr false 1 (ns.map aa))]):=by
 have J0:(ns.map aa).length=ns.length:=s_;have g1:=yj c (ns.map aa).length hc o_ o_;rw[J0]at g1;have hx:jh c%ns.length<ns.length:=G5 _ hp;obtain⟨v,hv⟩:=ae hx;have RN:jh c%ns.length<(ns.map aa).length:=by rw[J0];exact hx
 rw[hv];refine aw hΓ aK Try.func23 rfl d_ rfl rfl ?_;rw[<-J0]at g1;repeat' ((conv=>whnf);first|apply Wx|apply W6|refine cg g1 ?_|apply oi|apply fi|intro h|refine⟨(jh c%ns.length),(by rw[J0]),RN,?_⟩|refine⟨(aa v),ab hv,?_⟩|refine⟨_,rfl,?_⟩|exact Y7|fail)
def itC:Nat->NQ->NQ
 | 0,c=>c
 | n+1,c=>itC n (dH c)
theorem vn:∀(n m:Nat) (c:NQ),itC (n+m) c=itC m (itC n c)
 | 0,m,c=>by rw[s5,itC]
 | n+1,m,c=>by rw[show n+1+m=(n+m)+1 by omega,itC,itC,vn n m]
theorem vw:∀(n:Nat) {c:NQ},c.ok->(itC n c).ok
 | 0,_,h=>h
 | n+1,c,h=>by rw[itC];exact vw n (jV h)
theorem Mc:∀(n:Nat) (c:NQ),(itC n c).b=c.b
 | 0,_=>rfl
 | n+1,c=>by rw[itC,Mc n];rfl
theorem Mk:∀(n:Nat) (c:NQ),(itC n c).h=itH n c.h
 | 0,_=>rfl
 | n+1,c=>by rw[itC,Mk n,itH];rfl
theorem LX:∀(n:Nat) (c:NQ),c.i<=c.b.length->(itC n c).i=min (c.i+n) c.b.length
 | 0,c,h=>by rw[itC];omega
 | n+1,c,h=>by
  have h2:(dH c).i<=(dH c).b.length:=by unfold dH;dsimp only;split<;>omega
  rw[itC,LX n _ h2];unfold dH;dsimp only;split<;>omega
def ul (c:NQ):Prop:=jh (itC 5 c)%3=2
theorem Fk (c:NQ)(h:c.ok):∃k,ul (itC (6*k) c):=by obtain⟨k,hk,h2⟩:=Ht c.h (c.b.length+1);obtain⟨j,rfl⟩:∃j,k=j+1:=⟨k-1,o_⟩;refine⟨j,?_⟩;unfold ul;rw[<-vn];have hi:=LX (6*j+5) c h.1;have hb:=Mc (6*j+5) c;unfold jh;rw[hb,d8 (by rw[hi];omega),Mk];dsimp only;have e:iX (itH (6*j+5) c.h)=itH (6*(j+1)) c.h:=(mf (6*j+5) 1 c.h).symm;rw[e];exact h2
structure SpOk (p:List NX) (b:NP) (first second:Int):Prop where
 small:aH 1048576 (.lst 4 (p.map NX.tr))
 prog:ah p=true
 build:aY b=true
 fb:1<=first/\first<=1000000
 sb:1<=second/\second<=1000000
 space:cN (aE p b first second)=true
noncomputable abbrev spH (p:List NX) (b:NP) (first second:Int):List (Sim.Id×AO):=[((1,0,0),.arr true 2 [(ao p b 0).tr,(ao p b 1).tr]),((1,0,1),.arr true 1 [aa first,aa second]),((1,0,2),.arr true 1 ((entries p b first second).map aa))]
noncomputable def yC (c:NQ):Nat:=open Classical in if h:c.ok then Classical.choose (oZ c 9000 h o_)else 0
theorem Gp {c:NQ}(h:c.ok):(yC c:Int)<9000/\bf Try.prog 24 [gZ,tI .i64 9000] (fC c) (tI .i64 (yC c:Int)) (fC (itC 4 c)):=by rw[yC,dif_pos h];exact r9 (oZ c 9000 h o_)
noncomputable abbrev fL (c:NQ):List Int:=[1,100,5000,1+(yC c:Int)]
abbrev sL:List Int:=[20000,60000,1000000]
noncomputable def jj (c:NQ):Int:=(fL c)[jh (itC 4 c)%(fL c).length]?.getD 0
def eT (c:NQ):Int:=sL[jh (itC 5 c)%sL.length]?.getD 0
theorem oH {c:NQ}(h:c.ok):1<=jj c/\jj c<=9000:=by
 have hy:=(Gp h).1;unfold jj;have:jh (itC 4 c)%(fL c).length<4:=G5 _ s_
 generalize jh (itC 4 c)%(fL c).length=k at *
 rcases(show k=0\/k=1\/k=2\/k=3 by omega)with rfl|rfl|rfl|rfl;all_goals(simp;try omega)
theorem xW (c:NQ):20000<=eT c/\eT c<=1000000:=by
 unfold eT;have:jh (itC 5 c)%sL.length<3:=G5 _ d_
 generalize jh (itC 5 c)%sL.length=k at *
 rcases(show k=0\/k=1\/k=2 by omega)with rfl|rfl|rfl;all_goals simp
theorem rE {c:NQ}(h:ul c):eT c=1000000:=by
 unfold eT ul at *
 rw[show sL.length=3 from rfl,h];rfl
noncomputable def lI (p:List NX) (b:NP):Nat->NQ->Int×Int×NQ
 | 0,c=>(jj c,eT c,itC 6 c)
 | n+1,c=>if(ib p b (jj c) (eT c)).isSome=true then(jj c,eT c,itC 6 c)else lI p b n (itC 6 c)
theorem CK {p:List NX}{b:NP}(hs:aH 1048576 (.lst 4 (p.map NX.tr)))(h1:ah p=true)(h2:aY b=true):∀(n:Nat) (c:NQ),c.ok->ul (itC (6*n) c)->(1<=(lI p b n c).1/\(lI p b n c).1<=9000)/\(20000<=(lI p b n c).2.1/\(lI p b n c).2.1<=1000000)/\(ib p b (lI p b n c).1 (lI p b n c).2.1).isSome=true
 | 0,c,hc,hg=>by
  refine⟨oH hc,xW c,?_⟩;rw[lI];dsimp only;rw[rE (show ul c from hg),wD hs h1 h2 (oH hc) o_]
  rfl
 | n+1,c,hc,hg=>by
  rw[lI];split
  ·exact⟨oH hc,xW c,by assumption⟩
  ·refine CK hs h1 h2 n _ (vw 6 hc) ?_;rw[<-vn,show 6+6*n=6*(n+1) by omega];exact hg
theorem Ef {p:List NX}{b:NP}{first second:Int}(h:(ib p b first second).isSome=true):ah p=true/\aY b=true/\cN (aE p b first second)=true/\ib p b first second=some (aE p b first second):=by
 unfold ib at *
 split at h
 ·rename_i hc;exact⟨hc.1,hc.2.1,hc.2.2,by rw[b9 hc]⟩
 ·cases h
theorem uK (c:NQ)(hc:c.ok):∃(p:List NX) (b:NP) (first second:Int) (c':NQ),SpOk p b first second/\bf Try.prog 11 [gZ] (fC c) (.tup [.c (.t (.lst 4 (p.map NX.tr))),.agg (b.tr.map .t),.agg [.own (1,0,0),.own (1,0,1),.own (1,0,2)]]) (fC c'++spH p b first second):=by
 have g1:=rR c hc;obtain⟨q1,q2,q3,q4,q5⟩:=BM 5 c hc
 generalize kg 5 c=R0 at *
 obtain⟨p,c1⟩:=R0
 dsimp only at *
 obtain⟨b,c2,hb,_,o2,g2⟩:=uD c1 q4;have hs:=wQ q5 q2;obtain⟨K,hK⟩:=Fk c2 o2;obtain⟨r1,r2,r3⟩:=CK hs q1 hb K c2 o2 hK;obtain⟨_,_,s3,s4⟩:=Ef r3;obtain⟨R,hR⟩:∃R,lI p b K c2=R:=⟨_,rfl⟩;rw[hR]at r1 r2 r3 s3 s4;refine⟨p,b,R.1,R.2.1,R.2.2,⟨hs,q1,hb,⟨o_,o_⟩,⟨o_,o_⟩,s3⟩,?_⟩;refine aw hΓ aK Try.func11 rfl d_ rfl rfl ?_;repeat' ((conv=>whnf);first|apply Wx|apply W6|apply oi|apply fi|intro h|refine⟨_,rfl,?_⟩|exact Y7|fail)
 refine cg (g1) ?_;repeat' ((conv=>whnf);first|apply Wx|apply W6|apply oi|apply fi|intro h|refine⟨_,rfl,?_⟩|exact Y7|fail)
 refine cg (g2) ?_;repeat' ((conv=>whnf);first|apply Wx|apply W6|apply oi|apply fi|intro h|refine⟨_,rfl,?_⟩|exact Y7|fail)
 conv=>whnf
 refine⟨{q:Nat×NQ//q.2.ok/\ul (itC (6*q.1) q.2)/\lI p b q.1 q.2=R},fun q=>⟨[(0,gZ),(3,.r (.c (.ptr (3,0,0) 0))),(4,.r (.c (.ptr (4,0,0) 0))),(5,vP p),(6,.r (.c (.ptr (6,0,0) 0)))],[((0,0,0),some (.box [.t (.lst 1 (q.1.2.b.map ba)),.t (.int .i64 q.1.2.i),.t (.int .i64 q.1.2.h)])),((3,0,0),some (.box [.t (.int .i64 0),.t (.int .i64 0),.t (.bool false),.t (.bool false)])),((4,0,0),some (.box [.nils 0,.nils 0,.nils 0])),((6,0,0),some (.box (b.tr.map .t)))],[6,4,3,0]⟩,fun q=>q.1.1,⟨(K,c2),o2,hK,hR⟩,?_,?_⟩
 ·exact Z1
 intro⟨⟨n,ci⟩,PI,hg,hr⟩;dsimp only at PI hg hr⊢;obtain⟨hy,gy⟩:=Gp PI;have gf:=rH (itC 4 ci) (fL ci) (vw 4 PI) s_ s_;have gs:=rH (itC 5 ci) sL (vw 5 PI) d_ d_;have hL:=sP p b (jj ci) (eT ci) hs;rw[show(fL ci)[jh (itC 4 ci)%(fL ci).length]?.getD 0=jj ci from rfl]at gf;rw[show sL[jh (itC 5 ci)%sL.length]?.getD 0=eT ci from rfl]at gs;have n4:dH (itC 4 ci)=itC 5 ci:=rfl;have n5:dH (itC 5 ci)=itC 6 ci:=rfl;rw[n4]at gf;rw[n5]at gs;have OB:IntKind.i64.wrap (1+(yC ci:Int))=1+(yC ci:Int):=c9 _ o_
 cases hl:ib p b (jj ci) (eT ci)with
 | some sp=>
  have Pc:(ib p b (jj ci) (eT ci)).isSome=true:=by rw[hl];rfl
  have hRe:R=(jj ci,eT ci,itC 6 ci):=by
   rw[<-hr]
   cases n with
   | zero=>rfl
   | succ n=>rw[lI,b9 Pc]
  subst hRe;dsimp only at s4⊢;rw[hl]at hL s4;injection s4 with s4;subst s4;simp only[oSp,aE]at hL;repeat' ((conv=>whnf);first|apply Wx|apply W6|apply oi|apply fi|intro h|refine⟨_,rfl,?_⟩|exact Y7|fail)
  refine cg (gy) ?_;repeat' ((conv=>whnf);first|apply Wx|apply W6|apply oi|apply fi|intro h|refine⟨_,rfl,?_⟩|exact Y7|fail)
  refine cg (gf) ?_;repeat' ((conv=>whnf);first|apply Wx|apply W6|apply oi|apply fi|intro h|refine⟨_,rfl,?_⟩|exact Y7|fail)
  all_goals try exact⟨by rw[OB];rfl⟩
  refine cg (gs) ?_
  repeat' ((conv=>whnf);first|apply Wx|apply W6|apply oi|apply fi|intro h|refine cl hL ?_|refine⟨_,rfl,?_⟩|exact Y7|fail)
 | none=>
  have Pc:¬(ib p b (jj ci) (eT ci)).isSome=true:=by rw[hl];simp
  cases n with
  | zero=>
   rw[rE (show ul ci from hg),wD hs q1 hb (oH PI) o_]at hl
   cases hl
  | succ n=>
   rw[lI,b8 Pc]at hr;rw[hl]at hL;repeat' ((conv=>whnf);first|apply Wx|apply W6|apply oi|apply fi|intro h|refine⟨_,rfl,?_⟩|exact Y7|fail)
   refine cg (gy) ?_;repeat' ((conv=>whnf);first|apply Wx|apply W6|apply oi|apply fi|intro h|refine⟨_,rfl,?_⟩|exact Y7|fail)
   refine cg (gf) ?_;repeat' ((conv=>whnf);first|apply Wx|apply W6|apply oi|apply fi|intro h|refine⟨_,rfl,?_⟩|exact Y7|fail)
   all_goals try exact⟨by rw[OB];rfl⟩
   refine cg (gs) ?_;repeat' ((conv=>whnf);first|apply Wx|apply W6|apply oi|apply fi|intro h|refine cl hL ?_|refine⟨_,rfl,?_⟩|exact Y5|fail)
   conv=>whnf
   refine⟨⟨(n,itC 6 ci),vw 6 PI,by dsimp only;rw[<-vn,show 6+6*n=6*(n+1) by omega];exact hg,hr⟩,?_,KD⟩;exact Z1
theorem sm (code:List UInt8)(hl:code.length<=1048576):∃(p:List NX) (b:NP) (first second:Int),SpOk p b first second/\
  bf Try.prog 5 [Nz code] [] (.tup [.c (.t (.lst 4 (p.map NX.tr))),.agg (b.tr.map .t),.agg [.own (1,0,0),.own (1,0,1),.own (1,0,2)]]) (spH p b first second):=by
 have g0:=ya code hl;obtain⟨p,b,first,second,c',J5,g1⟩:=uK _ (LO hl);refine⟨p,b,first,second,J5,?_⟩;refine aw hΓ aK Try.func5 rfl d_ rfl rfl ?_;repeat' ((conv=>whnf);first|apply Wx|apply W6|apply oi|apply fi|intro h|refine⟨_,rfl,?_⟩|exact Y7|fail)
 refine cg (g0) ?_;repeat' ((conv=>whnf);first|apply Wx|apply W6|apply oi|apply fi|intro h|refine⟨_,rfl,?_⟩|exact Y7|fail)
 refine cg (g1) ?_;exact Z1
structure StartAt (p:List NX) (b:NP) (f i:Nat) (x:Nat×List Oa):Prop where
 at_:(imL p b (bt b f))[i]?=some x
 fn:x.1=f
 start:bG p b f=((au (aB ((imL p b (bt b f)).take i))).length:Int)
theorem pQ {p:List NX}{b:NP}{f:Nat}(hf:f<(ay p).length):∃i x,StartAt p b f i x:=by have hi:=gr b f;obtain⟨s,hs⟩:=mq (f:=f) (a:=0) ((imgL_mem (p:=p) (b:=b) (image:=bt b f) (n:=(ay p).length) (f:=0) (at0:=0) (g:=f)).2 ⟨o_,o_,(rX hi).2 rfl⟩);obtain⟨i,x,h1,h2,h3⟩:=wC hs;refine⟨i,x,h1,h2,?_⟩;rw[bG,show imL p b (bt b f)=cn p b (bt b f) (ay p).length 0 0 from rfl,hs];show s=_;omega
theorem tm {L:List (Nat×List Oa)}{i:Nat}{x:Nat×List Oa}(h:L[i]?=some x):aB L=aB (L.take i)++(x.2++aB (L.drop (i+1))):=by
 have e:L=L.take i++x::L.drop (i+1):=by rw[<-dD h,w5]
 conv=>lhs;rw[e]
 simp[aB]
section
variable {p:List NX} {b:NP}
theorem FF (hs:aH 1048576 (.lst 4 (p.map NX.tr)))(h1:ah p=true)(h2:aY b=true){f i:Nat}{x:Nat×List Oa}(h:StartAt p b f i x):
  0<(au x.2).length/\∃(o:NZ) (z:Nat),bx (ao p b (bt b f)).fab (bG p b f)=some (o,z)/\(o.fab=13\/o.fab=15):=by
 have h3:af (bt b f) 0 1=true:=by have:=gr b f;rw[within_iff];omega
 obtain⟨g1,g2,g3⟩:=h;obtain⟨y,hy⟩:=ae (kG hs h1 h2 o_ g1).2.2;have hp:=(fX hs h1 h2 g1 hy).1;have OD:=pX hp.op;have N1:=eC hp.op
 have OP:0<(au x.2).length:=by
  obtain⟨c,l⟩:=x
  cases l with
  | nil=>simp at hy
  | cons a l=>simp only[e9,Option.some.injEq]at hy;subst hy;rw[show au (a::l)=bm a.fai.fad++au l by simp[au],c7];omega
 refine⟨OP,y.fai.fad,(aN y.fai.fad.fab).toNat,?_,(hp.head rfl).1⟩
 have QK:∀z∈x.2,dB z.fai.fad.fab z.fai.fad.faf=true:=fun z hz=>by
  obtain⟨j,hj⟩:=t9.1 hz;exact(fX hs h1 h2 g1 hj).1.op
 have hd:=tM QK hy (au (aB ((imL p b (bt b f)).take i))) (au (aB ((imL p b (bt b f)).drop (i+1))));rw[ao,b9 ⟨h1,h2,h3⟩,g3];dsimp only;have e:=tm g1
 rw[show imL p b (bt b f)=cn p b (bt b f) (ay p).length 0 0 from rfl]at *
 rw[e,aO,aO,<-k0];simpa [au]using hd
theorem Fa (hs:aH 1048576 (.lst 4 (p.map NX.tr)))(h1:ah p=true)(h2:aY b=true){f:Nat}(hf:f<(ay p).length):0<=bG p b f/\bG p b f<(ao p b (bt b f)).fab.length:=by
 obtain⟨i,x,h⟩:=pQ (b:=b) hf;have hp:=(FF hs h1 h2 h).1;obtain⟨g1,g2,g3⟩:=h;have h3:af (bt b f) 0 1=true:=by have:=gr b f;rw[within_iff];omega
 have e:=tm g1;have e2:=congrArg List.length (congrArg au e);rw[aO,aO,c7,c7]at e2;rw[ao,b9 ⟨h1,h2,h3⟩,g3];refine⟨o_,?_⟩;show _<(((au (aB (imL p b (bt b f)))).length:Nat):Int);omega
end
structure EntP (p:List NX) (b:NP) (first second:Int) (f i:Nat) (im:NU) (base:Int):Prop where
 no:(i:Int)=bt b f
 lt:i<2
 img:[ao p b 0,ao p b 1][i]?=some im
 bas:[first,second][i]?=some base
 imE:im=ao p b (bt b f)
 range:1<=base/\base<=1000000
 len:im.fab.length<=75000
 ok:bu im=true
 start:0<=bG p b f/\bG p b f<im.fab.length
 entry:cP p b first second f=base+bG p b f
 loc:AN (aE p b first second) (cP p b first second f)=((i:Int),bG p b f)
 op:∃(o:NZ) (z:Nat),bx im.fab (bG p b f)=some (o,z)/\(o.fab=13\/o.fab=15)
theorem V56{p:Prop}(h:p:=by
 have:eH (ao p b 0) (ao p b 1) first second (entries p b first second)=true:=M4;unfold eH at this;simp only[c8,u7]at this
 exact this.2.2.2.2.2.1):p:=h
theorem AG {p:List NX}{b:NP}{first second:Int}(h:SpOk p b first second){f:Nat}(hf:f<(ay p).length):∃i im base,EntP p b first second f i im base:=by
 have a0:=er h.small h.prog h.build (image:=0) d_;have a1:=er h.small h.prog h.build (image:=1) d_;have N8:=Fa h.small h.prog h.build hf;obtain⟨k,x,hx⟩:=pQ (b:=b) hf;have J1:=(FF h.small h.prog h.build hx).2;have ZN:=h.fb;have Z0:=h.sb;have M4:=h.space
 have M1:cY (ao p b 0) (ao p b 1) first second=false:=by exact V56
 have OC:∀e,AN (aE p b first second) e=fy (ao p b 0) (ao p b 1) first second e:=fun e=>rfl;rcases gr b f with e|e
 ·rw[e]at N8 J1
  have Rz:cP p b first second f=first+bG p b f:=by rw[cP,e,b8 d_,c9 _ o_]
  refine⟨0,ao p b 0,first,by rw[e];rfl,o_,rfl,rfl,by rw[e],o_,a0.2,a0.1,N8,Rz,?_,J1⟩;rw[OC,Rz,fy,b9 ⟨o_,o_⟩,show first+bG p b f-first=bG p b f by omega];rfl
 ·rw[e]at N8 J1
  have Rz:cP p b first second f=second+bG p b f:=by rw[cP,e,b9 rfl,c9 _ o_]
  refine⟨1,ao p b 1,second,by rw[e];rfl,o_,rfl,rfl,by rw[e],o_,a1.2,a1.1,N8,Rz,?_,J1⟩;rw[OC,Rz,fy,b8,b9 ⟨o_,o_⟩,show second+bG p b f-second=bG p b f by omega]
  ·rfl
  ·intro hc;unfold cY at M1;simp only[A4,p8]at M1;omega
theorem mU {p:List NX}{b:NP}{first second:Int}{f:Nat}(hf:f<(ay p).length):(entries p b first second)[f]?=some (cP p b first second f):=by rw[entries,l9,List.getElem?_range hf];rfl
theorem CM {p:List NX}{b:NP}{first second:Int}:(entries p b first second).length=(ay p).length:=by rw[entries,e8,List.length_range]
theorem CI {p:List NX}{f:Int}{b:NP}(hs:aH 1048576 (.lst 4 (p.map NX.tr)))(h1:ah p=true)(h2:aY b=true)(h3:0<=f)(h4:f<(ay p).length):∀it∈aD p f b,DI it:=by obtain⟨g,C,k1,k2,k3,k4,k5,k6,k7,k8,k9⟩:=kV hs h1 h2 h3 h4;have hS:ScOk C (aQ C g) [g]:=⟨k7,rfl,⟨u9 _,by simp[aQ]⟩,rfl,by simp[aQ],fun _=>k5,rfl⟩;have hw:=k2.words;rw[k8];refine yA k2 hS s_ (Gy k2 C.b.faq.toNat hS) (base:=C.words) hw.1 (by simp only[d5,gt];omega) (cV C g) ?_;exact dv (C:=C) (s:=⟨[],(localsOf C.p (g:Int)).length-C.args,false⟩) (d:=0) o_ (fun it h=>by cases h)
def DPs (P:List Oa):Prop:=∀x∈P,DI x.fai
theorem CR {p:List NX}{b:NP}{image:Int}(hs:aH 1048576 (.lst 4 (p.map NX.tr))):DPs (cf p b image):=by
 by_cases hc:ah p=true/\aY b=true/\af image 0 1=true
 ·rw[cf,b9 hc];obtain⟨h1,h2,_⟩:=hc;show DPs (aB (cn p b image (ay p).length 0 0));intro x hx;obtain⟨k,hk⟩:=t9.1 hx;obtain⟨i,z,j,g1,g2,rfl⟩:=nt hk;obtain⟨e1,e2,_⟩:=kG hs h1 h2 o_ g1;rw[e1]at g2;have hj:j<(aD p (z.1:Int) b).length:=by have:=aJ g2;rwa [eb]at this
  obtain⟨it,OS⟩:=ae hj;rw[fo OS]at g2;injection g2 with g2;subst g2;have:=CI (f:=(z.1:Int)) hs h1 h2 o_ o_ it (d4 OS);dsimp only;unfold ep;split
  ·exact this
  ·exact this
 ·rw[cf,b8 hc];intro x hx;cases hx
def kW (p:Int)(l:List Oc):Int:=match l.getLast? with|some r=>r.fax|none=>p
theorem rulesOkF_snoc:∀{l:List Oc} {p:Int} {r:Oc},dn p (l++[r])=true↔dn p l=true/\gu (kW p l) r
 | [],p,r=>by
  rw[s8,dn,dn,dn]
  simp[kW]
 | y::l,p,r=>by
  rw[p9,dn,dn]
  have e:kW p (y::l)=kW y.fax l:=by
   unfold kW
   cases l with
   | nil=>rfl
   | cons z l=>simp[List.getLast?_cons]
  rw[e];split
  ·exact rulesOkF_snoc
  ·simp
theorem tX:∀{l:List Oc} {p:Int} {i:Nat} {r:Oc},dn p l=true->l[i]?=some r->p<=r.fak
 | [],_,_,_,_,h=>by simp at h
 | y::l,p,i,r,h,hi=>by
  rw[dn]at h;split at h
  ·rename_i hy;unfold gu at hy
   cases i with
   | zero=>simp at hi;subst hi;exact hy.1
   | succ i=>rw[j6]at hi;have:=tX h hi;omega
  ·cases h
theorem zc {off:Int}:∀{l:List Oc} {p:Int} {i k:Nat} {r:Oc},dn p l=true->l[i]?=some r->r.fak<=off->off<r.fax->lA off l k=((k+i:Nat):Int)
 | [],_,_,_,_,_,h,_,_=>by simp at h
 | y::l,p,i,k,r,h,hi,h1,h2=>by
  rw[dn]at h;split at h
  ·cases i with
   | zero=>simp at hi;subst hi;rw[lA,b9 ⟨h1,h2⟩];simp
   | succ i=>rw[j6]at hi;have:=tX h hi;rw[lA,b8 o_,zc h hi h1 h2];congr 1;omega
  ·cases h
def jx (P:List Oa)(k:Nat):List Oc:=(P.take k).foldl (fun a x=>nY a (jk x)) []
theorem Am {P:List Oa}{k:Nat}{x:Oa}(hx:P[k]?=some x):jx P (k+1)=nY (jx P k) (jk x):=by rw[jx,dF hx,List.foldl_append];rfl
structure RInv (P:List Oa) (k:Nat) (R:List Oc):Prop where
 ok:Au R=true
 len:R.length<=k
 nil:R=[]↔k=0
 fin:∀x,P[k]?=some x->kW 0 R=x.fat
 all:∀(j:Nat) (x:Oa),j<k->P[j]?=some x->∃(i:Nat) (r:Oc),R[i]?=some r/\r.fak<=x.fat/\x.fat+aN x.fai.fad.fab<=r.fax/\r.faD=x.fai.faz/\r.fau=x.fai.fau
theorem jw (p:Int)(l:List Oc)(r:Oc):kW p (l++[r])=r.fax:=by simp[kW]
theorem yB {P:List Oa}(h:PsOk P)(hd:DPs P):∀{k:Nat},k<=P.length->RInv P k (jx P k)
 | 0,_=>⟨rfl,by simp[jx],by simp[jx],fun x hx=>by rw[h.at0 x hx];rfl,fun j x hj=>by omega⟩
 | k+1,hk=>by
  obtain⟨x,hx⟩:=ae (l:=P) (k:=k) o_;have I:=yB h hd (k:=k) o_;have hr:=h.rng k x hx;have Uq:=hd x (d4 hx);unfold DI at Uq;have hfx:=I.fin x hx;rw[Am hx];have Ov:∀y,P[k+1]?=some y->x.fat+aN x.fai.fad.fab=y.fat:=fun y hy=>(h.next k x y hx hy).symm;have J5:=I.ok;have J0:=I.len;have Pv:=I.all
  generalize jx P k=R at *
  rcases Ds R with rfl|⟨ini,r,rfl⟩
  ·have QR:k=0:=I.nil.1 rfl;subst QR;have e:nY [] (jk x)=[jk x]:=rfl;rw[e];have h0:=h.at0 x hx;refine⟨?_,s_,s_,fun y hy=>by rw[<-Ov y hy];rfl,fun j y hj hy=>?_⟩
   ·rw[Au,dn,dn,b9];unfold gu jk;dsimp only;exact⟨o_,o_,o_,Uq.1,Uq.2.1,Uq.2.2⟩
   ·have:j=0:=o_;subst this;rw[hx]at hy;injection hy with hy;subst hy;exact⟨0,jk x,rfl,u9 _,u9 _,rfl,rfl⟩
  ·rw[jw]at hfx;have ho:=rulesOkF_snoc.1 J5;rw[Ac];split
   ·rename_i hj;unfold Jm at hj;simp only[c8,w8]at hj;have Th:=ho.2;unfold gu at Th;refine⟨rulesOkF_snoc.2 ⟨ho.1,?_⟩,by simp only[c7,d5,gt]at J0⊢;omega,s_,fun y hy=>by rw[jw,<-Ov y hy];rfl,fun j y Pm hy=>?_⟩
    ·unfold gu jk;dsimp only;exact⟨Th.1,o_,o_,Th.2.2.2.1,Th.2.2.2.2.1,Th.2.2.2.2.2⟩
    ·by_cases Qq:j=k
     ·subst Qq;rw[hx]at hy;injection hy with hy;subst hy;refine⟨ini.length,⟨r.fak,(jk x).fax,r.faD,r.fau⟩,s_,?_,u9 _,hj.2.1,hj.2.2⟩;dsimp only;omega
     ·obtain⟨i,q,q1,q2,q3,q4,q5⟩:=Pv j y o_ hy;rw[G8]at q1;split at q1
      ·rename_i hi;exact⟨i,q,by rw[j7 hi];exact q1,q2,q3,q4,q5⟩
      ·rename_i hi
       have TH:i-ini.length=0:=by
        rcases B5 (i-ini.length)with e|e
        ·exact e
        ·rw[d8 (by simp;omega)]at q1;cases q1
       rw[TH]at q1;simp only[e9,Option.some.injEq]at q1;subst q1;refine⟨ini.length,⟨r.fak,(jk x).fax,r.faD,r.fau⟩,s_,q2,?_,q4,q5⟩;show _<=x.fat+aN x.fai.fad.fab;omega
   ·refine⟨rulesOkF_snoc.2 ⟨J5,?_⟩,by simp only[c7,d5,gt]at J0⊢;omega,s_,fun y hy=>by rw[jw,<-Ov y hy];rfl,fun j y Pm hy=>?_⟩
    ·rw[jw];unfold gu jk;dsimp only;exact⟨o_,o_,o_,Uq.1,Uq.2.1,Uq.2.2⟩
    ·by_cases Qq:j=k
     ·subst Qq;rw[hx]at hy;injection hy with hy;subst hy;exact⟨(ini++[r]).length,jk x,s_,u9 _,u9 _,rfl,rfl⟩
     ·obtain⟨i,q,q1,q2⟩:=Pv j y o_ hy;exact⟨i,q,by rw[j7 (aJ q1)];exact q1,q2⟩
theorem DE {P:List Oa}(h:PsOk P):jx P P.length=kP P:=by
 have hn:My P=true:=by unfold My;rw[n7];intro x hx;obtain⟨k,hk⟩:=t9.1 hx;have:=h.rng k x hk;exact within_iff.2 ⟨this.1,o_⟩
 rw[jx,j5 (d6 _),kP,b9 hn]
theorem Da {P:List Oa}(h:PsOk P)(hd:DPs P):RInv P P.length (kP P):=by rw[<-DE h];exact yB h hd (d6 _)
theorem LN {P:List Oa}(h:PsOk P)(hd:DPs P){k:Nat}{x:Oa}(hx:P[k]?=some x){off:Int}(h1:x.fat<=off)(h2:off<x.fat+aN x.fai.fad.fab):
  ∃(i:Nat) (r:Oc),qS (kP P) off=(i:Int)/\(kP P)[i]?=some r/\r.faD=x.fai.faz/\r.fau=x.fai.fau/\r.fak<=x.fat/\x.fat+aN x.fai.fad.fab<=r.fax:=by
 have I:=Da h hd;obtain⟨i,r,q1,q2,q3,q4,q5⟩:=I.all k x (aJ hx) hx;have J5:=I.ok;refine⟨i,r,?_,q1,q4,q5,q2,q3⟩;rw[qS,b9 J5,zc J5 q1 o_ o_,s5]
def bN (a:Int):Bool:=af a 0 1199
abbrev wr (n:Int):Int:=IntKind.i64.wrap n
structure CS where
 m:NY
 bad:Bool
def CS.ok (c:CS):Prop:=c.m.fas.length=1200
def ey (m:NY)(a:Int):Int:=match m.fas[a.toNat]? with|some x=>x|none=>0
def mX (m:NY)(a v:Int):NY:={m with fas:=m.fas.set a.toNat v}
def cAt (c:CS)(a:Int):CS:=⟨c.m,c.bad||!bN a⟩
def cq (c:CS)(v:Int):CS:=if(c.bad||!bN (wr (c.m.fag-1)))=true then⟨c.m,true⟩else⟨{mX c.m (wr (c.m.fag-1)) v with fag:=wr (c.m.fag-1)},false⟩
def aS (c:CS):CS:=if(c.bad||!bN c.m.fag)=true then⟨c.m,true⟩else⟨{c.m with fag:=c.m.fag+1},false⟩
def iS (c:CS):Int:=if(c.bad||!bN c.m.fag)=true then 0 else ey c.m c.m.fag
def cB:Nat->CS->CS
 | 0,c=>c
 | n+1,c=>cB n (aS c)
def eD:Nat->CS->CS
 | 0,c=>c
 | n+1,c=>eD n (cq c 0)
def ia (c:CS)(a:Int):CS:=if(c.bad||!bN a)=true then⟨c.m,true⟩else cq ⟨c.m,false⟩ (ey c.m a)
def eP (c:CS)(a:Int):CS:=if((aS c).bad||!bN a)=true then⟨(aS c).m,true⟩else⟨mX (aS c).m a (iS c),false⟩
theorem inStk_iff {a:Int}:bN a=true↔0<=a/\a<=1199:=within_iff
theorem fq {c:CS}{v:Int}(h:c.ok):(cq c v).ok:=by
 unfold cq CS.ok at *
 split
 ·exact h
 ·simpa [mX]using h
theorem cu {c:CS}(h:c.ok):(aS c).ok:=by
 unfold aS CS.ok at *
 split
 ·exact h
 ·exact h
theorem kr:∀{n:Nat} {c:CS},c.ok->(cB n c).ok
 | 0,_,h=>h
 | n+1,c,h=>kr (n:=n) (cu h)
theorem sE:∀{n:Nat} {c:CS},c.ok->(eD n c).ok
 | 0,_,h=>h
 | n+1,c,h=>sE (n:=n) (fq h)
theorem DM {c:CS}{a:Int}(h:c.ok):(ia c a).ok:=by
 unfold ia;split
 ·exact h
 ·exact fq (c:=⟨c.m,false⟩) h
theorem zw {c:CS}{a:Int}(h:c.ok):(eP c a).ok:=by
 have:=cu h;unfold eP;split
 ·exact this
 ·unfold CS.ok at *;simpa [mX]using this
abbrev Mw (m:NY)(st out:Sim.Id):AO:= .box [.t (.int .i64 m.fap),.t (.int .i64 m.fag),.t (.int .i64 m.fao),.own st,.own out,.t (.int .i64 m.fal),.t (.int .i64 m.faA)]
abbrev gB (c:CS):List (Sim.Id×AO):=[((0,0,0),.box [.ptr (0,0,1) 0,.t (.bool c.bad)]),((0,0,1),Mw c.m (0,0,2) (0,0,3)),((0,0,2),.arr false 1 (c.m.fas.map aa)),((0,0,3),.arr false 1 (c.m.fah.map aa))]
abbrev nI:AV:= .r (.c (.ptr (0,0,0) 0))
theorem jE (c:CS)(a:Int):bf Try.prog 40 [nI,tI .i64 a] (gB c) (tB (!(c.bad||!bN a))) (gB (cAt c a)):=by
 obtain⟨m,bad⟩:=c;refine dM hΓ aK Try.func40 rfl d_ rfl rfl ?_;have hb:=bL a 0 1199;unfold cAt bN
 cases hin:af a 0 1199
 all_goals
  rw[hin]at hb
  cases bad
  all_goals
   repeat' ((conv=>whnf);first|refine Or.inl ?_|apply oi|apply fi|intro h|refine ci hb (ai rfl (ai rfl (ai rfl trivial))) ?_|refine⟨_,rfl,?_⟩|exact Y1|fail)
   all_goals try(exfalso;simp at h;done)
theorem sR {l:List Int}{a:Int}(hl:l.length=1200)(h:bN a=true):∃(j:Nat) (x:Int),a=(j:Int)/\l[j]?=some x/\j<l.length/\j<=1199:=by have h':=inStk_iff.1 h;obtain⟨j,rfl⟩:=j8 h'.1;obtain⟨x,hx⟩:=ae (l:=l) (k:=j) o_;exact⟨j,x,rfl,hx,o_,o_⟩
theorem Ce {l:List Int}{j:Nat}{v:Int}:(l.map aa).set j (aa v)=(l.set j v).map aa:=by rw[E8]
theorem nT {a b:Bool}(h:(a||!b)=false):a=false/\b=true:=by cases a<;>cases b<;>simp at h⊢
theorem V57{p:Prop}(h:p:=by
 rw[hB]at hA;repeat' ((conv=>whnf);first|refine cg hA ?_|refine az ?_|apply aq|apply oi|apply fi|intro h|refine⟨_,rfl,?_⟩|exact Y1|fail)
 all_goals try(exfalso;simp at h;done)):p:=h
theorem eu (c:CS)(v:Int)(hc:c.ok):bf Try.prog 57 [nI,tI .i64 v] (gB c) (.tup []) (gB (cq c v)):=by
 refine dM hΓ aK Try.func57 rfl d_ rfl rfl ?_;have hA:=jE c (wr (c.m.fag-1));obtain⟨m,bad⟩:=c;unfold CS.ok at hc
 unfold cq cAt at *
 dsimp only at hA hc⊢
 cases hB:(bad||!bN (wr (m.fag-1)))with
 | true=>exact V57
 | false=>
  rw[hB]at hA;obtain⟨_,hin⟩:=nT hB;obtain⟨j,x,hj,hx,J3,_⟩:=sR hc hin;have J0:(m.fas.map aa).length=m.fas.length:=s_;repeat' ((conv=>whnf);first|refine cg hA ?_|refine az ?_|apply aq|apply oi|apply fi|intro h|refine⟨_,rfl,?_⟩|exact Y1|fail)
  conv=>whnf
  refine⟨j,hj,by rw[J0];exact J3,?_⟩;repeat' ((conv=>whnf);first|refine az ?_|apply aq|apply oi|apply fi|intro h|refine⟨(aa x),ab hx,?_⟩|refine⟨_,rfl,?_⟩|exact Y1|fail)
  all_goals try(exfalso;simp at h;done)
  all_goals try(refine⟨?_⟩;rw[<-show(wr (m.fag-1)).toNat=j by rw[hj];rfl];exact Ce)
theorem dt (c:CS)(hc:c.ok):bf Try.prog 60 [nI] (gB c) (tI .i64 (iS c)) (gB (aS c)):=by
 refine dM hΓ aK Try.func60 rfl d_ rfl rfl ?_;have hA:=jE c c.m.fag;obtain⟨m,bad⟩:=c;unfold CS.ok at hc
 unfold aS iS cAt at *
 dsimp only at hA hc⊢
 cases hB:(bad||!bN m.fag)with
 | true=>exact V57
 | false=>
  rw[hB]at hA;obtain⟨_,hin⟩:=nT hB;obtain⟨j,x,hj,hx,J3,QE⟩:=sR hc hin;have J0:(m.fas.map aa).length=m.fas.length:=s_;have hw:IntKind.i64.wrap (m.fag+1)=m.fag+1:=c9 _ o_;repeat' ((conv=>whnf);first|refine cg hA ?_|refine az ?_|apply aq|apply oi|apply fi|intro h|refine⟨_,rfl,?_⟩|exact Y1|fail)
  conv=>whnf
  refine⟨j,?_,by rw[J0];exact J3,?_⟩
  ·show IntKind.i64.wrap (IntKind.i64.wrap (m.fag+1)-1)=(j:Int);rw[hw,c9 _ o_];omega
  repeat' ((conv=>whnf);first|refine az ?_|apply aq|apply oi|apply fi|intro h|refine⟨(aa x),ab hx,?_⟩|refine⟨_,rfl,?_⟩|exact Y1|fail)
  all_goals try(exfalso;simp at h;done)
  all_goals first
   | exact⟨congrArg (Tr.int _) hw⟩
   |(refine⟨congrArg (Tr.int _) ?_⟩;simp[ey,hj,hx];done)
theorem V55{p:Prop}(h:p:=by
 subst hr;repeat' ((conv=>whnf);first|refine az ?_|apply aq|apply oi|apply fi|intro h|refine⟨_,rfl,?_⟩|exact Y1|fail)
 all_goals try(exfalso;have h':=f9 h;omega)):p:=h
theorem nP (c:CS)(n:Nat)(hc:c.ok)(hn:n<=65536):bf Try.prog 63 [nI,tI .i64 (n:Int)] (gB c) (.tup []) (gB (cB n c)):=by
 refine dM hΓ aK Try.func63 rfl d_ rfl rfl ?_;obtain⟨R,hR⟩:∃R,cB n c=R:=⟨_,rfl⟩;rw[hR];repeat' ((conv=>whnf);first|refine az ?_|apply aq|apply oi|apply fi|intro h|refine⟨_,rfl,?_⟩|exact Y1|fail)
 conv=>whnf
 refine⟨{q:Nat×CS//q.1<=65536/\q.2.ok/\cB q.1 q.2=R},fun q=>⟨[(0,nI),(1,tI .i64 (q.1.1:Int))],(gB q.1.2).map fun p=>(p.1,some p.2),[0]⟩,fun q=>q.1.1,⟨(n,c),hn,hc,hR⟩,?_,?_⟩
 ·repeat' ((conv=>whnf);first|refine az ?_|apply aq|apply oi|apply fi|intro h|refine⟨_,rfl,?_⟩|exact Y1|fail)
 intro⟨⟨k,d⟩,hk,hd,hr⟩;dsimp only at hk hd hr⊢
 cases k with
 | zero=>
  rw[cB]at hr
  exact V55
 | succ k=>
  rw[cB]at hr;have hP:=dt d hd;repeat' ((conv=>whnf);first|refine cg hP ?_|refine az ?_|apply aq|apply oi|apply fi|intro h|refine⟨_,rfl,?_⟩|exact Y1|fail)
  all_goals try(exfalso;have h':=f0 h;omega)
  conv=>whnf
  refine⟨⟨(k,aS d),g_,cu hd,hr⟩,?_,KD⟩;repeat' ((conv=>whnf);first|refine az ?_|apply aq|apply oi|apply fi|intro h|refine⟨_,rfl,?_⟩|exact Y1|fail)
  all_goals try(refine⟨congrArg (Tr.int _) ?_⟩;dsimp only;rw[c9 _ o_];omega)
theorem rz (c:CS)(n:Nat)(hc:c.ok)(hn:n<=65536):bf Try.prog 62 [nI,tI .i64 (n:Int)] (gB c) (.tup []) (gB (eD n c)):=by
 refine dM hΓ aK Try.func62 rfl d_ rfl rfl ?_;obtain⟨R,hR⟩:∃R,eD n c=R:=⟨_,rfl⟩;rw[hR];repeat' ((conv=>whnf);first|refine az ?_|apply aq|apply oi|apply fi|intro h|refine⟨_,rfl,?_⟩|exact Y1|fail)
 conv=>whnf
 refine⟨{q:Nat×CS//q.1<=65536/\q.2.ok/\eD q.1 q.2=R},fun q=>⟨[(0,nI),(1,tI .i64 (q.1.1:Int))],(gB q.1.2).map fun p=>(p.1,some p.2),[0]⟩,fun q=>q.1.1,⟨(n,c),hn,hc,hR⟩,?_,?_⟩
 ·repeat' ((conv=>whnf);first|refine az ?_|apply aq|apply oi|apply fi|intro h|refine⟨_,rfl,?_⟩|exact Y1|fail)
 intro⟨⟨k,d⟩,hk,hd,hr⟩;dsimp only at hk hd hr⊢
 cases k with
 | zero=>
  rw[eD]at hr
  exact V55
 | succ k=>
  rw[eD]at hr;have hP:=eu d 0 hd;repeat' ((conv=>whnf);first|refine cg hP ?_|refine az ?_|apply aq|apply oi|apply fi|intro h|refine⟨_,rfl,?_⟩|exact Y1|fail)
  all_goals try(exfalso;have h':=f0 h;omega)
  conv=>whnf
  refine⟨⟨(k,cq d 0),g_,fq hd,hr⟩,?_,KD⟩;repeat' ((conv=>whnf);first|refine az ?_|apply aq|apply oi|apply fi|intro h|refine⟨_,rfl,?_⟩|exact Y1|fail)
  all_goals try(refine⟨congrArg (Tr.int _) ?_⟩;dsimp only;rw[c9 _ o_];omega)
theorem tC (c:CS)(a:Int)(hc:c.ok):bf Try.prog 58 [nI,tI .i64 a] (gB c) (.tup []) (gB (ia c a)):=by
 refine dM hΓ aK Try.func58 rfl d_ rfl rfl ?_;have hA:=jE c a;obtain⟨m,bad⟩:=c;unfold CS.ok at hc
 unfold ia cAt at *
 dsimp only at hA hc⊢
 cases hB:(bad||!bN a)with
 | true=>exact V57
 | false=>
  rw[hB]at hA;obtain⟨_,hin⟩:=nT hB;obtain⟨j,x,hj,hx,J3,QE⟩:=sR hc hin;have J0:(m.fas.map aa).length=m.fas.length:=s_;have hP:=eu ⟨m,false⟩ x hc;have UZ:ey m a=x:=by simp[ey,hj,hx]
  rw[UZ];repeat' ((conv=>whnf);first|refine cg hA ?_|refine az ?_|apply aq|apply oi|apply fi|intro h|refine⟨_,rfl,?_⟩|exact Y1|fail)
  conv=>whnf
  refine⟨j,hj,by rw[J0];exact J3,?_⟩;repeat' ((conv=>whnf);first|refine cg hP ?_|refine az ?_|apply aq|apply oi|apply fi|intro h|refine⟨(aa x),ab hx,?_⟩|refine⟨_,rfl,?_⟩|exact Y1|fail)
  all_goals try(exfalso;simp at h;done)
theorem ri (c:CS)(a:Int)(hc:c.ok):bf Try.prog 59 [nI,tI .i64 a] (gB c) (.tup []) (gB (eP c a)):=by
 refine dM hΓ aK Try.func59 rfl d_ rfl rfl ?_;have hP:=dt c hc;have hA:=jE (aS c) a;have J5:=cu hc
 generalize hD:aS c=d at *
 unfold eP cAt at *
 rw[hD];obtain⟨m,bad⟩:=d;unfold CS.ok at J5;dsimp only at hA J5⊢
 cases hB:(bad||!bN a)with
 | true=>
  rw[hB]at hA;repeat' ((conv=>whnf);first|refine cg hP ?_|refine cg hA ?_|refine az ?_|apply aq|apply oi|apply fi|intro h|refine⟨_,rfl,?_⟩|exact Y1|fail)
  all_goals try(exfalso;simp at h;done)
 | false=>
  rw[hB]at hA;obtain⟨_,hin⟩:=nT hB;obtain⟨j,x,hj,hx,J3,QE⟩:=sR J5 hin;have J0:(m.fas.map aa).length=m.fas.length:=s_;repeat' ((conv=>whnf);first|refine cg hP ?_|refine cg hA ?_|refine az ?_|apply aq|apply oi|apply fi|intro h|refine⟨_,rfl,?_⟩|exact Y1|fail)
  conv=>whnf
  refine⟨j,hj,by rw[J0];exact J3,?_⟩;repeat' ((conv=>whnf);first|refine az ?_|apply aq|apply oi|apply fi|intro h|refine⟨(aa x),ab hx,?_⟩|refine⟨_,rfl,?_⟩|exact Y1|fail)
  all_goals try(exfalso;simp at h;done)
  all_goals try(refine⟨?_⟩;rw[<-show a.toNat=j by rw[hj];rfl];exact Ce)
def oM (c:CS)(a:Int):CS:=⟨{c.m with fap:=wr (c.m.fap+a)},c.bad⟩
def tn (c:CS)(k:Int):CS:=cq (aS (aS c)) (cW k (iS (aS c)) (iS c))
def pa (c:CS)(a:Int):CS:=if iS c=0 then oM (aS c) a else aS c
def oX (c:CS)(es:List Int)(a:Int):CS:=match es[a.toNat]? with
 | some e=>⟨{c.m with fap:=e},c.bad⟩
 | none=>⟨c.m,true⟩
def ss (c:CS)(n:Nat):CS:=eD n ⟨{(cq c c.m.fao).m with fao:=(cq c c.m.fao).m.fag},(cq c c.m.fao).bad⟩
def cFp (c:CS):CS:=⟨{(aS c).m with fao:=iS c},(aS c).bad⟩
def cPc (c:CS):CS:=⟨{(aS c).m with fap:=iS c},(aS c).bad⟩
def ik (c:CS):CS:=⟨{c.m with fag:=c.m.fao},c.bad⟩
def sK (c:CS)(n:Nat):CS:=cq (cB n (cPc (cFp (ik (aS c))))) (iS c)
def om (c:CS)(n:Nat):CS:=cq (cB (n%16) (cPc (cB (n/16) (aS c)))) (iS c)
def BQ (c:CS):CS:=⟨{(aS c).m with fah:=(aS c).m.fah++[iS c]},(aS c).bad⟩
def bg (es:List Int)(c:CS)(x:NZ):CS:=
 if x.fab=0 then cq c x.faf
 else if x.fab=1 then ia c (wr (c.m.fao+x.faf))
 else if x.fab=3 then ia c (wr (c.m.fag+x.faf))
 else if x.fab=2 then eP c (wr (c.m.fao+x.faf))
 else if x.fab=4 then eP c (wr (c.m.fag+x.faf))
 else if 5<=x.fab/\x.fab<=9 then tn c (x.fab-3)
 else if x.fab=10 then oM c x.faf
 else if x.fab=11 then pa c x.faf
 else if x.fab=12 then oX (cq c c.m.fap) es x.faf
 else if x.fab=13 then ss c x.faf.toNat
 else if x.fab=15 then eD x.faf.toNat c
 else if x.fab=14 then sK c x.faf.toNat
 else if x.fab=16 then om c x.faf.toNat
 else if x.fab=17 then BQ c
 else c
abbrev opV (x:NZ):AV:= .r (.agg [.t (.int .i64 x.fab),.t (.int .i64 x.faf)])
abbrev NN (c:CS):List (Sim.Id×AO):=[((0,0,0),.box [.ptr (0,0,1) 0,.t (.bool c.bad)]),((0,0,1),Mw c.m (0,0,2) (1,0,0)),((0,0,2),.arr false 1 (c.m.fas.map aa)),((1,0,0),.arr false 1 (c.m.fah.map aa))]
theorem V85{p:Prop}(h:p:=by
 repeat' ((conv=>whnf);first|refine cg hP ?_|refine az ?_|apply aq|apply oi|apply fi|intro h|refine⟨_,rfl,?_⟩|exact Y1|fail)):p:=h
theorem vz (s:Oe)(c:CS)(x:NZ)(hc:c.ok)(hx:x.fab≠17)(ha:12<=x.fab->x.fab<=16->0<=x.faf/\x.faf<=65536)(he:s.fan.length<=1048576):bf Try.prog 39 [nI,.r (.agg (s.tr.map .t)),opV x] (gB c) (.tup []) (gB (bg s.fan c x)):=by
 obtain⟨k,a⟩:=x;dsimp only at hx ha;refine dM hΓ aK Try.func39 rfl d_ rfl rfl ?_;by_cases h0:k=0
 ·subst h0;have hP:=eu c a hc;exact V85
 by_cases h1:k=1
 ·subst h1;have hP:=tC c (wr (c.m.fao+a)) hc;exact V85
 by_cases h3:k=3
 ·subst h3;have hP:=tC c (wr (c.m.fag+a)) hc;exact V85
 by_cases h2:k=2
 ·subst h2;have hP:=ri c (wr (c.m.fao+a)) hc;exact V85
 by_cases h4:k=4
 ·subst h4;have hP:=ri c (wr (c.m.fag+a)) hc;exact V85
 by_cases Ub:k=10
 ·subst Ub;repeat' ((conv=>whnf);first|refine az ?_|apply aq|apply oi|apply fi|intro h|refine⟨_,rfl,?_⟩|exact Y1|fail)
 by_cases h59:5<=k/\k<=9
 ·have Ux:=dt c hc;have TW:=dt (aS c) (cu hc);have Yc:=eu (aS (aS c)) (cW (k-3) (iS (aS c)) (iS c)) (cu (cu hc));have hA:=An (k-3) (iS (aS c)) (iS c);have e:k=5\/k=6\/k=7\/k=8\/k=9:=o_;rcases e with rfl|rfl|rfl|rfl|rfl
  all_goals
   repeat' ((conv=>whnf);first|refine az ?_|apply aq|apply oi|apply fi|intro h|refine⟨_,rfl,?_⟩|exact Y1|fail)
   refine cg (Ux) ?_;repeat' ((conv=>whnf);first|refine az ?_|apply aq|apply oi|apply fi|intro h|refine⟨_,rfl,?_⟩|exact Y1|fail)
   refine cg (TW) ?_;repeat' ((conv=>whnf);first|refine az ?_|apply aq|apply oi|apply fi|intro h|refine cl hA ?_|refine⟨_,rfl,?_⟩|exact Y1|fail)
   refine cg (Yc) ?_;repeat' ((conv=>whnf);first|refine az ?_|apply aq|apply oi|apply fi|intro h|refine⟨_,rfl,?_⟩|exact Y1|fail)
 by_cases SM:k=11
 ·subst SM;have hP:=dt c hc;by_cases hz:iS c=0
  ·rw[show bg s.fan c ⟨11,a⟩=oM (aS c) a by simp[bg,pa,hz]];repeat' ((conv=>whnf);first|refine cg hP ?_|refine az ?_|apply aq|apply oi|apply fi|intro h|refine⟨_,rfl,?_⟩|exact Y1|fail)
   all_goals try(exfalso;rw[hz]at h;simp at h;done)
  ·rw[show bg s.fan c ⟨11,a⟩=aS c by simp[bg,pa,hz]];repeat' ((conv=>whnf);first|refine cg hP ?_|refine az ?_|apply aq|apply oi|apply fi|intro h|refine⟨_,rfl,?_⟩|exact Y1|fail)
   all_goals try(exfalso;exact hz (by simpa using h))
 by_cases WV:k=12
 ·subst WV;obtain⟨a0,a1⟩:=ha o_ o_;obtain⟨n,rfl⟩:=j8 a0;have hP:=eu c c.m.fap hc;have N1:(s.fan.map aa).length=s.fan.length:=s_;by_cases hn:n<s.fan.length
  ·obtain⟨e,O4⟩:=ae hn;rw[show bg s.fan c ⟨12,(n:Int)⟩=⟨{(cq c c.m.fap).m with fap:=e},(cq c c.m.fap).bad⟩ by simp[bg,oX,O4]];repeat' ((conv=>whnf);first|refine cg hP ?_|refine az ?_|apply aq|apply oi|apply fi|intro h|refine⟨n,(aa e),rfl,ab O4,?_⟩|refine⟨_,rfl,?_⟩|exact Y1|fail)
   all_goals try(exfalso;have h':=f0 h;rw[N1]at h';dsimp only at h';omega)
  ·have U2:s.fan[n]?=none:=d8 o_;rw[show bg s.fan c ⟨12,(n:Int)⟩=⟨(cq c c.m.fap).m,true⟩ by simp[bg,oX,U2]];repeat' ((conv=>whnf);first|refine cg hP ?_|refine az ?_|apply aq|apply oi|apply fi|intro h|refine⟨_,rfl,?_⟩|exact Y1|fail)
   all_goals try(exfalso;have h':=f9 h;rw[N1]at h';dsimp only at h';omega)
 by_cases XN:k=13
 ·subst XN;obtain⟨a0,a1⟩:=ha o_ o_;obtain⟨n,rfl⟩:=j8 a0;have hP:=eu c c.m.fao hc;have hZ:=rz ⟨{(cq c c.m.fao).m with fao:=(cq c c.m.fao).m.fag},(cq c c.m.fao).bad⟩ n (fq hc) o_;repeat' ((conv=>whnf);first|refine cg hP ?_|refine cg hZ ?_|refine az ?_|apply aq|apply oi|apply fi|intro h|refine⟨_,rfl,?_⟩|exact Y1|fail)
 by_cases Zt:k=15
 ·subst Zt;obtain⟨a0,a1⟩:=ha o_ o_;obtain⟨n,rfl⟩:=j8 a0;have hZ:=rz c n hc o_;repeat' ((conv=>whnf);first|refine cg hZ ?_|refine az ?_|apply aq|apply oi|apply fi|intro h|refine⟨_,rfl,?_⟩|exact Y1|fail)
 by_cases Zs:k=14
 ·subst Zs;obtain⟨a0,a1⟩:=ha o_ o_;obtain⟨n,rfl⟩:=j8 a0;have o1:(ik (aS c)).ok:=cu hc;have o2:(cFp (ik (aS c))).ok:=cu o1;have o3:(cPc (cFp (ik (aS c)))).ok:=cu o2;have Ux:=dt c hc;have TW:=dt (ik (aS c)) o1;have Yc:=dt (cFp (ik (aS c))) o2;have hD:=nP (cPc (cFp (ik (aS c)))) n o3 o_;have Yw:=eu (cB n (cPc (cFp (ik (aS c))))) (iS c) (kr o3);repeat' ((conv=>whnf);first|refine az ?_|apply aq|apply oi|apply fi|intro h|refine⟨_,rfl,?_⟩|exact Y1|fail)
  refine cg (Ux) ?_;repeat' ((conv=>whnf);first|refine az ?_|apply aq|apply oi|apply fi|intro h|refine⟨_,rfl,?_⟩|exact Y1|fail)
  refine cg (TW) ?_;repeat' ((conv=>whnf);first|refine az ?_|apply aq|apply oi|apply fi|intro h|refine⟨_,rfl,?_⟩|exact Y1|fail)
  refine cg (Yc) ?_;repeat' ((conv=>whnf);first|refine cg hD ?_|refine cg Yw ?_|refine az ?_|apply aq|apply oi|apply fi|intro h|refine⟨_,rfl,?_⟩|exact Y1|fail)
 by_cases Zx:k=16
 ·subst Zx;obtain⟨a0,a1⟩:=ha o_ o_;obtain⟨n,rfl⟩:=j8 a0;have o1:(aS c).ok:=cu hc;have o2:(cB (n/16) (aS c)).ok:=kr o1;have o3:(cPc (cB (n/16) (aS c))).ok:=cu o2
  have w1:IntKind.i64.wrap ((n:Int).tdiv 16)=((n/16:Nat):Int):=by rw[Int.tdiv_eq_ediv_of_nonneg o_,c9 _ o_];rfl
  have w2:(n:Int).tmod 16=((n%16:Nat):Int):=by rw[Int.tmod_eq_emod_of_nonneg o_];rfl
  have Ux:=dt c hc;have Xp:=nP (aS c) (n/16) o1 o_;have TW:=dt (cB (n/16) (aS c)) o2;have Xa:=nP (cPc (cB (n/16) (aS c))) (n%16) o3 o_;have Yw:=eu (cB (n%16) (cPc (cB (n/16) (aS c)))) (iS c) (kr o3);rw[<-w1]at Xp;rw[<-w2]at Xa;repeat' ((conv=>whnf);first|refine az ?_|apply aq|apply oi|apply fi|intro h|refine⟨_,rfl,?_⟩|exact Y1|fail)
  refine cg (Ux) ?_;repeat' ((conv=>whnf);first|refine az ?_|apply aq|apply oi|apply fi|intro h|refine⟨_,rfl,?_⟩|exact Y1|fail)
  refine cg (Xp) ?_;repeat' ((conv=>whnf);first|refine az ?_|apply aq|apply oi|apply fi|intro h|refine⟨_,rfl,?_⟩|exact Y1|fail)
  refine cg (TW) ?_;repeat' ((conv=>whnf);first|refine az ?_|apply aq|apply oi|apply fi|intro h|refine⟨_,rfl,?_⟩|exact Y1|fail)
  refine cg (Xa) ?_;repeat' ((conv=>whnf);first|refine az ?_|apply aq|apply oi|apply fi|intro h|refine⟨_,rfl,?_⟩|exact Y1|fail)
  refine cg (Yw) ?_;repeat' ((conv=>whnf);first|refine az ?_|apply aq|apply oi|apply fi|intro h|refine⟨_,rfl,?_⟩|exact Y1|fail)
 ·rw[show bg s.fan c ⟨k,a⟩=c by
   unfold bg;dsimp only
   rw[b8 h0,b8 h1,b8 h3,b8 h2,b8 h4,b8 h59,b8 Ub,b8 SM,b8 WV,b8 XN,b8 Zt,b8 Zs,b8 Zx,b8 hx]]
  repeat' ((conv=>whnf);first|refine az ?_|apply aq|apply oi|apply fi|intro h|refine⟨_,rfl,?_⟩|exact Y15|fail)
theorem Fh (s:Oe)(c:CS)(a:Int)(hc:c.ok)(ho:c.m.fah.length<=2000000):bf Try.prog 39 [nI,.r (.agg (s.tr.map .t)),opV ⟨17,a⟩] (gB c) (.tup []) (NN (BQ c)):=by
 refine dM hΓ aK Try.func39 rfl d_ rfl rfl ?_;have hP:=dt c hc;have Ut:(aS c).m.fah.length<=2000000:=by unfold aS;split<;>exact ho
 repeat' ((conv=>whnf);first|refine cg hP ?_|refine az ?_|refine Lj 4 6 ?_|apply oi|apply fi|intro h|refine⟨_,rfl,?_⟩|exact Y16|fail)
 all_goals try exact⟨⟨by(try simp only[e8,c7,d5,gt]);omega,by(try simp only[e8,c7,d5,gt]);omega⟩⟩
 all_goals(refine⟨?_⟩;simp[BQ,aa])
theorem HX {c:Int}(h:12<=c/\c<=16):(bc c).2=false/\((bc c).1=1\/(bc c).1=2):=by
 unfold bc;repeat' split
 all_goals first
  |(exfalso;omega)
  | simp
theorem Lb {c:Int}(h:1<=c/\c<=11):bc c=(2,true)\/bc c=(0,false):=by
 unfold bc;repeat' split
 all_goals first
  |(exfalso;omega)
  | simp
theorem Kf {c:Int}{m:Nat}(h:bc c=(2,true))(hm:m<65536):-65536<=ky c m/\ky c m<=65536:=by
 by_cases hb:2^(8*2-1)<=m
 ·have e:ky c m=(m:Int)-2^(8*2):=qm (n:=2) (by rw[h];rfl) (by rw[h]) hb;rw[e];show -65536<=(m:Int)-65536/\(m:Int)-65536<=65536;omega
 ·have e:ky c m=(m:Int):=oy (n:=2) (by rw[h];rfl) (fun hh=>hb hh.2);rw[e];omega
theorem mc {s:List UInt8}{p:Int}{x:NZ}{z:Nat}(h:bx s p=some (x,z)):(0<=x.fab/\x.fab<=17)/\(12<=x.fab->x.fab<=16->0<=x.faf/\x.faf<=65536)/\(1<=x.fab->x.fab<=11->-65536<=x.faf/\x.faf<=65536)/\z<=5:=by
 unfold bx at h;split at h
 ·split at h
  ·cases h
  ·rename_i M1;injection h with h;injection h with h1 h2;rw[not_or]at M1;have hz:=jG (cC s p.toNat);subst h1;dsimp only
   generalize hc:((cC s p.toNat:Nat):Int)=c at *
   have hin:0<=c/\c<=17:=by
    have:=M1.1;unfold aN at this;split at this
    ·rename_i hw;exact within_iff.1 hw
    ·exact absurd rfl this
   refine⟨hin,fun g1 g2=>?_,fun g1 g2=>?_,o_⟩
   ·obtain⟨e1,e2⟩:=HX ⟨g1,g2⟩;have hl:=fA s (p.toNat+1) (bc c).1.toNat;have:256^(bc c).1.toNat<=65536:=by rcases e2 with e2|e2<;>rw[e2]<;>decide
    rw[ky,b8 (by rw[e1];simp)];omega
   ·have hl:=fA s (p.toNat+1) (bc c).1.toNat;rcases Lb ⟨g1,g2⟩with e|e
    ·rw[e]at hl⊢;exact Kf e hl
    ·rw[e]at hl⊢;have hl:aX s (p.toNat+1) 0<1:=hl;have e2:ky c (aX s (p.toNat+1) 0)=((aX s (p.toNat+1) 0:Nat):Int):=oy (n:=0) (by rw[e];rfl) (fun hh=>by rw[e]at hh;exact absurd hh.1 s_);show -65536<=ky c (aX s (p.toNat+1) 0)/\ky c (aX s (p.toNat+1) 0)<=65536;rw[e2];omega
 ·cases h
theorem fV (m:NY)(hs:m.fas.length<=2000000)(ho:m.fah.length<=2000000):Sim.Spec Try.prog 17 [.agg m.tr] (.r (.agg (m.tr.map EO))):=by
 refine aG hΓ aK Try.func17 rfl d_ rfl ?_;repeat' ((conv=>whnf);first|refine Or.inl ?_|apply oi|apply fi|intro h|refine⟨_,rfl,?_⟩|exact Y1|fail)
 all_goals exact⟨⟨rfl,da _⟩⟩
def ku (c:CS)(v:Int):CS:=if c.m.fag<1\/1200<c.m.fag then⟨c.m,true⟩else⟨{mX c.m (c.m.fag-1) v with fag:=c.m.fag-1},c.bad⟩
def KU (c:CS)(a:Int):Int:=if bN a=true then ey c.m a else 0
def wb (c:CS):Int:=KU c c.m.fag
def Nx (c:CS)(a v:Int):CS:=if bN a=true then⟨mX c.m a v,c.bad⟩else⟨c.m,true⟩
def Ax:Nat->CS->CS
 | 0,c=>c
 | n+1,c=>Ax n (ku c 0)
def BN (a n:Int):Int:=if af a (-100000) 100000=true then wr (a+n)else -1
def GA (c:CS)(a:Int):CS:=ku (cAt c a) (KU c a)
def zU (c:CS)(a:Int):CS:=Nx (aS c) a (wb c)
def HW (c:CS)(k:Int):CS:=ku (aS (aS c)) (cW k (wb (aS c)) (wb c))
def Mp (c:CS)(a:Int):CS:=if wb c=0 then oM (aS c) a else aS c
def LZ (c:CS)(es:List Int)(a:Int):CS:=match es[a.toNat]? with
 | some e=>⟨{(ku c c.m.fap).m with fap:=e},(ku c c.m.fap).bad⟩
 | none=>⟨c.m,true⟩
def Kt (c:CS)(n:Nat):CS:=Ax n ⟨{(ku c c.m.fao).m with fao:=(ku c c.m.fao).m.fag},(ku c c.m.fao).bad⟩
def qFp (c:CS):CS:=⟨{(aS c).m with fao:=wb c},(aS c).bad⟩
def qPc (c:CS):CS:=⟨{(aS c).m with fap:=wb c},(aS c).bad⟩
def IQ (c:CS)(n:Nat):CS:=if af (aS c).m.fao 0 1200=true then ku (cB n (qPc (qFp (ik (aS c))))) (wb c)else⟨(aS c).m,true⟩
def Gu (c:CS)(n:Nat):CS:=ku (cB (n%16) (qPc (cB (n/16) (aS c)))) (wb c)
def NI (c:CS):CS:=⟨{(aS c).m with fah:=(aS c).m.fah++[wb c]},(aS c).bad⟩
def Mb (es:List Int)(c:CS)(x:NZ):CS:=
 if x.fab=0 then ku c x.faf
 else if x.fab=1 then GA c (BN c.m.fao x.faf)
 else if x.fab=3 then GA c (wr (c.m.fag+x.faf))
 else if x.fab=2 then zU c (BN c.m.fao x.faf)
 else if x.fab=4 then zU c (wr (c.m.fag+x.faf))
 else if x.fab=10 then oM c x.faf
 else if x.fab=11 then Mp c x.faf
 else if x.fab=12 then LZ c es x.faf
 else if x.fab=13 then Kt c x.faf.toNat
 else if x.fab=15 then Ax x.faf.toNat c
 else if x.fab=14 then IQ c x.faf.toNat
 else if x.fab=16 then Gu c x.faf.toNat
 else if x.fab=17 then NI c
 else HW c (x.fab-3)
def Rel (c d:CS):Prop:=c.bad=d.bad/\(c.bad=false->c.m=d.m/\0<=c.m.fag/\c.m.fag<=1200)
theorem Rel.bad {m m':NY}:Rel ⟨m,true⟩ ⟨m',true⟩:=⟨rfl,fun h=>by cases h⟩
theorem yV {c:CS}{v:Int}(h:c.bad=true):(cq c v).bad=true:=by simp[cq,h]
theorem su {c:CS}{v:Int}(h:c.bad=true):(ku c v).bad=true:=by unfold ku;split<;>simp[h]
theorem nl {c:CS}(h:c.bad=true):(aS c).bad=true:=by simp[aS,h]
theorem JJ {c:CS}(h:bN c.m.fag=false):(aS c).bad=true:=by simp[aS,h]
theorem sW:∀{n:Nat} {c:CS},c.bad=true->(cB n c).bad=true
 | 0,_,h=>h
 | n+1,_,h=>sW (n:=n) (nl h)
theorem Rel.of_bad {c d:CS}(h1:c.bad=true)(h2:d.bad=true):Rel c d:=⟨h1.trans h2.symm,fun h=>by rw[h1]at h;cases h⟩
theorem iY {c d:CS}{v v':Int}(h:Rel c d)(hv:c.bad=false->v=v'):Rel (cq c v) (ku d v'):=by
 obtain⟨h1,h2⟩:=h
 cases hb:c.bad with
 | true=>exact .of_bad (yV hb) (su (h1▸hb))
 | false=>
  obtain⟨h3,h4,h5⟩:=h2 hb;obtain⟨m,b⟩:=c;obtain⟨m',b'⟩:=d
  dsimp only at *
  subst h3;subst h1;subst hb;rw[hv rfl];unfold cq ku;dsimp only;have hw:wr (m.fag-1)=m.fag-1:=c9 _ o_;rw[hw];by_cases hs:m.fag<1\/1200<m.fag
  ·have hn:bN (m.fag-1)=false:=by
    cases hi:bN (m.fag-1)with
    | false=>rfl
    | true=>have:=inStk_iff.1 hi;omega
   rw[b9 hs,b9 (by simp[hn])];exact .bad
  ·have hn:bN (m.fag-1)=true:=inStk_iff.2 o_;rw[b8 hs,b8 (by simp[hn])];exact⟨rfl,fun _=>⟨rfl,g_,g_⟩⟩
theorem fT {c d:CS}(h:Rel c d):Rel (aS c) (aS d):=by
 obtain⟨h1,h2⟩:=h
 cases hb:c.bad with
 | true=>exact .of_bad (nl hb) (nl (h1▸hb))
 | false=>
  obtain⟨h3,h4,h5⟩:=h2 hb;obtain⟨m,b⟩:=c;obtain⟨m',b'⟩:=d
  dsimp only at *
  subst h3;subst h1;subst hb;refine⟨rfl,fun hn=>⟨rfl,?_⟩⟩;unfold aS at hn⊢;dsimp only at hn⊢;split at hn
  ·cases hn
  ·rename_i hi;rw[b8 hi];have:bN m.fag=true:=by simpa using hi
   have:=inStk_iff.1 this;dsimp only;omega
theorem iO {c d:CS}(h:Rel c d)(hb:(aS c).bad=false):iS c=wb d:=by
 obtain⟨h1,h2⟩:=h;unfold aS at hb;split at hb
 ·cases hb
 ·rename_i hi;have UP:c.bad=false/\bN c.m.fag=true:=by simpa using hi
  obtain⟨h3,_⟩:=h2 UP.1;unfold iS wb KU;rw[b8 hi,<-h3,b9 UP.2]
theorem qz:∀{n:Nat} {c d:CS},Rel c d->Rel (cB n c) (cB n d)
 | 0,_,_,h=>h
 | n+1,_,_,h=>qz (n:=n) (fT h)
theorem th:∀{n:Nat} {c:CS},(cB n c).bad=false->c.bad=false
 | n,c,h=>by cases hb:c.bad with
  | false=>rfl
  | true=>rw[sW hb]at h;cases h
theorem qT {c:CS}(h:(aS c).bad=false):c.bad=false:=by cases hb:c.bad with
  | false=>rfl
  | true=>rw[nl hb]at h;cases h
theorem sf:∀{n:Nat} {c d:CS},Rel c d->Rel (eD n c) (Ax n d)
 | 0,_,_,h=>h
 | n+1,_,_,h=>sf (n:=n) (iY h fun _=>rfl)
theorem Do {c d:CS}{a a':Int}(h:Rel c d)(hi:bN a=bN a')(ha:bN a=true->a=a'):Rel (ia c a) (GA d a'):=by
 obtain⟨h1,h2⟩:=h;unfold ia GA cAt;rw[<-hi]
 cases hb:c.bad with
 | true=>exact .of_bad s_ (su (by simp[<-h1,hb]))
 | false=>
  obtain⟨h3,h4,h5⟩:=h2 hb
  cases hn:bN a with
  | false=>exact .of_bad s_ (su s_)
  | true=>
   have e:=ha hn;subst e;rw[b8 s_];refine iY ⟨?_,fun _=>⟨h3,h4,h5⟩⟩ fun _=>?_
   ·simp[<-h1,hb]
   ·rw[KU,b9 hn,h3]
theorem yU {c d:CS}{a a':Int}(h:Rel c d)(hi:bN a=bN a')(ha:bN a=true->a=a'):Rel (eP c a) (zU d a'):=by
 have hp:=fT h;have ht:=iO h;unfold eP zU Nx;rw[<-hi]
 cases hb:(aS c).bad with
 | true=>
  rw[b9 s_];refine .of_bad rfl ?_;split
  ·rw[<-hp.1];exact hb
  ·rfl
 | false=>
  obtain⟨h3,h4,h5⟩:=hp.2 hb
  cases hn:bN a with
  | false=>rw[b9 s_,b8 s_];exact .bad
  | true=>have e:=ha hn;subst e;rw[b8 s_,b9 rfl,ht hb,<-h3];exact⟨by rw[<-hp.1,hb],fun _=>⟨rfl,h4,h5⟩⟩
theorem Gm {f n:Int}(hf:inI f)(hn:-65536<=n/\n<=65536):bN (wr (f+n))=bN (BN f n)/\(bN (wr (f+n))=true->wr (f+n)=BN f n):=by
 unfold BN;by_cases hw:af f (-100000) 100000=true
 ·rw[b9 hw];exact⟨rfl,fun _=>rfl⟩
 ·rw[b8 hw];have h0:¬(-100000<=f/\f<=100000):=fun h=>hw (within_iff.2 h)
  have:bN (wr (f+n))=false:=by
   cases hi:bN (wr (f+n))with
   | false=>rfl
   | true=>
    exfalso;have h1:=inStk_iff.1 hi;unfold inI at hf;have e:wr (f+n)=if(f+n)%18446744073709551616≥9223372036854775808 then(f+n)%18446744073709551616-18446744073709551616 else(f+n)%18446744073709551616:=by simp[wr,IntKind.wrap,IntKind.bits,IntKind.signed]
    rw[e]at h1;split at h1<;>omega
  rw[this];exact⟨d_,fun h=>by cases h⟩
theorem Iq (es:List Int)(m:NY)(x:NZ)(M4:0<=m.fag/\m.fag<=1200)(PA:inI m.fao)(hc:0<=x.fab/\x.fab<=17)(h1:12<=x.fab->x.fab<=16->0<=x.faf/\x.faf<=65536)(h2:1<=x.fab->x.fab<=11->-65536<=x.faf/\x.faf<=65536):
  Rel (bg es ⟨m,false⟩ x) (Mb es ⟨m,false⟩ x):=by
 have h0:Rel ⟨m,false⟩ ⟨m,false⟩:=⟨rfl,fun _=>⟨rfl,M4⟩⟩;obtain⟨k,a⟩:=x;dsimp only at hc h1 h2
 generalize hd:(⟨m,false⟩:CS)=d at *
 have ZZ:d.m.fao=m.fao:=by rw[<-hd]
 unfold bg Mb;dsimp only;by_cases e0:k=0
 ·rw[b9 e0,b9 e0];exact iY h0 fun _=>rfl
 rw[b8 e0,b8 e0];by_cases e1:k=1
 ·rw[b9 e1,b9 e1];have:=Gm (n:=a) PA (h2 o_ o_);rw[ZZ];exact Do h0 this.1 this.2
 rw[b8 e1,b8 e1];by_cases e3:k=3
 ·rw[b9 e3,b9 e3];exact Do h0 rfl fun _=>rfl
 rw[b8 e3,b8 e3];by_cases e2:k=2
 ·rw[b9 e2,b9 e2];have:=Gm (n:=a) PA (h2 o_ o_);rw[ZZ];exact yU h0 this.1 this.2
 rw[b8 e2,b8 e2];by_cases e4:k=4
 ·rw[b9 e4,b9 e4];exact yU h0 rfl fun _=>rfl
 rw[b8 e4,b8 e4];by_cases e59:5<=k/\k<=9
 ·rw[b9 e59,b8 o_,b8 o_,b8 o_,b8 o_,b8 o_,b8 o_,b8 o_,b8 o_];unfold tn HW;refine iY (fT (fT h0)) fun hb=>?_;rw[iO h0 (qT hb),iO (fT h0) hb]
 rw[b8 e59];by_cases e10:k=10
 ·rw[b9 e10,b9 e10];unfold oM;exact⟨rfl,fun hb=>⟨rfl,(h0.2 hb).2⟩⟩
 rw[b8 e10,b8 e10];by_cases e11:k=11
 ·rw[b9 e11,b9 e11];unfold pa Mp;have hp:=fT h0
  cases hb:(aS d).bad with
  | true=>refine .of_bad ?_ ?_<;>split<;>simp[oM,hb]
  | false=>
   rw[iO h0 hb];split
   ·unfold oM;exact⟨rfl,fun hb=>⟨rfl,(hp.2 hb).2⟩⟩
   ·exact hp
 rw[b8 e11,b8 e11];by_cases e12:k=12
 ·rw[b9 e12,b9 e12];have hp:=iY (v:=d.m.fap) (v':=d.m.fap) h0 fun _=>rfl;unfold oX LZ
  cases he:es[a.toNat]? with
  | some e=>exact⟨hp.1,fun hb=>by obtain⟨g1,g2,g3⟩:=hp.2 hb;exact⟨by dsimp only;rw[g1],g2,g3⟩⟩
  | none=>exact .bad
 rw[b8 e12,b8 e12];by_cases e13:k=13
 ·rw[b9 e13,b9 e13];have hp:=iY (v:=d.m.fao) (v':=d.m.fao) h0 fun _=>rfl;unfold ss Kt;refine sf ⟨hp.1,fun hb=>?_⟩;obtain⟨g1,g2,g3⟩:=hp.2 hb;exact⟨by dsimp only;rw[g1],g2,g3⟩
 rw[b8 e13,b8 e13];by_cases e15:k=15
 ·rw[b9 e15,b9 e15];exact sf h0
 rw[b8 e15,b8 e15];by_cases e14:k=14
 ·rw[b9 e14,b9 e14];unfold sK IQ;have hp:=fT h0;by_cases hw:af (aS d).m.fao 0 1200=true
  ·rw[b9 hw];have Zg:=within_iff.1 hw;have L7:Rel (ik (aS d)) (ik (aS d)):=⟨rfl,fun _=>⟨rfl,Zg.1,Zg.2⟩⟩;have p2:=fT L7
   have r3:Rel (cFp (ik (aS d))) (qFp (ik (aS d))):=⟨p2.1,fun hb=>by
    unfold cFp qFp;rw[iO L7 hb]
    exact⟨rfl,(p2.2 hb).2⟩⟩
   have p3:=fT r3
   have r4:Rel (cPc (cFp (ik (aS d)))) (qPc (qFp (ik (aS d)))):=⟨p3.1,fun hb=>by
    obtain⟨g1,g2,g3⟩:=p3.2 hb;unfold cPc qPc;rw[iO r3 hb]
    exact⟨by dsimp only;rw[g1],g2,g3⟩⟩
   refine iY (qz r4) fun hb=>iO h0 ?_;have b0:(cPc (cFp (ik (aS d)))).bad=false:=th hb;have b1:(aS (cFp (ik (aS d)))).bad=false:=b0;have b1':(cFp (ik (aS d))).bad=false:=qT b1;have b2:(aS (ik (aS d))).bad=false:=b1';have b2':(ik (aS d)).bad=false:=qT b2;exact b2'
  ·rw[b8 hw];refine .of_bad ?_ rfl;refine yV (sW ?_);show(aS (cFp (ik (aS d)))).bad=true;refine nl ?_;show(aS (ik (aS d))).bad=true
   have hn:bN (aS d).m.fao=false:=by
    cases hi:bN (aS d).m.fao with
    | false=>rfl
    | true=>exact absurd (within_iff.2 (by have:=inStk_iff.1 hi;omega)) hw
   exact JJ (c:=ik (aS d)) hn
 rw[b8 e14,b8 e14];by_cases e16:k=16
 ·rw[b9 e16,b9 e16];unfold om Gu;have hp:=fT h0;have r2:=qz (n:=a.toNat/16) hp;have p3:=fT r2
  have r4:Rel (cPc (cB (a.toNat/16) (aS d))) (qPc (cB (a.toNat/16) (aS d))):=⟨p3.1,fun hb=>by
   obtain⟨g1,g2,g3⟩:=p3.2 hb;unfold cPc qPc;rw[iO r2 hb]
   exact⟨rfl,g2,g3⟩⟩
  refine iY (qz r4) fun hb=>iO h0 ?_;have b0:(cPc (cB (a.toNat/16) (aS d))).bad=false:=th hb;have b1:(aS (cB (a.toNat/16) (aS d))).bad=false:=b0;have b2:(cB (a.toNat/16) (aS d)).bad=false:=qT b1;exact th b2
 rw[b8 e16,b8 e16];have e17:k=17:=o_;rw[b9 e17,b9 e17];have hp:=fT h0;unfold BQ NI;refine⟨rfl,fun hb=>?_⟩;rw[iO h0 hb];exact⟨rfl,(hp.2 hb).2⟩
def adv (c:CS)(z:Int):CS:=⟨{c.m with fap:=wr (c.m.fap+z)},c.bad⟩
end Go.Proofs.Ytoglejgmjeojoaa
namespace Go.Proofs.Ytoglejgmjeojoaa
open Go.Sim
set_option maxRecDepth 100000
set_option maxHeartbeats 8000000
theorem br {p:Prop}[Decidable p](Q:CS->Prop){a b:CS}(ha:Q a)(hb:Q b):Q (if p then a else b):=by split<;>assumption
theorem Dz {es:List Int}{c:CS}{x:NZ}(h:c.ok):(bg es c x).ok:=by
 unfold bg
 refine br (CS.ok) (by
  exact fq h) ?_
 refine br (CS.ok) (by
  exact DM h) ?_
 refine br (CS.ok) (by
  exact DM h) ?_
 refine br (CS.ok) (by
  exact zw h) ?_
 refine br (CS.ok) (by
  exact zw h) ?_
 refine br (CS.ok) (by
  exact fq (cu (cu h))) ?_
 refine br (CS.ok) (by
  exact h) ?_
 refine br (CS.ok) (by
  unfold pa;split
  ·exact cu h
  ·exact cu h) ?_
 refine br (CS.ok) (by
  unfold oX;split
  ·exact fq h
  ·exact fq h) ?_
 refine br (CS.ok) (by
  exact sE (fq h)) ?_
 refine br (CS.ok) (by
  exact sE h) ?_
 refine br (CS.ok) (by
  exact fq (kr (cu (cu (cu h))))) ?_
 refine br (CS.ok) (by
  exact fq (kr (cu (kr (cu h))))) ?_
 refine br (CS.ok) (by
  exact cu h) ?_
 exact h
def MW (m:NY):Prop:=(∀w∈m.fas,inI w)/\inI m.fap/\inI m.fao
theorem HY (n:Int):inI (wr n):=by
 have e:wr n=if n%18446744073709551616≥9223372036854775808 then n%18446744073709551616-18446744073709551616 else n%18446744073709551616:=by simp[wr,IntKind.wrap,IntKind.bits,IntKind.signed]
 unfold inI;rw[e];split<;>omega
theorem vm:inI 0:=by unfold inI;omega
theorem zk {m:NY}(h:MW m)(a:Int):inI (ey m a):=by
 unfold ey;split
 ·rename_i x hx;exact h.1 _ (d4 hx)
 ·exact vm
theorem Cc {m:NY}(h:MW m){a v:Int}(hv:inI v):MW (mX m a v):=by
 refine⟨fun w hw=>?_,h.2⟩;rcases u5 hw with h1|h1
 ·exact h.1 w h1
 ·rw[h1];exact hv
theorem iQ {c:CS}(h:MW c.m){v:Int}(hv:inI v):MW (cq c v).m:=by
 unfold cq;split
 ·exact h
 ·exact⟨(Cc h hv).1,h.2⟩
theorem fv {c:CS}(h:MW c.m):MW (aS c).m:=by
 unfold aS;split
 ·exact h
 ·exact h
theorem ql {c:CS}(h:MW c.m):inI (iS c):=by
 unfold iS;split
 ·exact vm
 ·exact zk h _
theorem qg:∀{n:Nat} {c:CS},MW c.m->MW (cB n c).m
 | 0,_,h=>h
 | n+1,_,h=>qg (n:=n) (fv h)
theorem rV:∀{n:Nat} {c:CS},MW c.m->MW (eD n c).m
 | 0,_,h=>h
 | n+1,_,h=>rV (n:=n) (iQ h vm)
theorem DD {c:CS}{a:Int}(h:MW c.m):MW (ia c a).m:=by
 unfold ia;split
 ·exact h
 ·exact iQ (c:=⟨c.m,false⟩) h (zk h a)
theorem zg {c:CS}{a:Int}(h:MW c.m):MW (eP c a).m:=by
 have:=fv h;unfold eP;split
 ·exact this
 ·exact Cc this (ql h)
theorem EZ (n:Int):inI (w32 n):=by have:=jD n;unfold inI;omega
theorem HO (k a b:Int):inI (cW k a b):=by
 unfold cW;repeat' split
 ·exact EZ _
 ·exact EZ _
 ·exact EZ _
 ·unfold inI;omega
 ·exact vm
theorem MT {c:CS}(h:MW c.m):MW (cFp c).m:=⟨(fv h).1,(fv h).2.1,ql h⟩
theorem JD {c:CS}(h:MW c.m):MW (cPc c).m:=⟨(fv h).1,ql h,(fv h).2.2⟩
theorem Lq {c:CS}(h:MW c.m):MW (ik c).m:=h
theorem Df {c:CS}(h:MW c.m)(a:Int):MW (oM c a).m:=⟨h.1,HY _,h.2.2⟩
theorem Dn {c:CS}(h:MW c.m)(hs:inI c.m.fag)(v:Int):inI (cq c v).m.fag:=by
 unfold cq;split
 ·exact hs
 ·exact HY _
theorem Js {es:List Int}{c:CS}{x:NZ}(h:MW c.m)(hs:inI c.m.fag)(ha:inI x.faf)(he:∀e∈es,inI e):MW (bg es c x).m:=by
 unfold bg
 refine br (fun c=>MW c.m) (by
  exact iQ h ha) ?_
 refine br (fun c=>MW c.m) (by
  exact DD h) ?_
 refine br (fun c=>MW c.m) (by
  exact DD h) ?_
 refine br (fun c=>MW c.m) (by
  exact zg h) ?_
 refine br (fun c=>MW c.m) (by
  exact zg h) ?_
 refine br (fun c=>MW c.m) (by
  exact iQ (fv (fv h)) (HO _ _ _)) ?_
 refine br (fun c=>MW c.m) (by
  exact Df h _) ?_
 refine br (fun c=>MW c.m) (by
  unfold pa;split
  ·exact Df (fv h) _
  ·exact fv h) ?_
 refine br (fun c=>MW c.m) (by
  have hp:=iQ h h.2.1;unfold oX;split
  ·rename_i e O4;exact⟨hp.1,he _ (d4 O4),hp.2.2⟩
  ·exact hp) ?_
 refine br (fun c=>MW c.m) (by
  have hp:=iQ h h.2.2
  exact rV (c:=⟨{(cq c c.m.fao).m with fao:=(cq c c.m.fao).m.fag},(cq c c.m.fao).bad⟩) ⟨hp.1,hp.2.1,Dn h hs _⟩) ?_
 refine br (fun c=>MW c.m) (by
  exact rV h) ?_
 refine br (fun c=>MW c.m) (by
  exact iQ (qg (JD (MT (Lq (fv h))))) (ql h)) ?_
 refine br (fun c=>MW c.m) (by
  exact iQ (qg (JD (qg (fv h)))) (ql h)) ?_
 refine br (fun c=>MW c.m) (by
  exact fv h) ?_
 exact h
theorem fw {c:CS}{v:Int}:(cq c v).m.fah=c.m.fah:=by unfold cq;split<;>rfl
theorem cPop_out' {c:CS}:(aS c).m.fah=c.m.fah:=by unfold aS;split<;>rfl
theorem cDrop_out:∀{n:Nat} {c:CS},(cB n c).m.fah=c.m.fah
 | 0,_=>rfl
 | n+1,c=>by rw[cB,cDrop_out (n:=n),cPop_out']
theorem pp:∀{n:Nat} {c:CS},(eD n c).m.fah=c.m.fah
 | 0,_=>rfl
 | n+1,c=>by rw[eD,pp (n:=n),fw]
theorem yw {c:CS}{a:Int}:(ia c a).m.fah=c.m.fah:=by
 unfold ia;split
 ·rfl
 ·exact fw
theorem xL {c:CS}{a:Int}:(eP c a).m.fah=c.m.fah:=by
 unfold eP;split
 ·exact cPop_out'
 ·exact cPop_out'
theorem HL {es:List Int}{c:CS}{x:NZ}:(bg es c x).m.fah.length<=c.m.fah.length+1:=by
 have key:∀l:List Int,l=c.m.fah->l.length<=c.m.fah.length+1:=fun l h=>by rw[h];omega
 unfold bg
 refine br (fun d=>d.m.fah.length<=c.m.fah.length+1) (by
  exact key _ fw) ?_
 refine br (fun d=>d.m.fah.length<=c.m.fah.length+1) (by
  exact key _ yw) ?_
 refine br (fun d=>d.m.fah.length<=c.m.fah.length+1) (by
  exact key _ yw) ?_
 refine br (fun d=>d.m.fah.length<=c.m.fah.length+1) (by
  exact key _ xL) ?_
 refine br (fun d=>d.m.fah.length<=c.m.fah.length+1) (by
  exact key _ xL) ?_
 refine br (fun d=>d.m.fah.length<=c.m.fah.length+1) (by
  exact key _ (by rw[tn,fw,cPop_out',cPop_out'])) ?_
 refine br (fun d=>d.m.fah.length<=c.m.fah.length+1) (by
  exact key _ rfl) ?_
 refine br (fun d=>d.m.fah.length<=c.m.fah.length+1) (by
  refine key _ ?_;unfold pa;split
  ·exact cPop_out'
  ·exact cPop_out') ?_
 refine br (fun d=>d.m.fah.length<=c.m.fah.length+1) (by
  refine key _ ?_;unfold oX;split
  ·exact fw
  ·exact fw) ?_
 refine br (fun d=>d.m.fah.length<=c.m.fah.length+1) (by
  refine key _ ?_;rw[ss,pp];exact fw) ?_
 refine br (fun d=>d.m.fah.length<=c.m.fah.length+1) (by
  exact key _ pp) ?_
 refine br (fun d=>d.m.fah.length<=c.m.fah.length+1) (by
  refine key _ ?_;rw[sK,fw,cDrop_out]
  exact cPop_out'.trans (cPop_out'.trans cPop_out')) ?_
 refine br (fun d=>d.m.fah.length<=c.m.fah.length+1) (by
  refine key _ ?_;rw[om,fw,cDrop_out]
  exact cPop_out'.trans (cDrop_out.trans cPop_out')) ?_
 refine br (fun d=>d.m.fah.length<=c.m.fah.length+1) (by
  show((aS c).m.fah++[iS c]).length<=_;rw[c7,cPop_out']
  simp) ?_
 omega
def lP (s:Oe)(a:Int):Option (NZ×Nat):=if(AN s a).1<0 then none else match s.faB[(AN s a).1.toNat]? with
 | some im=>bx im.fab (AN s a).2
 | none=>none
def qu (c:CS):Option NY:=if c.bad=true then none else if c.m.fap=0 then(if bN c.m.fag=true then some {c.m with fal:=1,faA:=ey c.m c.m.fag} else none)else some c.m
def eU (s:Oe)(m:NY):Option NY:=match lP s m.fap with
 | none=>none
 | some x=>qu (bg s.fan (adv ⟨m,false⟩ x.2) x.1)
theorem DZ {s:Oe}{a:Int}{x:NZ×Nat}(h:lP s a=some x):∃(t:List UInt8) (p:Int),bx t p=some x:=by
 unfold lP at h;split at h
 ·cases h
 ·split at h
  ·exact⟨_,_,h⟩
  ·cases h
def MN (m:NY):NY:={m with fal:=2}
def mV (m:NY)(st out:Sim.Id):AV:= .r (.agg [.t (.int .i64 m.fap),.t (.int .i64 m.fag),.t (.int .i64 m.fao),.own st,.own out,.t (.int .i64 m.fal),.t (.int .i64 m.faA)])
theorem Hp {i0 i1:NU}{i:Nat}(hi:i<2)(h0:i0.fab.length<=1000000)(h1:i1.fab.length<=1000000):∃im:NU,[i0,i1][i]?=some im/\([i0.tr,i1.tr]:List (List Tr))[i]?=some im.tr/\im.fab.length<=1000000:=by
 match i,hi with
 | 0,_=>exact⟨i0,rfl,rfl,h0⟩
 | 1,_=>exact⟨i1,rfl,rfl,h1⟩
theorem Iu {i0 i1:NU}{b0 b1 a:Int}(h0:i0.fab.length<=1000000)(h1:i1.fab.length<=1000000):(fy i0 i1 b0 b1 a).2<=1000000:=by
 unfold fy;split
 ·dsimp only;omega
 ·split<;>dsimp only<;>omega
def mE (m:NY):Option NY->NY
 | none=>MN m
 | some m'=>m'
theorem si {c:CS}{m':NY}(h:qu c=some m'):m'.fas=c.m.fas/\m'.fah=c.m.fah/\m'.fag=c.m.fag/\m'.fao=c.m.fao/\m'.fap=c.m.fap/\c.bad=false:=by
 unfold qu at h;split at h
 ·cases h
 ·rename_i hb;have N3:c.bad=false:=by simpa using hb
  split at h
  ·split at h
   ·injection h with h;subst h;exact⟨rfl,rfl,rfl,rfl,rfl,N3⟩
   ·cases h
  ·injection h with h;subst h;exact⟨rfl,rfl,rfl,rfl,rfl,N3⟩
theorem ml {s:Oe}{m m':NY}(h:eU s m=some m'):∃x,lP s m.fap=some x/\qu (bg s.fan (adv ⟨m,false⟩ x.2) x.1)=some m':=by
 unfold eU at h;split at h
 ·cases h
 ·rename_i x hx;exact⟨x,hx,h⟩
theorem GS {s:Oe}{m:NY}(hm:m.fas.length=1200):∀m',eU s m=some m'->m'.fas.length=1200:=by intro m' h;obtain⟨x,_,h2⟩:=ml h;rw[(si h2).1];exact Dz (c:=adv ⟨m,false⟩ x.2) hm
theorem zp {s:Oe}{m:NY}:∀m',eU s m=some m'->m'.fah.length<=m.fah.length+1:=by intro m' h;obtain⟨x,_,h2⟩:=ml h;rw[(si h2).2.1];exact HL (c:=adv ⟨m,false⟩ x.2)
theorem machineOk_iffL {m:NY}:gd m=true↔m.fas.length=1200/\(0<=m.fag/\m.fag<=1200)/\0<=m.fal/\m.fal<=2:=by rw[gd,c8,c8,within_iff,within_iff,w8];exact⟨fun h=>⟨h.1.1,h.1.2,h.2⟩,fun h=>⟨⟨h.1,h.2.1⟩,h.2.2⟩⟩
theorem Fd {m:NY}(h:aR 1048576 m.tr):m.fas.length<=2000000/\m.fah.length<=1048576:=by simp only[NY.tr,aR]at h;have h1:=cQ h.2.2.2.1;have h2:=cQ h.2.2.2.2.1;omega
end Go.Proofs.Ytoglejgmjeojoaa
