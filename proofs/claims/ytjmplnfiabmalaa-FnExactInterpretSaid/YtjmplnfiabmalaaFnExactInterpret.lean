/- The law FnExactInterpret answers true for every input and leaves its arguments as they were. Conditions: none beyond the given statement. -/
import Derived.Test.YtjmplnfiabmalaaGi
namespace Go.Proofs.Ytjmplnfiabmalaa
open Go.Sim Go.ChangeShapes Go.WideShapes Go.ChangeAt Go.RowKit
set_option maxRecDepth 100000
set_option maxHeartbeats 4000000
theorem gb (x0:List Ah)(hw0:(x0.length≤maxLen∧∀y∈x0,y.wf))(x1:Int)(hw1:inI x1):Sim.Spec Try.prog 3 [tvL 4 (x0.map Ah.tr),tvI x1] (rB true):=by
 refine an hΓ ap Try.func3 rfl (by decide) rfl ?_
 have hsz0:=oO x0 hw0 (1048576) (by omega) (by omega)
 repeat' ((conv=>whnf);first|refine cQ ?_|apply bu|apply oi|(apply fi<;>intro h)|refine cl hsz0 ?_|refine⟨_,rfl,?_⟩|exact rfl)
 all_goals try exact⟨KO⟩
 have hsm0:=iR (L:=1048576) _ _ (Int.not_lt.1 (of_decide_eq_false h)) (by omega)
 have hnn0:=Int.not_lt.1 (of_decide_eq_false h)
 clear h
 have hs0:=hsm0.1
 have hspec:=kP x0 hs0 x1
 have himpl:=kw x0 hs0 x1
 have hr0:ay 1048576 (kv x0 x1).tr:=uq hs0 _
 generalize kv x0 x1=R0 at *
 have heqr0:=rP R0 hr0
 have hr0u:=hr0
 simp only[An.tr,ay]at hr0u
 have hrc0_0:=vf _ (hr0u.1)
 have hrc0_1:=wi _ (hr0u.2.1)
 have hmkr0:=oZ R0 1 (by omega) (Nat.le_trans (aX (hr0u.1)) (by omega)) (Nat.le_trans (aX (hr0u.2.1)) (by omega)) (qt _ (hr0u.2.1)) (by omega)
 have hhdr0:=nI R0 1 (by omega) (Nat.le_trans (aX (hr0u.1)) (by omega)) (Nat.le_trans (aX (hr0u.2.1)) (by omega)) (qt _ (hr0u.2.1)) (by omega)
 have hto0:=ox x0 hs0
 have heq0:=oe x0 hs0
 have hac0_0:=wt _ hs0
 have hmka0:=mh x0 (1) (by omega) (Nat.le_trans (aX hs0) (by omega)) (by omega) (vK _ hs0)
 repeat' ((conv=>whnf);first|refine cg hmka0 ?_|refine cg hmkr0 ?_|refine cg hto0 ?_|refine cg himpl ?_|refine cQ ?_|apply bu|apply oi|(apply fi<;>intro h)|refine .inl (ci heqr0 (ai (ai rfl (ai (jf _ _) (ai rfl (ai rfl trivial)))) (ai (ai rfl (ai rfl (ai rfl (ai rfl trivial)))) trivial)) ?_)|refine .inl (ci hhdr0 (ai (ai rfl (ai (jf _ _) (ai rfl (ai rfl trivial)))) (ai rfl trivial)) ?_)|refine .inl (ci heq0 (ai (jf _ _) (ai (jf _ _) trivial)) ?_)|refine .inl (ci hspec (ai (jf _ _) (ai rfl trivial)) ?_)|refine⟨_,rfl,?_⟩|exact rfl)
 all_goals try exact⟨KO⟩
 all_goals try exact⟨jf _ _⟩
 all_goals try exact⟨vM _⟩
 all_goals(exfalso;first|(simp at h;done)|(have h':=of_decide_eq_true h;omega))
theorem fnExactInterpret_lifted (os:Os)(started:os.Started)(H:Type)(enc:TypeId×Value→H):
  ReturnsInHanded {} Try.checked os 3 .any (Rows.fnExactInterpretSpec.pre6 enc Try.prog Try.f3 Rows.fnExactInterpretRow.domain false) (Rows.fnExactInterpretSpec.post enc Try.prog Try.f3 false true false false):=by
 refine returnsInHanded_of_change (C:=Try.checked) own started (by kernel_rfl) Try.func3
  (ChangeSpec.witness6 (enc:=enc) (C:=Try.checked) false ⟨#[],#[.slice none 0 0,.int .i64 0],[]⟩ 8 (by kernel_rfl) (by kernel_rfl) (by kernel_rfl) (by kernel_rfl)) ?_
 intro W base args ds gs before hval hW _ _
 have hW0:=hW
 obtain⟨p,q,hA,_,_,_,_⟩:=hW0
 have hlen:=mw hA
 obtain⟨xs,hx,hty⟩:=oF (n:=8) hΓ (by kernel_rfl) (fun j t v h1 h2=>hval j t v (by simpa using h1) (by simpa using h2)) hA
 rw[Try.params3]at hty hlen
 obtain⟨_,xs0,rfl,hx0,hty0⟩:=lu hty
 obtain⟨_,rfl,r0,⟨⟩,l0,e0⟩:=hx0
 obtain⟨_,xs1,rfl,hx1,hty1⟩:=lu hty0
 obtain⟨_,rfl,a1,⟨⟩,w1⟩:=hx1
 obtain rfl:=sV hty1
 obtain⟨d0,d1,rfl⟩:=zx hlen
 obtain⟨x0,rfl,v0⟩:=lc (g:=Ah.tr) (Q:=(fun y=>y.wf)) (rows:=r0) (fun r hr=>xU (sd (by decide) (e0 r hr)))
 exact vS xP rfl Try.underlying4 rfl (by kernel_rfl) rfl hx (gb x0 ⟨by simpa using l0,v0⟩ a1 (rn w1)) hW
theorem fnExactInterpret_holds:Rows.FnExactInterpretSaid:=
 OpenClaim.holds_of_wide 3 Try.f3 rfl rfl rfl rfl rfl rfl rfl ⟨rfl,rfl,rfl,rfl,rfl⟩ rfl rfl rfl rfl rfl (by kernel_rfl) Try.func3 (by kernel_rfl)
  (of_decide_eq_true (by kernel_rfl)) (by unfold Func.isWrapper;first|(rw[if_pos (by decide+kernel)];kernel_rfl)|(rw[if_neg (by decide+kernel)];exact⟨rfl,rfl⟩))
  (fun os started H enc _=>fnExactInterpret_lifted os started H enc)
end Go.Proofs.Ytjmplnfiabmalaa
