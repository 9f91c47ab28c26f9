/- The laws over results that are marked: UnpackInts. -/
import Derived.Test.YtnadkeiidbgmjaaMkB
import Derived.Test.YtnadkeiidbgmjaaFnsG
namespace Go.Proofs.Ytnadkeiidbgmjaa
open Go.Sim
set_option maxRecDepth 100000
set_option maxHeartbeats 4000000
theorem unpack_len {s : List UInt8} {p : Int} (hs : s.length ≤ 1048576) : (upL (unpackInts s p)).length ≤ 1048576 := by
  unfold unpackInts
  match hd : dec s p with
  | none => simp [upL]
  | some (a, b) =>
    have h1 := dec_some hd
    dsimp only
    match hu : unpackL s p.toNat a b with
    | none => simp [upL]
    | some y =>
      have h2 := unpackL_len hu
      simp only [upL]
      omega
theorem cn_ints (ns : List Int) : cnRs (ns.map intRow) = ns.length := by
  induction ns with
  | nil => rfl
  | cons n ns ih => rw [List.map_cons, cnRs, ih, List.length_cons]; simp only [intRow, cnR, cnT]; omega
theorem s_laws_FnExactUnpackInts (s : List UInt8) (p : Int) (hp : p ≤ 9223372036854775807) : Sim.Spec Try.prog 3 [tvS s, tvI p] (rB true) := by
  refine spec_of_W hΓ hmix Try.func3 rfl (by decide) rfl ?_
  repeat' (
    (conv => whnf)
    first
    | refine Or.inl ?_
    | refine And.intro (Obl.out (?_ : Obl _)) ?_
    | refine ifB_intro (fun h => ?_) (fun h => ?_)
    | refine Exists.intro _ (And.intro rfl ?_)
    | ((with_reducible show _ = _); rfl))
  all_goals try (
    (with_reducible refine Obl.mk ?_)
    first
    | ((with_reducible show regOk _ _ = true); kernel_rfl)
    | rfl
    | exact trivial
    | ((repeat' (first | exact trivial | refine And.intro ?_ ?_)); done)
    | decide
    | (intro r hr; simp only [List.mem_cons, List.not_mem_nil, or_false] at hr; first | (subst hr; rfl) | (rcases hr with rfl | rfl <;> rfl) | (rcases hr with rfl | rfl | rfl <;> rfl) | (rcases hr with rfl | rfl | rfl | rfl <;> rfl))
    | (refine And.intro ?_ ?_ <;> simp only [List.length_map, List.length_append, List.length_cons, List.length_nil] <;> omega))
  have hs : s.length ≤ 1048576 := by have := of_decide_eq_false h; omega
  have hspec := s_spec_UnpackInts s p hs hp
  have himpl := s_impl_UnpackInts s p hs hp
  dsimp only [rUnp] at hspec himpl
  have hlen := unpack_len (p := p) hs
  have hcn := cn_ints (upL (unpackInts s p))
  generalize upL (unpackInts s p) = ns at *
  generalize upZ (unpackInts s p) = z at *
  generalize (unpackInts s p).isSome = ok at *
  have heq := s_laws_eqIntS ns ns hlen
  rw [show (ns == ns) = true by simp] at heq
  have hmk := g_laws_markIntS ns 1 (by omega) (by omega) (by omega)
  have hhd := s_laws_heldIntS ns 1 (by omega) (by omega) (by omega)
  rw [hcn] at hmk hhd
  repeat' (
    (conv => whnf)
    first
    | refine callG_intro (hmk) ?_
    | refine Or.inl ?_
    | refine And.intro (Obl.out (?_ : Obl _)) ?_
    | refine ifB_intro (fun h => ?_) (fun h => ?_)
    | refine call_intro (hspec) (And.intro rfl (And.intro rfl trivial)) ?_
    | refine call_intro (himpl) (And.intro rfl (And.intro rfl trivial)) ?_
    | refine call_intro (heq) (And.intro rfl (And.intro rfl trivial)) ?_
    | refine call_intro (hhd) (And.intro rfl (And.intro rfl trivial)) ?_
    | refine Exists.intro _ (And.intro rfl ?_)
    | ((with_reducible show _ = _); rfl))
  all_goals try (
    (with_reducible refine Obl.mk ?_)
    first
    | ((with_reducible show regOk _ _ = true); kernel_rfl)
    | rfl
    | exact trivial
    | ((repeat' (first | exact trivial | refine And.intro ?_ ?_)); done)
    | decide
    | (intro r hr; simp only [List.mem_cons, List.not_mem_nil, or_false] at hr; first | (subst hr; rfl) | (rcases hr with rfl | rfl <;> rfl) | (rcases hr with rfl | rfl | rfl <;> rfl) | (rcases hr with rfl | rfl | rfl | rfl <;> rfl))
    | (refine And.intro ?_ ?_ <;> simp only [List.length_map, List.length_append, List.length_cons, List.length_nil] <;> omega))
  all_goals (exfalso; first | (simp at h; done) | (have h' := of_decide_eq_true h; omega))
end Go.Proofs.Ytnadkeiidbgmjaa
