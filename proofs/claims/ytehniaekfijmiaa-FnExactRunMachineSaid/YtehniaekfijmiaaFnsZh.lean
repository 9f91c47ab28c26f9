/- A step of the machine, and its runs, in the program. -/
import Derived.Test.YtehniaekfijmiaaFnsZg
namespace Go.Proofs.Ytehniaekfijmiaa
open Go.Sim
set_option maxRecDepth 100000
set_option maxHeartbeats 4000000
theorem opArg_12 {c : Int} (h : 12 ≤ c ∧ c ≤ 16) : (opArg c).2 = false ∧ ((opArg c).1 = 1 ∨ (opArg c).1 = 2) := by
  unfold opArg
  repeat' split
  all_goals first
    | (exfalso; omega)
    | simp
theorem opArg_1 {c : Int} (h : 1 ≤ c ∧ c ≤ 11) : opArg c = (2, true) ∨ opArg c = (0, false) := by
  unfold opArg
  repeat' split
  all_goals first
    | (exfalso; omega)
    | simp
theorem argV_two {c : Int} {m : Nat} (h : opArg c = (2, true)) (hm : m < 65536) : -65536 ≤ argV c m ∧ argV c m ≤ 65536 := by
  by_cases hb : 2 ^ (8 * 2 - 1) ≤ m
  · have e : argV c m = (m : Int) - 2 ^ (8 * 2) := argV_yes (n := 2) (by rw [h]; rfl) (by rw [h]) hb
    rw [e]
    show -65536 ≤ (m : Int) - 65536 ∧ (m : Int) - 65536 ≤ 65536
    omega
  · have e : argV c m = (m : Int) := argV_no (n := 2) (by rw [h]; rfl) (fun hh => hb hh.2)
    rw [e]
    omega
theorem decodeOp_arg {s : List UInt8} {p : Int} {x : TOp} {z : Nat} (h : decodeOp s p = some (x, z)) : (0 ≤ x.fCode ∧ x.fCode ≤ 17) ∧ (12 ≤ x.fCode → x.fCode ≤ 16 → 0 ≤ x.fArg ∧ x.fArg ≤ 65536) ∧ (1 ≤ x.fCode → x.fCode ≤ 11 → -65536 ≤ x.fArg ∧ x.fArg ≤ 65536) ∧ z ≤ 5 := by
  unfold decodeOp at h
  split at h
  · split at h
    · cases h
    · rename_i hno
      injection h with h
      injection h with h1 h2
      rw [not_or] at hno
      have hz := opSize_le (byteAt s p.toNat)
      subst h1
      dsimp only
      generalize hc : ((byteAt s p.toNat : Nat) : Int) = c at *
      have hin : 0 ≤ c ∧ c ≤ 17 := by
        have := hno.1
        unfold opSize at this
        split at this
        · rename_i hw; exact within_iff.1 hw
        · exact absurd rfl this
      refine ⟨hin, fun g1 g2 => ?_, fun g1 g2 => ?_, by omega⟩
      · obtain ⟨e1, e2⟩ := opArg_12 ⟨g1, g2⟩
        have hl := argN_lt s (p.toNat + 1) (opArg c).1.toNat
        have : 256 ^ (opArg c).1.toNat ≤ 65536 := by rcases e2 with e2 | e2 <;> rw [e2] <;> decide
        rw [argV, if_neg (by rw [e1]; simp)]
        omega
      · have hl := argN_lt s (p.toNat + 1) (opArg c).1.toNat
        rcases opArg_1 ⟨g1, g2⟩ with e | e
        · rw [e] at hl ⊢
          exact argV_two e hl
        · rw [e] at hl ⊢
          have hl : argN s (p.toNat + 1) 0 < 1 := hl
          have e2 : argV c (argN s (p.toNat + 1) 0) = ((argN s (p.toNat + 1) 0 : Nat) : Int) := argV_no (n := 0) (by rw [e]; rfl) (fun hh => by rw [e] at hh; exact absurd hh.1 (by simp))
          show -65536 ≤ argV c (argN s (p.toNat + 1) 0) ∧ argV c (argN s (p.toNat + 1) 0) ≤ 65536
          rw [e2]
          omega
  · cases h
theorem s_impl_copyMachine (m : TMachine) (hs : m.fStack.length ≤ 2000000) (ho : m.fOut.length ≤ 2000000) : Sim.Spec Try.prog 73 [.agg m.tr] (.r (.agg (m.tr.map resC))) := by
  refine spec_of_W hΓ hmix Try.func73 rfl (by decide) rfl ?_
  repeat' ((conv => whnf); first | refine Or.inl ?_ | refine And.intro (Obl.out (?_ : Obl _)) ?_ | refine ifB_intro (fun h => ?_) (fun h => ?_) | refine Exists.intro _ (And.intro rfl ?_) | ((with_reducible show _ = _); rfl))
  all_goals try ((with_reducible refine Obl.mk ?_); first | ((with_reducible show regOk _ _ = true); kernel_rfl) | ((with_reducible show eqTyOk _ _ = true); kernel_rfl) | rfl | exact trivial | ((repeat' (first | exact trivial | refine And.intro ?_ ?_)); done) | decide | ((repeat' (first | exact List.forall_mem_nil _ | refine List.forall_mem_cons.2 (And.intro rfl ?_))); done) | (refine And.intro ?_ ?_ <;> simp only [List.length_map, List.length_append, List.length_cons, List.length_nil] <;> omega))
  all_goals exact ⟨⟨rfl, flat_ints _⟩⟩
theorem s_spec_l11Copy (m : TMachine) (hs : m.fStack.length ≤ 2000000) (ho : m.fOut.length ≤ 2000000) : Sim.Spec Try.prog 66 [.agg m.tr] (.r (.agg (m.tr.map resC))) := by
  refine spec_of_W hΓ hmix Try.func66 rfl (by decide) rfl ?_
  repeat' ((conv => whnf); first | refine Or.inl ?_ | refine And.intro (Obl.out (?_ : Obl _)) ?_ | refine ifB_intro (fun h => ?_) (fun h => ?_) | refine Exists.intro _ (And.intro rfl ?_) | ((with_reducible show _ = _); rfl))
  all_goals try ((with_reducible refine Obl.mk ?_); first | ((with_reducible show regOk _ _ = true); kernel_rfl) | ((with_reducible show eqTyOk _ _ = true); kernel_rfl) | rfl | exact trivial | ((repeat' (first | exact trivial | refine And.intro ?_ ?_)); done) | decide | ((repeat' (first | exact List.forall_mem_nil _ | refine List.forall_mem_cons.2 (And.intro rfl ?_))); done) | (refine And.intro ?_ ?_ <;> simp only [List.length_map, List.length_append, List.length_cons, List.length_nil] <;> omega))
  all_goals exact ⟨⟨rfl, flat_ints _⟩⟩
end Go.Proofs.Ytehniaekfijmiaa
