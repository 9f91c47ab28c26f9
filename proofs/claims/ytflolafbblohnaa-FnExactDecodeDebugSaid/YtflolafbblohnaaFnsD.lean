/- The contracts of UnpackText in both texts. -/
import Derived.Test.YtflolafbblohnaaFnsC
namespace Go.Proofs.Ytflolafbblohnaa
open Go.Sim
set_option maxRecDepth 100000
theorem decL_some {s : List UInt8} {p : Nat} : ∀ (f k n : Nat) {a b : Nat}, decL s p f k n = some (a, b) → k < b ∧ b ≤ k + f ∧ p + b ≤ s.length ∧ a ≤ 1099511627775
  | 0, _, _, _, _, h => by simp [decL] at h
  | f + 1, k, n, a, b, h => by
    rw [decL] at h
    split at h
    · cases h
    · rename_i c hc
      have hlt : p + k < s.length := by
        rcases Nat.lt_or_ge (p + k) s.length with h' | h'
        · exact h'
        · rw [List.getElem?_eq_none h'] at hc; cases hc
      simp only at h
      split at h
      · have := decL_some f (k + 1) _ h
        omega
      · split at h
        · rename_i he
          simp only [Option.some.injEq, Prod.mk.injEq] at h
          obtain ⟨rfl, rfl⟩ := h
          refine ⟨by omega, by omega, by omega, ?_⟩
          have hl := congrArg List.length he
          simp only [List.length_take, List.length_drop] at hl
          rw [enc] at hl
          split at hl
          · rename_i hw
            have := within_iff.1 hw
            omega
          · simp at hl; omega
        · cases h
theorem dec_some {s : List UInt8} {p : Int} {a b : Nat} (h : dec s p = some (a, b)) : 0 ≤ p ∧ 0 < b ∧ b ≤ 6 ∧ p.toNat + b ≤ s.length ∧ a ≤ 1099511627775 := by
  rw [dec] at h
  split at h
  · cases h
  · have := decL_some 6 0 0 h
    omega
def unpackT (s : List UInt8) (p : Int) : Option (List UInt8 × Nat) :=
  match dec s p with
  | none => none
  | some (n, k) => if n + p.toNat + k ≤ s.length then some ((s.drop (p.toNat + k)).take n, k + n) else none
def unS (o : Option (List UInt8 × Nat)) : List UInt8 := match o with | some x => x.1 | none => []
def unK (o : Option (List UInt8 × Nat)) : Int := match o with | some x => x.2 | none => 0
abbrev rUn (o : Option (List UInt8 × Nat)) : Res := .tup [.c (.t (.str (unS o))), .c (.t (.int .i64 (unK o))), .c (.t (.bool o.isSome))]
abbrev rDec0 : Res := .tup [.c (.t (.int .i64 0)), .c (.t (.int .i64 0)), .c (.t (.bool false))]
abbrev rDec1 (n k : Nat) : Res := .tup [.c (.t (.int .i64 n)), .c (.t (.int .i64 k)), .c (.t (.bool true))]
theorem dec_none_spec {P : Program} {f : FuncId} {s : List UInt8} {p : Int} (h : Sim.Spec P f [tvS s, tvI p] (rDec (dec s p))) (hd : dec s p = none) : Sim.Spec P f [tvS s, tvI p] rDec0 := by
  rw [hd] at h; exact h
theorem dec_some_spec {P : Program} {f : FuncId} {s : List UInt8} {p : Int} {n k : Nat} (h : Sim.Spec P f [tvS s, tvI p] (rDec (dec s p))) (hd : dec s p = some (n, k)) : Sim.Spec P f [tvS s, tvI p] (rDec1 n k) := by
  rw [hd] at h; exact h
theorem s_impl_UnpackText (s : List UInt8) (p : Int) (hs : s.length ≤ 1048576) (hp : p ≤ 9223372036854775807) : Sim.Spec Try.prog 170 [tvS s, tvI p] (rUn (unpackT s p)) := by
  have hD := s_impl_DecodeVarint s p hs
  match hd : dec s p with
  | none =>
    have hD := dec_none_spec hD hd
    have hu : unpackT s p = none := by rw [unpackT, hd]
    rw [hu]
    refine spec_of_W hΓ hmix Try.func170 rfl (by decide) rfl ?_
    repeat' (
      (conv => whnf)
      first
      | refine Or.inl ?_
      | refine And.intro (Obl.out (?_ : Obl _)) ?_
      | refine ifB_intro (fun h => ?_) (fun h => ?_)
      | refine call_intro (hD) (And.intro rfl (And.intro rfl trivial)) ?_
      | refine Exists.intro _ (And.intro rfl ?_)
      | ((with_reducible show _ = _); rfl))
    all_goals try (
      (with_reducible refine Obl.mk ?_)
      first
      | ((with_reducible show regOk _ _ = true); kernel_rfl)
      | ((with_reducible show eqTyOk _ _ = true); kernel_rfl)
      | rfl
      | exact trivial
      | ((repeat' (first | exact trivial | refine And.intro ?_ ?_)); done)
      | decide
      | (intro r hr; simp only [List.mem_cons, List.not_mem_nil, or_false] at hr; first | (subst hr; rfl) | (rcases hr with rfl | rfl <;> rfl) | (rcases hr with rfl | rfl | rfl <;> rfl) | (rcases hr with rfl | rfl | rfl | rfl <;> rfl))
      | (refine And.intro ?_ ?_ <;> simp only [List.length_map, List.length_append, List.length_cons, List.length_nil] <;> omega))
  | some (n, k) =>
    have hD := dec_some_spec hD hd
    obtain ⟨h0, h1, h2, h3, h4⟩ := dec_some hd
    obtain ⟨p, rfl⟩ := Int.eq_ofNat_of_zero_le h0
    rw [Int.toNat_natCast] at h3
    have hu : unpackT s p = if n + p + k ≤ s.length then some ((s.drop (p + k)).take n, k + n) else none := by rw [unpackT, hd]; rfl
    rw [hu]
    refine spec_of_W hΓ hmix Try.func170 rfl (by decide) rfl ?_
    repeat' (
      (conv => whnf)
      first
      | refine Or.inl ?_
      | refine And.intro (Obl.out (?_ : Obl _)) ?_
      | refine ifB_intro (fun h => ?_) (fun h => ?_)
      | refine call_intro (hD) (And.intro rfl (And.intro rfl trivial)) ?_
      | refine Exists.intro _ (And.intro rfl ?_)
      | ((with_reducible show _ = _); rfl))
    all_goals try (
      (with_reducible refine Obl.mk ?_)
      first
      | ((with_reducible show regOk _ _ = true); kernel_rfl)
      | ((with_reducible show eqTyOk _ _ = true); kernel_rfl)
      | rfl
      | exact trivial
      | ((repeat' (first | exact trivial | refine And.intro ?_ ?_)); done)
      | decide
      | (intro r hr; simp only [List.mem_cons, List.not_mem_nil, or_false] at hr; first | (subst hr; rfl) | (rcases hr with rfl | rfl <;> rfl) | (rcases hr with rfl | rfl | rfl <;> rfl) | (rcases hr with rfl | rfl | rfl | rfl <;> rfl))
      | (refine And.intro ?_ ?_ <;> simp only [List.length_map, List.length_append, List.length_cons, List.length_nil] <;> omega))
    all_goals try
      have h5 := of_decide_eq_true h
      rw [IntWalk.i64_in ((s.length : Int) - p) (by omega), IntWalk.i64_in _ (by omega)] at h5
      rw [if_neg (by omega)]
      exact ⟨rfl⟩
    have h5 := of_decide_eq_false h
    rw [IntWalk.i64_in ((s.length : Int) - p) (by omega), IntWalk.i64_in _ (by omega)] at h5
    rw [if_pos (by omega)]
    conv => whnf
    refine ⟨p + k, p + k + n, ?_, ?_, by omega, by omega, ?_⟩
    · show IntKind.i64.wrap (_ + _) = _
      rw [IntWalk.i64_in _ (by omega)]; rfl
    · show IntKind.i64.wrap (IntKind.i64.wrap (_ + _) + _) = _
      rw [IntWalk.i64_in ((p : Int) + k) (by omega), IntWalk.i64_in _ (by omega)]; rfl
    rw [List.drop_take, show p + k + n - (p + k) = n by omega]
    repeat' (
      (conv => whnf)
      first
      | refine Or.inl ?_
      | refine And.intro (Obl.out (?_ : Obl _)) ?_
      | refine ifB_intro (fun h => ?_) (fun h => ?_)
      | refine Exists.intro _ (And.intro rfl ?_)
      | ((with_reducible show _ = _); rfl))
    all_goals try (
      (with_reducible refine Obl.mk ?_)
      first
      | ((with_reducible show regOk _ _ = true); kernel_rfl)
      | ((with_reducible show eqTyOk _ _ = true); kernel_rfl)
      | rfl
      | exact trivial
      | ((repeat' (first | exact trivial | refine And.intro ?_ ?_)); done)
      | decide
      | (intro r hr; simp only [List.mem_cons, List.not_mem_nil, or_false] at hr; first | (subst hr; rfl) | (rcases hr with rfl | rfl <;> rfl) | (rcases hr with rfl | rfl | rfl <;> rfl) | (rcases hr with rfl | rfl | rfl | rfl <;> rfl))
      | (refine And.intro ?_ ?_ <;> simp only [List.length_map, List.length_append, List.length_cons, List.length_nil] <;> omega))
    exact ⟨by rw [IntWalk.i64_in _ (by omega)]; rfl⟩
theorem s_spec_UnpackText (s : List UInt8) (p : Int) (hs : s.length ≤ 1048576) (hp : p ≤ 9223372036854775807) : Sim.Spec Try.prog 81 [tvS s, tvI p] (rUn (unpackT s p)) := by
  have hD := s_spec_DecodeVarint s p hs hp
  match hd : dec s p with
  | none =>
    have hD := dec_none_spec hD hd
    have hu : unpackT s p = none := by rw [unpackT, hd]
    rw [hu]
    refine spec_of_W hΓ hmix Try.func81 rfl (by decide) rfl ?_
    repeat' (
      (conv => whnf)
      first
      | refine Or.inl ?_
      | refine And.intro (Obl.out (?_ : Obl _)) ?_
      | refine ifB_intro (fun h => ?_) (fun h => ?_)
      | refine call_intro (hD) (And.intro rfl (And.intro rfl trivial)) ?_
      | refine Exists.intro _ (And.intro rfl ?_)
      | ((with_reducible show _ = _); rfl))
    all_goals try (
      (with_reducible refine Obl.mk ?_)
      first
      | ((with_reducible show regOk _ _ = true); kernel_rfl)
      | ((with_reducible show eqTyOk _ _ = true); kernel_rfl)
      | rfl
      | exact trivial
      | ((repeat' (first | exact trivial | refine And.intro ?_ ?_)); done)
      | decide
      | (intro r hr; simp only [List.mem_cons, List.not_mem_nil, or_false] at hr; first | (subst hr; rfl) | (rcases hr with rfl | rfl <;> rfl) | (rcases hr with rfl | rfl | rfl <;> rfl) | (rcases hr with rfl | rfl | rfl | rfl <;> rfl))
      | (refine And.intro ?_ ?_ <;> simp only [List.length_map, List.length_append, List.length_cons, List.length_nil] <;> omega))
  | some (n, k) =>
    have hD := dec_some_spec hD hd
    obtain ⟨h0, h1, h2, h3, h4⟩ := dec_some hd
    obtain ⟨p, rfl⟩ := Int.eq_ofNat_of_zero_le h0
    rw [Int.toNat_natCast] at h3
    have hu : unpackT s p = if n + p + k ≤ s.length then some ((s.drop (p + k)).take n, k + n) else none := by rw [unpackT, hd]; rfl
    rw [hu]
    refine spec_of_W hΓ hmix Try.func81 rfl (by decide) rfl ?_
    repeat' (
      (conv => whnf)
      first
      | refine Or.inl ?_
      | refine And.intro (Obl.out (?_ : Obl _)) ?_
      | refine ifB_intro (fun h => ?_) (fun h => ?_)
      | refine call_intro (hD) (And.intro rfl (And.intro rfl trivial)) ?_
      | refine Exists.intro _ (And.intro rfl ?_)
      | ((with_reducible show _ = _); rfl))
    all_goals try (
      (with_reducible refine Obl.mk ?_)
      first
      | ((with_reducible show regOk _ _ = true); kernel_rfl)
      | ((with_reducible show eqTyOk _ _ = true); kernel_rfl)
      | rfl
      | exact trivial
      | ((repeat' (first | exact trivial | refine And.intro ?_ ?_)); done)
      | decide
      | (intro r hr; simp only [List.mem_cons, List.not_mem_nil, or_false] at hr; first | (subst hr; rfl) | (rcases hr with rfl | rfl <;> rfl) | (rcases hr with rfl | rfl | rfl <;> rfl) | (rcases hr with rfl | rfl | rfl | rfl <;> rfl))
      | (refine And.intro ?_ ?_ <;> simp only [List.length_map, List.length_append, List.length_cons, List.length_nil] <;> omega))
    all_goals try
      have h5 := of_decide_eq_true h
      rw [IntWalk.i64_in ((s.length : Int) - p) (by omega), IntWalk.i64_in _ (by omega)] at h5
      rw [if_neg (by omega)]
      exact ⟨rfl⟩
    have h5 := of_decide_eq_false h
    rw [IntWalk.i64_in ((s.length : Int) - p) (by omega), IntWalk.i64_in _ (by omega)] at h5
    rw [if_pos (by omega)]
    conv => whnf
    refine ⟨p + k, p + k + n, ?_, ?_, by omega, by omega, ?_⟩
    · show IntKind.i64.wrap (_ + _) = _
      rw [IntWalk.i64_in _ (by omega)]; rfl
    · show IntKind.i64.wrap (IntKind.i64.wrap (_ + _) + _) = _
      rw [IntWalk.i64_in ((p : Int) + k) (by omega), IntWalk.i64_in _ (by omega)]; rfl
    rw [List.drop_take, show p + k + n - (p + k) = n by omega]
    repeat' (
      (conv => whnf)
      first
      | refine Or.inl ?_
      | refine And.intro (Obl.out (?_ : Obl _)) ?_
      | refine ifB_intro (fun h => ?_) (fun h => ?_)
      | refine Exists.intro _ (And.intro rfl ?_)
      | ((with_reducible show _ = _); rfl))
    all_goals try (
      (with_reducible refine Obl.mk ?_)
      first
      | ((with_reducible show regOk _ _ = true); kernel_rfl)
      | ((with_reducible show eqTyOk _ _ = true); kernel_rfl)
      | rfl
      | exact trivial
      | ((repeat' (first | exact trivial | refine And.intro ?_ ?_)); done)
      | decide
      | (intro r hr; simp only [List.mem_cons, List.not_mem_nil, or_false] at hr; first | (subst hr; rfl) | (rcases hr with rfl | rfl <;> rfl) | (rcases hr with rfl | rfl | rfl <;> rfl) | (rcases hr with rfl | rfl | rfl | rfl <;> rfl))
      | (refine And.intro ?_ ?_ <;> simp only [List.length_map, List.length_append, List.length_cons, List.length_nil] <;> omega))
    exact ⟨by rw [IntWalk.i64_in _ (by omega)]; rfl⟩
end Go.Proofs.Ytflolafbblohnaa
