import Derived.Test.YtflolafbblohnaaEnv
namespace Go.Proofs.Ytflolafbblohnaa
open Go.Sim
abbrev tvI (n : Int) : TV := .c (.int .i64 n)
abbrev tvB (n : Bool) : TV := .c (.bool n)
abbrev tvS (n : List UInt8) : TV := .c (.str n)
abbrev rI (n : Int) : Res := .r (.c (.t (.int .i64 n)))
abbrev rB (b : Bool) : Res := .r (.c (.t (.bool b)))
abbrev rS (b : List UInt8) : Res := .r (.c (.t (.str b)))
def within (n lo hi : Int) : Bool := decide (lo ≤ n) && decide (n ≤ hi)
theorem within_iff {n lo hi : Int} : within n lo hi = true ↔ lo ≤ n ∧ n ≤ hi := by simp [within]
set_option maxRecDepth 100000
theorem s_impl_between (n lo hi : Int) : Sim.Spec Try.prog 110 [tvI n, tvI lo, tvI hi] (rB (within n lo hi)) := by
  refine spec_of_W hΓ hmix Try.func110 rfl (by decide) rfl ?_
  repeat' (
    (conv => whnf)
    first
    | refine Or.inl ?_
    | refine And.intro (Obl.out (?_ : Obl _)) ?_
    | refine ifB_intro (fun h => ?_) (fun h => ?_)
    | refine Exists.intro _ (And.intro rfl ?_)
    | ((with_reducible show _ = _); rfl))
  all_goals try (
    (with_reducible refine Obl.mk ?_)
    first
    | ((with_reducible show regOk _ _ = true); kernel_rfl)
    | ((with_reducible show eqTyOk _ _ = true); kernel_rfl)
    | rfl
    | exact trivial
    | ((repeat' (first | exact trivial | refine And.intro ?_ ?_)); done)
    | decide
    | (intro r hr; simp only [List.mem_cons, List.not_mem_nil, or_false] at hr; first | (subst hr; rfl) | (rcases hr with rfl | rfl <;> rfl) | (rcases hr with rfl | rfl | rfl <;> rfl) | (rcases hr with rfl | rfl | rfl | rfl <;> rfl))
    | (refine And.intro ?_ ?_ <;> simp only [List.length_map, List.length_append, List.length_cons, List.length_nil] <;> omega))
  all_goals refine ⟨?_⟩
  all_goals simp_all [within]
  all_goals omega
theorem s_spec_l01In (n lo hi : Int) : Sim.Spec Try.prog 109 [tvI n, tvI lo, tvI hi] (rB (within n lo hi)) := by
  refine spec_of_W hΓ hmix Try.func109 rfl (by decide) rfl ?_
  repeat' (
    (conv => whnf)
    first
    | refine Or.inl ?_
    | refine And.intro (Obl.out (?_ : Obl _)) ?_
    | refine ifB_intro (fun h => ?_) (fun h => ?_)
    | refine Exists.intro _ (And.intro rfl ?_)
    | ((with_reducible show _ = _); rfl))
  all_goals try (
    (with_reducible refine Obl.mk ?_)
    first
    | ((with_reducible show regOk _ _ = true); kernel_rfl)
    | ((with_reducible show eqTyOk _ _ = true); kernel_rfl)
    | rfl
    | exact trivial
    | ((repeat' (first | exact trivial | refine And.intro ?_ ?_)); done)
    | decide
    | (intro r hr; simp only [List.mem_cons, List.not_mem_nil, or_false] at hr; first | (subst hr; rfl) | (rcases hr with rfl | rfl <;> rfl) | (rcases hr with rfl | rfl | rfl <;> rfl) | (rcases hr with rfl | rfl | rfl | rfl <;> rfl))
    | (refine And.intro ?_ ?_ <;> simp only [List.length_map, List.length_append, List.length_cons, List.length_nil] <;> omega))
  all_goals refine ⟨?_⟩
  all_goals simp_all [within]
  all_goals omega
def signless (n : Int) : Int := if within n (-549755813888) 549755813887 then (if n < 0 then -2 * n - 1 else 2 * n) else -1
def signed (n : Int) : Int := if within n 0 1099511627775 then (if n % 2 = 1 then -((n + 1) / 2) else n / 2) else 0
theorem and_low (n : Int) (k : Nat) (h0 : 0 ≤ n) (h1 : n ≤ 9223372036854775807) (hk : k ≤ 62) : ((BitVec.ofInt 64 n &&& BitVec.ofInt 64 (2 ^ k - 1 : Int)).toNat : Int) = n % (2 ^ k : Int) := by
  obtain ⟨m, rfl⟩ := Int.eq_ofNat_of_zero_le h0
  have hp : (2 ^ k : Nat) ≤ 2 ^ 62 := Nat.pow_le_pow_right (by omega) hk
  have hp1 : 1 ≤ (2 ^ k : Nat) := Nat.one_le_two_pow
  have e : (2 ^ k - 1 : Int) = ((2 ^ k - 1 : Nat) : Int) := by
    rw [Int.natCast_sub hp1]; simp
  rw [e, BitVec.toNat_and, BitVec.toNat_ofInt, BitVec.toNat_ofInt]
  have e1 : ((m : Int) % ((2 ^ 64 : Nat) : Int)).toNat = m := by omega
  have e2 : (((2 ^ k - 1 : Nat) : Int) % ((2 ^ 64 : Nat) : Int)).toNat = 2 ^ k - 1 := by
    have : 2 ^ k - 1 < 2 ^ 64 := by omega
    omega
  rw [e1, e2, Nat.and_two_pow_sub_one_eq_mod]
  simp
theorem signed_odd {n : Int} (h0 : 0 ≤ n) (h1 : n ≤ 1099511627775) : IntKind.i64.wrap ((IntKind.i64.wrap (0 - IntKind.i64.wrap (n + 1))).tdiv 2) = -((n + 1) / 2) := by
  rw [IntWalk.i64_in (n + 1) (by omega), IntWalk.i64_in (0 - (n + 1)) (by omega), show 0 - (n + 1) = -(n + 1) by omega, Int.neg_tdiv, Int.tdiv_eq_ediv_of_nonneg (by omega), IntWalk.i64_in _ (by omega)]
theorem signed_even {n : Int} (h0 : 0 ≤ n) (h1 : n ≤ 1099511627775) : IntKind.i64.wrap (n.tdiv 2) = n / 2 := by
  rw [Int.tdiv_eq_ediv_of_nonneg (by omega), IntWalk.i64_in _ (by omega)]
theorem s_impl_Signless (n : Int) : Sim.Spec Try.prog 240 [tvI n] (rI (signless n)) := by
  refine spec_of_W hΓ hmix Try.func240 rfl (by decide) rfl ?_
  repeat' (
    (conv => whnf)
    first
    | refine Or.inl ?_
    | refine And.intro (Obl.out (?_ : Obl _)) ?_
    | refine ifB_intro (fun h => ?_) (fun h => ?_)
    | refine call_intro (s_impl_between _ _ _) (And.intro rfl (And.intro rfl (And.intro rfl trivial))) ?_
    | refine Exists.intro _ (And.intro rfl ?_)
    | ((with_reducible show _ = _); rfl))
  all_goals try (
    (with_reducible refine Obl.mk ?_)
    first
    | ((with_reducible show regOk _ _ = true); kernel_rfl)
    | ((with_reducible show eqTyOk _ _ = true); kernel_rfl)
    | rfl
    | exact trivial
    | ((repeat' (first | exact trivial | refine And.intro ?_ ?_)); done)
    | decide
    | (intro r hr; simp only [List.mem_cons, List.not_mem_nil, or_false] at hr; first | (subst hr; rfl) | (rcases hr with rfl | rfl <;> rfl) | (rcases hr with rfl | rfl | rfl <;> rfl) | (rcases hr with rfl | rfl | rfl | rfl <;> rfl))
    | (refine And.intro ?_ ?_ <;> simp only [List.length_map, List.length_append, List.length_cons, List.length_nil] <;> omega))
  all_goals refine ⟨congrArg (Tr.int _) ?_⟩
  all_goals simp_all [signless, IntKind.wrap_i64, within]
  all_goals omega
theorem s_spec_Signless (n : Int) : Sim.Spec Try.prog 237 [tvI n] (rI (signless n)) := by
  refine spec_of_W hΓ hmix Try.func237 rfl (by decide) rfl ?_
  repeat' (
    (conv => whnf)
    first
    | refine Or.inl ?_
    | refine And.intro (Obl.out (?_ : Obl _)) ?_
    | refine ifB_intro (fun h => ?_) (fun h => ?_)
    | refine call_intro (s_spec_l01In _ _ _) (And.intro rfl (And.intro rfl (And.intro rfl trivial))) ?_
    | refine Exists.intro _ (And.intro rfl ?_)
    | ((with_reducible show _ = _); rfl))
  all_goals try (
    (with_reducible refine Obl.mk ?_)
    first
    | ((with_reducible show regOk _ _ = true); kernel_rfl)
    | ((with_reducible show eqTyOk _ _ = true); kernel_rfl)
    | rfl
    | exact trivial
    | ((repeat' (first | exact trivial | refine And.intro ?_ ?_)); done)
    | decide
    | (intro r hr; simp only [List.mem_cons, List.not_mem_nil, or_false] at hr; first | (subst hr; rfl) | (rcases hr with rfl | rfl <;> rfl) | (rcases hr with rfl | rfl | rfl <;> rfl) | (rcases hr with rfl | rfl | rfl | rfl <;> rfl))
    | (refine And.intro ?_ ?_ <;> simp only [List.length_map, List.length_append, List.length_cons, List.length_nil] <;> omega))
  all_goals refine ⟨congrArg (Tr.int _) ?_⟩
  all_goals simp_all [signless, IntKind.wrap_i64, within]
  all_goals omega
theorem s_impl_Signed (n : Int) : Sim.Spec Try.prog 238 [tvI n] (rI (signed n)) := by
  refine spec_of_W hΓ hmix Try.func238 rfl (by decide) rfl ?_
  repeat' (
    (conv => whnf)
    first
    | refine Or.inl ?_
    | refine And.intro (Obl.out (?_ : Obl _)) ?_
    | refine ifB_intro (fun h => ?_) (fun h => ?_)
    | refine call_intro (s_impl_between _ _ _) (And.intro rfl (And.intro rfl (And.intro rfl trivial))) ?_
    | refine Exists.intro _ (And.intro rfl ?_)
    | ((with_reducible show _ = _); rfl))
  all_goals try (
    (with_reducible refine Obl.mk ?_)
    first
    | ((with_reducible show regOk _ _ = true); kernel_rfl)
    | ((with_reducible show eqTyOk _ _ = true); kernel_rfl)
    | rfl
    | exact trivial
    | ((repeat' (first | exact trivial | refine And.intro ?_ ?_)); done)
    | decide
    | (intro r hr; simp only [List.mem_cons, List.not_mem_nil, or_false] at hr; first | (subst hr; rfl) | (rcases hr with rfl | rfl <;> rfl) | (rcases hr with rfl | rfl | rfl <;> rfl) | (rcases hr with rfl | rfl | rfl | rfl <;> rfl))
    | (refine And.intro ?_ ?_ <;> simp only [List.length_map, List.length_append, List.length_cons, List.length_nil] <;> omega))
  · refine ⟨congrArg (Tr.int _) ?_⟩
    have h' : within n 0 1099511627775 = false := by simpa using h
    rw [signed, h']; rfl
  · rename_i h0
    refine ⟨congrArg (Tr.int _) ?_⟩
    have h' : within n 0 1099511627775 = true := by simpa using h0
    have hb := within_iff.1 h'
    rw [Int.tmod_eq_emod_of_nonneg hb.1] at h
    rw [signed_odd hb.1 hb.2, signed, if_pos h', if_pos (by simpa using h)]
  · rename_i h0
    refine ⟨congrArg (Tr.int _) ?_⟩
    have h' : within n 0 1099511627775 = true := by simpa using h0
    have hb := within_iff.1 h'
    rw [Int.tmod_eq_emod_of_nonneg hb.1] at h
    rw [signed_even hb.1 hb.2, signed, if_pos h', if_neg (by simpa using h)]
theorem s_spec_Signed (n : Int) : Sim.Spec Try.prog 158 [tvI n] (rI (signed n)) := by
  refine spec_of_W hΓ hmix Try.func158 rfl (by decide) rfl ?_
  repeat' (
    (conv => whnf)
    first
    | refine Or.inl ?_
    | refine And.intro (Obl.out (?_ : Obl _)) ?_
    | refine ifB_intro (fun h => ?_) (fun h => ?_)
    | refine call_intro (s_spec_l01In _ _ _) (And.intro rfl (And.intro rfl (And.intro rfl trivial))) ?_
    | refine Exists.intro _ (And.intro rfl ?_)
    | ((with_reducible show _ = _); rfl))
  all_goals try (
    (with_reducible refine Obl.mk ?_)
    first
    | ((with_reducible show regOk _ _ = true); kernel_rfl)
    | ((with_reducible show eqTyOk _ _ = true); kernel_rfl)
    | rfl
    | exact trivial
    | ((repeat' (first | exact trivial | refine And.intro ?_ ?_)); done)
    | decide
    | (intro r hr; simp only [List.mem_cons, List.not_mem_nil, or_false] at hr; first | (subst hr; rfl) | (rcases hr with rfl | rfl <;> rfl) | (rcases hr with rfl | rfl | rfl <;> rfl) | (rcases hr with rfl | rfl | rfl | rfl <;> rfl))
    | (refine And.intro ?_ ?_ <;> simp only [List.length_map, List.length_append, List.length_cons, List.length_nil] <;> omega))
  · refine ⟨congrArg (Tr.int _) ?_⟩
    have h' : within n 0 1099511627775 = false := by simpa using h
    rw [signed, h']; rfl
  · rename_i h0
    refine ⟨congrArg (Tr.int _) ?_⟩
    have h' : within n 0 1099511627775 = true := by simpa using h0
    have hb := within_iff.1 h'
    rw [show ((BitVec.ofInt IntKind.i64.bits n &&& BitVec.ofInt IntKind.i64.bits 1).toNat : Int) = n % 2 from and_low n 1 hb.1 (by omega) (by omega), IntWalk.i64_in _ (by omega)] at h
    rw [signed_odd hb.1 hb.2, signed, if_pos h', if_pos (by simpa using h)]
  · rename_i h0
    refine ⟨congrArg (Tr.int _) ?_⟩
    have h' : within n 0 1099511627775 = true := by simpa using h0
    have hb := within_iff.1 h'
    rw [show ((BitVec.ofInt IntKind.i64.bits n &&& BitVec.ofInt IntKind.i64.bits 1).toNat : Int) = n % 2 from and_low n 1 hb.1 (by omega) (by omega), IntWalk.i64_in _ (by omega)] at h
    rw [signed_even hb.1 hb.2, signed, if_pos h', if_neg (by simpa using h)]
end Go.Proofs.Ytflolafbblohnaa
