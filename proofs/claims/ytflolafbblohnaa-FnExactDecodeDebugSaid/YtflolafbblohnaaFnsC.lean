/- The contracts of DecodeVarint in both texts. -/
import Derived.Test.YtflolafbblohnaaFnsB
namespace Go.Proofs.Ytflolafbblohnaa
open Go.Sim
set_option maxRecDepth 100000
def decL (s : List UInt8) (p : Nat) : Nat → Nat → Nat → Option (Nat × Nat)
  | 0, _, _ => none
  | f + 1, k, n => match s[p + k]? with
    | none => none
    | some b => let n' := n + b.toNat % 128 * 128 ^ k
      if 127 < b.toNat then decL s p f (k + 1) n' else if enc n' = (s.drop p).take (k + 1) then some (n', k + 1) else none
def dec (s : List UInt8) (p : Int) : Option (Nat × Nat) := if p < 0 then none else decL s p.toNat 6 0 0
def decN (o : Option (Nat × Nat)) : Int := match o with | some x => x.1 | none => 0
def decK (o : Option (Nat × Nat)) : Int := match o with | some x => x.2 | none => 0
abbrev rDec (o : Option (Nat × Nat)) : Res := .tup [.c (.t (.int .i64 (decN o))), .c (.t (.int .i64 (decK o))), .c (.t (.bool o.isSome))]
theorem low_or (n x k : Nat) (hk : k < 6) (hn : n < 128 ^ k) (hx : x < 128) : n ||| x * 128 ^ k = n + x * 128 ^ k := by
  have e : (128 : Nat) ^ k = 2 ^ (7 * k) := by rw [show (128 : Nat) = 2 ^ 7 from rfl, ← Nat.pow_mul]
  rw [e] at hn ⊢
  have := Nat.two_pow_add_eq_or_of_lt hn x
  rw [Nat.mul_comm] at this
  rw [Nat.or_comm, ← this, Nat.add_comm]
theorem pow_le6 {k : Nat} (hk : k < 6) : 128 ^ k ≤ 34359738368 := by
  have : (128 : Nat) ^ k ≤ 128 ^ 5 := Nat.pow_le_pow_right (by omega) (by omega)
  omega
theorem step_lt {n x k : Nat} (hn : n < 128 ^ k) (hx : x < 128) : n + x * 128 ^ k < 128 ^ (k + 1) := by
  have : (x + 1) * 128 ^ k ≤ 128 * 128 ^ k := Nat.mul_le_mul_right _ (by omega)
  rw [Nat.pow_succ, Nat.mul_comm _ 128]
  rw [Nat.add_mul] at this
  omega
theorem gather0 {n x k : Nat} (hk : k < 6) (hn : n < 128 ^ k) (hx : x < 128) : IntKind.i64.wrap ((BitVec.ofInt IntKind.i64.bits (n : Int) ||| BitVec.ofInt IntKind.i64.bits (IntKind.i64.wrap ((x : Int) * 2 ^ min (IntKind.i64.wrap (7 * (k : Int))).toNat IntKind.i64.bits))).toNat : Int) = ((n + x * 128 ^ k : Nat) : Int) := by
  have hp := pow_le6 hk
  have hlt := step_lt hn hx
  have hp1 : 128 ^ (k + 1) ≤ 4398046511104 := by rw [Nat.pow_succ]; omega
  have e0 : IntKind.i64.wrap (7 * (k : Int)) = ((7 * k : Nat) : Int) := by rw [IntWalk.i64_in _ (by omega)]; omega
  have e1 : min (IntKind.i64.wrap (7 * (k : Int))).toNat IntKind.i64.bits = 7 * k := by
    rw [e0]
    show min (7 * k) 64 = 7 * k
    omega
  have e2 : (2 : Int) ^ (7 * k) = ((128 ^ k : Nat) : Int) := by rw [show (128 : Nat) = 2 ^ 7 from rfl, ← Nat.pow_mul]; simp
  have e3 : (x : Int) * ((128 ^ k : Nat) : Int) = ((x * 128 ^ k : Nat) : Int) := by simp
  rw [e1, e2, e3, IntWalk.i64_in ((x * 128 ^ k : Nat) : Int) (by omega)]
  have e4 : (BitVec.ofInt IntKind.i64.bits (n : Int) ||| BitVec.ofInt IntKind.i64.bits ((x * 128 ^ k : Nat) : Int)).toNat = n + x * 128 ^ k := by
    show (BitVec.ofInt 64 (n : Int) ||| BitVec.ofInt 64 ((x * 128 ^ k : Nat) : Int)).toNat = _
    rw [BitVec.toNat_or, BitVec.toNat_ofInt, BitVec.toNat_ofInt]
    have e5 : ((n : Int) % ((2 ^ 64 : Nat) : Int)).toNat = n := by omega
    have e6 : (((x * 128 ^ k : Nat) : Int) % ((2 ^ 64 : Nat) : Int)).toNat = x * 128 ^ k := by omega
    rw [e5, e6, low_or n x k hk hn hx]
  rw [e4, IntWalk.i64_in _ (by omega)]
theorem byte_and (b : UInt8) : IntKind.i64.wrap ((BitVec.ofInt IntKind.i64.bits (IntKind.i64.wrap (b.toNat : Int)) &&& BitVec.ofInt IntKind.i64.bits 127).toNat : Int) = ((b.toNat % 128 : Nat) : Int) := by
  have hb := b.toNat_lt
  rw [IntWalk.i64_in (b.toNat : Int) (by omega), show ((BitVec.ofInt IntKind.i64.bits (b.toNat : Int) &&& BitVec.ofInt IntKind.i64.bits 127).toNat : Int) = (b.toNat : Int) % 128 from and_low b.toNat 7 (by omega) (by omega) (by omega), IntWalk.i64_in _ (by omega)]
  omega
theorem byte_and8 (b : UInt8) : IntKind.i64.wrap (IntKind.u8.wrap ((BitVec.ofInt IntKind.u8.bits (b.toNat : Int) &&& BitVec.ofInt IntKind.u8.bits 127).toNat : Int)) = ((b.toNat % 128 : Nat) : Int) := by
  have hb := b.toNat_lt
  have e : (BitVec.ofInt IntKind.u8.bits (b.toNat : Int) &&& BitVec.ofInt IntKind.u8.bits 127).toNat = b.toNat % 128 := by
    show (BitVec.ofInt 8 (b.toNat : Int) &&& BitVec.ofInt 8 127).toNat = _
    rw [BitVec.toNat_and, BitVec.toNat_ofInt, BitVec.toNat_ofInt]
    have e1 : ((b.toNat : Int) % ((2 ^ 8 : Nat) : Int)).toNat = b.toNat := by omega
    have e2 : ((127 : Int) % ((2 ^ 8 : Nat) : Int)).toNat = 2 ^ 7 - 1 := by decide
    rw [e1, e2, Nat.and_two_pow_sub_one_eq_mod]
  rw [e, IntWalk.u8_in _ (by omega), IntWalk.i64_in _ (by omega)]
theorem decL_step {s : List UInt8} {p k n : Nat} {b : UInt8} (hk : k < 6) (hb : s[p + k]? = some b) : decL s p (6 - k) k n =
    if 127 < b.toNat then decL s p (6 - (k + 1)) (k + 1) (n + b.toNat % 128 * 128 ^ k) else if enc ((n + b.toNat % 128 * 128 ^ k : Nat) : Int) = (s.drop p).take (k + 1) then some (n + b.toNat % 128 * 128 ^ k, k + 1) else none := by
  rw [show 6 - k = (6 - (k + 1)) + 1 by omega, decL, hb]
theorem decL_none {s : List UInt8} {p k n : Nat} (h : k = 6 ∨ s.length ≤ p + k) : decL s p (6 - k) k n = none := by
  cases hf : 6 - k with
  | zero => rfl
  | succ f => rw [decL, List.getElem?_eq_none (by omega)]
abbrev DecIx (s : List UInt8) (p : Nat) := { q : Nat × Nat // q.1 ≤ 6 ∧ q.2 < 128 ^ q.1 ∧ decL s p (6 - q.1) q.1 q.2 = dec s p }
theorem s_impl_DecodeVarint (s : List UInt8) (p : Int) (hs : s.length ≤ 1048576) : Sim.Spec Try.prog 168 [tvS s, tvI p] (rDec (dec s p)) := by
  refine spec_of_W hΓ hmix Try.func168 rfl (by decide) rfl ?_
  repeat' (
    (conv => whnf)
    first
    | refine Or.inl ?_
    | refine And.intro (Obl.out (?_ : Obl _)) ?_
    | refine ifB_intro (fun h => ?_) (fun h => ?_)
    | refine call_intro (s_impl_between _ _ _) (And.intro rfl (And.intro rfl (And.intro rfl trivial))) ?_
    | refine call_intro (s_impl_EncodeVarint _) (And.intro rfl trivial) ?_
    | refine Exists.intro _ (And.intro rfl ?_)
    | ((with_reducible show _ = _); rfl))
  all_goals try (
    (with_reducible refine Obl.mk ?_)
    first
    | ((with_reducible show regOk _ _ = true); kernel_rfl)
    | ((with_reducible show eqTyOk _ _ = true); kernel_rfl)
    | rfl
    | exact trivial
    | ((repeat' (first | exact trivial | refine And.intro ?_ ?_)); done)
    | decide
    | (intro r hr; simp only [List.mem_cons, List.not_mem_nil, or_false] at hr; first | (subst hr; rfl) | (rcases hr with rfl | rfl <;> rfl) | (rcases hr with rfl | rfl | rfl <;> rfl) | (rcases hr with rfl | rfl | rfl | rfl <;> rfl))
    | (refine And.intro ?_ ?_ <;> simp only [List.length_map, List.length_append, List.length_cons, List.length_nil] <;> omega))
  rotate_right 1
  all_goals try
    refine ⟨?_⟩
    have hnone : dec s p = none := by
      have h' : ¬ (0 ≤ p ∧ p ≤ (s.length : Int) - 1) := by
        rw [← within_iff]
        rw [IntWalk.i64_in _ (by omega)] at h
        simpa using h
      rw [dec]
      split
      · rfl
      · exact decL_none (k := 0) (.inr (by omega))
    rw [hnone]; rfl
  have hw : within p 0 (IntKind.i64.wrap (s.length - 1)) = true := by simpa using h
  rw [IntWalk.i64_in _ (by omega)] at hw
  have hb := within_iff.1 hw
  obtain ⟨p, rfl⟩ := Int.eq_ofNat_of_zero_le hb.1
  clear h hw
  repeat' (
    (conv => whnf)
    first
    | refine Or.inl ?_
    | refine And.intro (Obl.out (?_ : Obl _)) ?_
    | refine ifB_intro (fun h => ?_) (fun h => ?_)
    | refine Exists.intro _ (And.intro rfl ?_)
    | ((with_reducible show _ = _); rfl))
  all_goals try (
    (with_reducible refine Obl.mk ?_)
    first
    | ((with_reducible show regOk _ _ = true); kernel_rfl)
    | ((with_reducible show eqTyOk _ _ = true); kernel_rfl)
    | rfl
    | exact trivial
    | ((repeat' (first | exact trivial | refine And.intro ?_ ?_)); done)
    | decide
    | (intro r hr; simp only [List.mem_cons, List.not_mem_nil, or_false] at hr; first | (subst hr; rfl) | (rcases hr with rfl | rfl <;> rfl) | (rcases hr with rfl | rfl | rfl <;> rfl) | (rcases hr with rfl | rfl | rfl | rfl <;> rfl))
    | (refine And.intro ?_ ?_ <;> simp only [List.length_map, List.length_append, List.length_cons, List.length_nil] <;> omega))
  conv => whnf
  refine ⟨DecIx s p, fun i => ⟨[(0, tS s), (1, tI .i64 (p : Int)), (8, tI .i64 (i.1.1 : Int)), (7, tI .i64 (i.1.2 : Int))], [], []⟩, fun i => 6 - i.1.1, ⟨(0, 0), by omega, by simp, by rw [dec, if_neg (by omega)]; simp⟩, ?_, ?_⟩
  · skip
    repeat' (
      (conv => whnf)
      first
      | refine Or.inl ?_
      | refine And.intro (Obl.out (?_ : Obl _)) ?_
      | refine ifB_intro (fun h => ?_) (fun h => ?_)
      | refine Exists.intro _ (And.intro rfl ?_)
      | ((with_reducible show _ = _); rfl))
    all_goals try (
      (with_reducible refine Obl.mk ?_)
      first
      | ((with_reducible show regOk _ _ = true); kernel_rfl)
      | ((with_reducible show eqTyOk _ _ = true); kernel_rfl)
      | rfl
      | exact trivial
      | ((repeat' (first | exact trivial | refine And.intro ?_ ?_)); done)
      | decide
      | (intro r hr; simp only [List.mem_cons, List.not_mem_nil, or_false] at hr; first | (subst hr; rfl) | (rcases hr with rfl | rfl <;> rfl) | (rcases hr with rfl | rfl | rfl <;> rfl) | (rcases hr with rfl | rfl | rfl | rfl <;> rfl))
      | (refine And.intro ?_ ?_ <;> simp only [List.length_map, List.length_append, List.length_cons, List.length_nil] <;> omega))
  intro ⟨⟨k, n⟩, hk, hn, hd⟩
  dsimp only at hk hn hd ⊢
  repeat' (
    (conv => whnf)
    first
    | refine Or.inl ?_
    | refine And.intro (Obl.out (?_ : Obl _)) ?_
    | refine ifB_intro (fun h => ?_) (fun h => ?_)
    | refine Exists.intro _ (And.intro rfl ?_)
    | ((with_reducible show _ = _); rfl))
  all_goals try (
    (with_reducible refine Obl.mk ?_)
    first
    | ((with_reducible show regOk _ _ = true); kernel_rfl)
    | ((with_reducible show eqTyOk _ _ = true); kernel_rfl)
    | rfl
    | exact trivial
    | ((repeat' (first | exact trivial | refine And.intro ?_ ?_)); done)
    | decide
    | (intro r hr; simp only [List.mem_cons, List.not_mem_nil, or_false] at hr; first | (subst hr; rfl) | (rcases hr with rfl | rfl <;> rfl) | (rcases hr with rfl | rfl | rfl <;> rfl) | (rcases hr with rfl | rfl | rfl | rfl <;> rfl))
    | (refine And.intro ?_ ?_ <;> simp only [List.length_map, List.length_append, List.length_cons, List.length_nil] <;> omega))
  · have hk6 : k < 6 := by
      rename_i h0
      have := of_decide_eq_true h0; omega
    have hpk : p + k < s.length := by
      have := of_decide_eq_true h
      rw [IntWalk.i64_in _ (by omega)] at this; omega
    clear h
    obtain ⟨b, hb'⟩ : ∃ b, s[p + k]? = some b := ⟨_, List.getElem?_eq_getElem hpk⟩
    conv => whnf
    refine ⟨p + k, b, by rw [IntWalk.i64_in _ (by omega)]; rfl, hb', ?_⟩
    repeat' (
      (conv => whnf)
      first
      | refine Or.inl ?_
      | refine And.intro (Obl.out (?_ : Obl _)) ?_
      | refine ifB_intro (fun h => ?_) (fun h => ?_)
      | refine call_intro (s_impl_EncodeVarint _) (And.intro rfl trivial) ?_
      | refine Exists.intro _ (And.intro rfl ?_)
      | ((with_reducible show _ = _); rfl))
    all_goals try (
      (with_reducible refine Obl.mk ?_)
      first
      | ((with_reducible show regOk _ _ = true); kernel_rfl)
      | ((with_reducible show eqTyOk _ _ = true); kernel_rfl)
      | rfl
      | exact trivial
      | ((repeat' (first | exact trivial | refine And.intro ?_ ?_)); done)
      | decide
      | (intro r hr; simp only [List.mem_cons, List.not_mem_nil, or_false] at hr; first | (subst hr; rfl) | (rcases hr with rfl | rfl <;> rfl) | (rcases hr with rfl | rfl | rfl <;> rfl) | (rcases hr with rfl | rfl | rfl | rfl <;> rfl))
      | (refine And.intro ?_ ?_ <;> simp only [List.length_map, List.length_append, List.length_cons, List.length_nil] <;> omega))
    · exact ⟨by rw [IntWalk.i64_in _ (by omega)]; omega⟩
    · have hbl := b.toNat_lt
      have hgt : 127 < b.toNat := by
        have := of_decide_eq_true h
        rw [IntWalk.i64_in _ (by omega)] at this; omega
      rw [byte_and, gather0 hk6 hn (by omega)]
      conv => whnf
      refine ⟨⟨(k + 1, n + b.toNat % 128 * 128 ^ k), by dsimp only; omega, step_lt hn (by omega), ?_⟩, ?_, by dsimp only; omega⟩
      · dsimp only
        rw [← hd, decL_step hk6 hb', if_pos hgt]
      · skip
        repeat' (
          (conv => whnf)
          first
          | refine Or.inl ?_
          | refine And.intro (Obl.out (?_ : Obl _)) ?_
          | refine ifB_intro (fun h => ?_) (fun h => ?_)
          | refine Exists.intro _ (And.intro rfl ?_)
          | ((with_reducible show _ = _); rfl))
        all_goals try (
          (with_reducible refine Obl.mk ?_)
          first
          | ((with_reducible show regOk _ _ = true); kernel_rfl)
          | ((with_reducible show eqTyOk _ _ = true); kernel_rfl)
          | rfl
          | exact trivial
          | ((repeat' (first | exact trivial | refine And.intro ?_ ?_)); done)
          | decide
          | (intro r hr; simp only [List.mem_cons, List.not_mem_nil, or_false] at hr; first | (subst hr; rfl) | (rcases hr with rfl | rfl <;> rfl) | (rcases hr with rfl | rfl | rfl <;> rfl) | (rcases hr with rfl | rfl | rfl | rfl <;> rfl))
          | (refine And.intro ?_ ?_ <;> simp only [List.length_map, List.length_append, List.length_cons, List.length_nil] <;> omega))
        exact ⟨by dsimp only; rw [IntWalk.i64_in _ (by omega)]; rfl⟩
    · have hle : ¬ 127 < b.toNat := by
        have := of_decide_eq_false h
        have hbl := b.toNat_lt
        rw [IntWalk.i64_in _ (by omega)] at this; omega
      rw [byte_and, gather0 hk6 hn (by omega)]
      have hstep := decL_step (n := n) hk6 hb'
      rw [if_neg hle, hd] at hstep
      conv => whnf
      refine ⟨p, p + k + 1, rfl, ?_, by omega, by omega, ?_⟩
      · show IntKind.i64.wrap (IntKind.i64.wrap (_ + _) + 1) = _
        rw [IntWalk.i64_in ((p : Int) + k) (by omega), IntWalk.i64_in _ (by omega)]
        rfl
      rw [List.drop_take, show p + k + 1 - p = k + 1 by omega]
      repeat' (
        (conv => whnf)
        first
        | refine Or.inl ?_
        | refine And.intro (Obl.out (?_ : Obl _)) ?_
        | refine ifB_intro (fun h => ?_) (fun h => ?_)
        | refine call_intro (s_impl_EncodeVarint _) (And.intro rfl trivial) ?_
        | refine Exists.intro _ (And.intro rfl ?_)
        | ((with_reducible show _ = _); rfl))
      all_goals try (
        (with_reducible refine Obl.mk ?_)
        first
        | ((with_reducible show regOk _ _ = true); kernel_rfl)
        | ((with_reducible show eqTyOk _ _ = true); kernel_rfl)
        | rfl
        | exact trivial
        | ((repeat' (first | exact trivial | refine And.intro ?_ ?_)); done)
        | decide
        | (intro r hr; simp only [List.mem_cons, List.not_mem_nil, or_false] at hr; first | (subst hr; rfl) | (rcases hr with rfl | rfl <;> rfl) | (rcases hr with rfl | rfl | rfl <;> rfl) | (rcases hr with rfl | rfl | rfl | rfl <;> rfl))
        | (refine And.intro ?_ ?_ <;> simp only [List.length_map, List.length_append, List.length_cons, List.length_nil] <;> omega))
      all_goals
        refine ⟨?_⟩
        first
        | (rw [if_neg (by simpa using h)] at hstep; rw [hstep]; rfl)
        | (rw [if_pos (by simpa using h)] at hstep; rw [hstep]; first | rfl | (rw [IntWalk.i64_in _ (by omega)]; rfl))
  all_goals
    refine ⟨?_⟩
    have hnone : dec s p = none := by
      rw [← hd]
      apply decL_none
      have h2 := of_decide_eq_false h
      try rw [IntWalk.i64_in _ (by omega)] at h2
      omega
    rw [hnone]; rfl
abbrev DecIy (s : List UInt8) (p : Nat) := { q : Nat × Nat // q.1 ≤ 6 ∧ q.2 < 128 ^ q.1 ∧ decL s p (6 - q.1) q.1 q.2 = dec s p ∧ (q.1 = 0 ∨ p < s.length) }
theorem s_spec_DecodeVarint (s : List UInt8) (p : Int) (hs : s.length ≤ 1048576) (hp : p ≤ 9223372036854775807) : Sim.Spec Try.prog 80 [tvS s, tvI p] (rDec (dec s p)) := by
  refine spec_of_W hΓ hmix Try.func80 rfl (by decide) rfl ?_
  repeat' (
    (conv => whnf)
    first
    | refine Or.inl ?_
    | refine And.intro (Obl.out (?_ : Obl _)) ?_
    | refine ifB_intro (fun h => ?_) (fun h => ?_)
    | refine Exists.intro _ (And.intro rfl ?_)
    | ((with_reducible show _ = _); rfl))
  all_goals try (
    (with_reducible refine Obl.mk ?_)
    first
    | ((with_reducible show regOk _ _ = true); kernel_rfl)
    | ((with_reducible show eqTyOk _ _ = true); kernel_rfl)
    | rfl
    | exact trivial
    | ((repeat' (first | exact trivial | refine And.intro ?_ ?_)); done)
    | decide
    | (intro r hr; simp only [List.mem_cons, List.not_mem_nil, or_false] at hr; first | (subst hr; rfl) | (rcases hr with rfl | rfl <;> rfl) | (rcases hr with rfl | rfl | rfl <;> rfl) | (rcases hr with rfl | rfl | rfl | rfl <;> rfl))
    | (refine And.intro ?_ ?_ <;> simp only [List.length_map, List.length_append, List.length_cons, List.length_nil] <;> omega))
  rotate_right 1
  all_goals try
    refine ⟨?_⟩
    have hnone : dec s p = none := by rw [dec, if_pos (of_decide_eq_true h)]
    rw [hnone]; rfl
  have hb := of_decide_eq_false h
  obtain ⟨p, rfl⟩ := Int.eq_ofNat_of_zero_le (show 0 ≤ p by omega)
  clear h
  repeat' (
    (conv => whnf)
    first
    | refine Or.inl ?_
    | refine And.intro (Obl.out (?_ : Obl _)) ?_
    | refine ifB_intro (fun h => ?_) (fun h => ?_)
    | refine Exists.intro _ (And.intro rfl ?_)
    | ((with_reducible show _ = _); rfl))
  all_goals try (
    (with_reducible refine Obl.mk ?_)
    first
    | ((with_reducible show regOk _ _ = true); kernel_rfl)
    | ((with_reducible show eqTyOk _ _ = true); kernel_rfl)
    | rfl
    | exact trivial
    | ((repeat' (first | exact trivial | refine And.intro ?_ ?_)); done)
    | decide
    | (intro r hr; simp only [List.mem_cons, List.not_mem_nil, or_false] at hr; first | (subst hr; rfl) | (rcases hr with rfl | rfl <;> rfl) | (rcases hr with rfl | rfl | rfl <;> rfl) | (rcases hr with rfl | rfl | rfl | rfl <;> rfl))
    | (refine And.intro ?_ ?_ <;> simp only [List.length_map, List.length_append, List.length_cons, List.length_nil] <;> omega))
  conv => whnf
  refine ⟨DecIy s p, fun i => ⟨[(0, tS s), (1, tI .i64 (p : Int)), (8, tI .i64 (i.1.1 : Int)), (7, tI .i64 (i.1.2 : Int))], [], []⟩, fun i => 6 - i.1.1, ⟨(0, 0), by omega, by simp, by rw [dec, if_neg (by omega)]; simp, .inl rfl⟩, ?_, ?_⟩
  · skip
    repeat' (
      (conv => whnf)
      first
      | refine Or.inl ?_
      | refine And.intro (Obl.out (?_ : Obl _)) ?_
      | refine ifB_intro (fun h => ?_) (fun h => ?_)
      | refine Exists.intro _ (And.intro rfl ?_)
      | ((with_reducible show _ = _); rfl))
    all_goals try (
      (with_reducible refine Obl.mk ?_)
      first
      | ((with_reducible show regOk _ _ = true); kernel_rfl)
      | ((with_reducible show eqTyOk _ _ = true); kernel_rfl)
      | rfl
      | exact trivial
      | ((repeat' (first | exact trivial | refine And.intro ?_ ?_)); done)
      | decide
      | (intro r hr; simp only [List.mem_cons, List.not_mem_nil, or_false] at hr; first | (subst hr; rfl) | (rcases hr with rfl | rfl <;> rfl) | (rcases hr with rfl | rfl | rfl <;> rfl) | (rcases hr with rfl | rfl | rfl | rfl <;> rfl))
      | (refine And.intro ?_ ?_ <;> simp only [List.length_map, List.length_append, List.length_cons, List.length_nil] <;> omega))
  intro ⟨⟨k, n⟩, hk, hn, hd, h0⟩
  dsimp only at hk hn hd h0 ⊢
  have hbound : (p : Int) + k ≤ 9223372036854775807 := by omega
  repeat' (
    (conv => whnf)
    first
    | refine Or.inl ?_
    | refine And.intro (Obl.out (?_ : Obl _)) ?_
    | refine ifB_intro (fun h => ?_) (fun h => ?_)
    | refine Exists.intro _ (And.intro rfl ?_)
    | ((with_reducible show _ = _); rfl))
  all_goals try (
    (with_reducible refine Obl.mk ?_)
    first
    | ((with_reducible show regOk _ _ = true); kernel_rfl)
    | ((with_reducible show eqTyOk _ _ = true); kernel_rfl)
    | rfl
    | exact trivial
    | ((repeat' (first | exact trivial | refine And.intro ?_ ?_)); done)
    | decide
    | (intro r hr; simp only [List.mem_cons, List.not_mem_nil, or_false] at hr; first | (subst hr; rfl) | (rcases hr with rfl | rfl <;> rfl) | (rcases hr with rfl | rfl | rfl <;> rfl) | (rcases hr with rfl | rfl | rfl | rfl <;> rfl))
    | (refine And.intro ?_ ?_ <;> simp only [List.length_map, List.length_append, List.length_cons, List.length_nil] <;> omega))
  · have hk6 : k < 6 := by
      rename_i h0
      have := of_decide_eq_true h0; omega
    have hpk : p + k < s.length := by
      have := of_decide_eq_true h
      rw [IntWalk.i64_in _ (by omega)] at this; omega
    clear h
    obtain ⟨b, hb'⟩ : ∃ b, s[p + k]? = some b := ⟨_, List.getElem?_eq_getElem hpk⟩
    conv => whnf
    refine ⟨p + k, b, by rw [IntWalk.i64_in _ (by omega)]; rfl, hb', ?_⟩
    repeat' (
      (conv => whnf)
      first
      | refine Or.inl ?_
      | refine And.intro (Obl.out (?_ : Obl _)) ?_
      | refine ifB_intro (fun h => ?_) (fun h => ?_)
      | refine Exists.intro _ (And.intro rfl ?_)
      | ((with_reducible show _ = _); rfl))
    all_goals try (
      (with_reducible refine Obl.mk ?_)
      first
      | ((with_reducible show regOk _ _ = true); kernel_rfl)
      | ((with_reducible show eqTyOk _ _ = true); kernel_rfl)
      | rfl
      | exact trivial
      | ((repeat' (first | exact trivial | refine And.intro ?_ ?_)); done)
      | decide
      | (intro r hr; simp only [List.mem_cons, List.not_mem_nil, or_false] at hr; first | (subst hr; rfl) | (rcases hr with rfl | rfl <;> rfl) | (rcases hr with rfl | rfl | rfl <;> rfl) | (rcases hr with rfl | rfl | rfl | rfl <;> rfl))
      | (refine And.intro ?_ ?_ <;> simp only [List.length_map, List.length_append, List.length_cons, List.length_nil] <;> omega))
    · exact ⟨by rw [IntWalk.i64_in _ (by omega)]; omega⟩
    rw [byte_and8, gather0 hk6 hn (by omega)]
    conv => whnf
    refine ⟨p + k, b, by rw [IntWalk.i64_in _ (by omega)]; rfl, hb', ?_⟩
    have hbl := b.toNat_lt
    have hstep := decL_step (n := n) hk6 hb'
    rw [hd] at hstep
    repeat' (
      (conv => whnf)
      first
      | refine Or.inl ?_
      | refine And.intro (Obl.out (?_ : Obl _)) ?_
      | refine ifB_intro (fun h => ?_) (fun h => ?_)
      | refine call_intro (s_spec_EncodeVarint _) (And.intro rfl trivial) ?_
      | refine Exists.intro _ (And.intro rfl ?_)
      | ((with_reducible show _ = _); rfl))
    all_goals try (
      (with_reducible refine Obl.mk ?_)
      first
      | ((with_reducible show regOk _ _ = true); kernel_rfl)
      | ((with_reducible show eqTyOk _ _ = true); kernel_rfl)
      | rfl
      | exact trivial
      | ((repeat' (first | exact trivial | refine And.intro ?_ ?_)); done)
      | decide
      | (intro r hr; simp only [List.mem_cons, List.not_mem_nil, or_false] at hr; first | (subst hr; rfl) | (rcases hr with rfl | rfl <;> rfl) | (rcases hr with rfl | rfl | rfl <;> rfl) | (rcases hr with rfl | rfl | rfl | rfl <;> rfl))
      | (refine And.intro ?_ ?_ <;> simp only [List.length_map, List.length_append, List.length_cons, List.length_nil] <;> omega))
    · have hle : ¬ 127 < b.toNat := by have := of_decide_eq_true h; omega
      rw [if_neg hle] at hstep
      conv => whnf
      refine ⟨p, p + k + 1, rfl, ?_, by omega, by omega, ?_⟩
      · show IntKind.i64.wrap (IntKind.i64.wrap (_ + _) + 1) = _
        rw [IntWalk.i64_in ((p : Int) + k) (by omega), IntWalk.i64_in _ (by omega)]
        rfl
      rw [List.drop_take, show p + k + 1 - p = k + 1 by omega]
      repeat' (
        (conv => whnf)
        first
        | refine Or.inl ?_
        | refine And.intro (Obl.out (?_ : Obl _)) ?_
        | refine ifB_intro (fun h => ?_) (fun h => ?_)
        | refine Exists.intro _ (And.intro rfl ?_)
        | ((with_reducible show _ = _); rfl))
      all_goals try (
        (with_reducible refine Obl.mk ?_)
        first
        | ((with_reducible show regOk _ _ = true); kernel_rfl)
        | ((with_reducible show eqTyOk _ _ = true); kernel_rfl)
        | rfl
        | exact trivial
        | ((repeat' (first | exact trivial | refine And.intro ?_ ?_)); done)
        | decide
        | (intro r hr; simp only [List.mem_cons, List.not_mem_nil, or_false] at hr; first | (subst hr; rfl) | (rcases hr with rfl | rfl <;> rfl) | (rcases hr with rfl | rfl | rfl <;> rfl) | (rcases hr with rfl | rfl | rfl | rfl <;> rfl))
        | (refine And.intro ?_ ?_ <;> simp only [List.length_map, List.length_append, List.length_cons, List.length_nil] <;> omega))
      all_goals
        refine ⟨?_⟩
        first
        | (rw [if_neg (by simpa using h)] at hstep; rw [hstep]; rfl)
        | (rw [if_pos (by simpa using h)] at hstep; rw [hstep]; first | rfl | (rw [IntWalk.i64_in _ (by omega)]; rfl))
    · have hgt : 127 < b.toNat := by have := of_decide_eq_false h; omega
      rw [if_pos hgt] at hstep
      conv => whnf
      refine ⟨⟨(k + 1, n + b.toNat % 128 * 128 ^ k), by dsimp only; omega, step_lt hn (by omega), hstep.symm, .inr (by omega)⟩, ?_, by dsimp only; omega⟩
      repeat' (
        (conv => whnf)
        first
        | refine Or.inl ?_
        | refine And.intro (Obl.out (?_ : Obl _)) ?_
        | refine ifB_intro (fun h => ?_) (fun h => ?_)
        | refine Exists.intro _ (And.intro rfl ?_)
        | ((with_reducible show _ = _); rfl))
      all_goals try (
        (with_reducible refine Obl.mk ?_)
        first
        | ((with_reducible show regOk _ _ = true); kernel_rfl)
        | ((with_reducible show eqTyOk _ _ = true); kernel_rfl)
        | rfl
        | exact trivial
        | ((repeat' (first | exact trivial | refine And.intro ?_ ?_)); done)
        | decide
        | (intro r hr; simp only [List.mem_cons, List.not_mem_nil, or_false] at hr; first | (subst hr; rfl) | (rcases hr with rfl | rfl <;> rfl) | (rcases hr with rfl | rfl | rfl <;> rfl) | (rcases hr with rfl | rfl | rfl | rfl <;> rfl))
        | (refine And.intro ?_ ?_ <;> simp only [List.length_map, List.length_append, List.length_cons, List.length_nil] <;> omega))
      exact ⟨by dsimp only; rw [IntWalk.i64_in _ (by omega)]; rfl⟩
  all_goals
    refine ⟨?_⟩
    have hnone : dec s p = none := by
      rw [← hd]
      apply decL_none
      have h2 := of_decide_eq_false h
      try rw [IntWalk.i64_in _ (by omega)] at h2
      omega
    rw [hnone]; rfl
end Go.Proofs.Ytflolafbblohnaa
