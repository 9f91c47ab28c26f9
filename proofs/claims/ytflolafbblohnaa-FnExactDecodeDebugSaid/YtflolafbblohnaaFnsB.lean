/- The contracts of EncodeVarint in both texts. -/
import Derived.Test.YtflolafbblohnaaFnsA
namespace Go.Proofs.Ytflolafbblohnaa
open Go.Sim
set_option maxRecDepth 100000
def encN (n : Nat) : List UInt8 := if n ≤ 127 then [UInt8.ofNat n] else UInt8.ofNat (n % 128 + 128) :: encN (n / 128)
  termination_by n
  decreasing_by omega
def enc (n : Int) : List UInt8 := if within n 0 1099511627775 then encN n.toNat else []
theorem encN_len : ∀ (k n : Nat), n < 128 ^ (k + 1) → (encN n).length ≤ k + 1
  | 0, n, h => by rw [encN, if_pos (by omega)]; simp
  | k + 1, n, h => by
    rw [encN]
    split
    · simp
    · have := encN_len k (n / 128) (by rw [Nat.pow_succ] at h; omega)
      simp only [List.length_cons]; omega
theorem enc_len (n : Int) : (enc n).length ≤ 6 := by
  unfold enc
  split
  · rename_i h
    have := within_iff.1 h
    exact encN_len 5 _ (by omega)
  · simp
theorem encN_pos (n : Nat) : 0 < (encN n).length := by
  rw [encN]; split <;> simp
theorem or_128 (x : Nat) (h : x < 128) : x ||| 128 = x + 128 := by
  have := Nat.two_pow_add_eq_or_of_lt (i := 7) (b := x) (by omega) 1
  rw [show (2 : Nat) ^ 7 * 1 = 128 from rfl] at this
  rw [Nat.or_comm]; omega
theorem byte_hi {n : Nat} (h : n ≤ 1099511627775) : IntKind.u8.wrap (IntKind.i64.wrap ((BitVec.ofInt IntKind.i64.bits (IntKind.i64.wrap ((BitVec.ofInt IntKind.i64.bits (n : Int) &&& BitVec.ofInt IntKind.i64.bits 127).toNat : Int)) ||| BitVec.ofInt IntKind.i64.bits 128).toNat : Int)) = ((UInt8.ofNat (n % 128 + 128)).toNat : Int) := by
  rw [show ((BitVec.ofInt IntKind.i64.bits (n : Int) &&& BitVec.ofInt IntKind.i64.bits 127).toNat : Int) = (n : Int) % 128 from and_low n 7 (by omega) (by omega) (by omega), IntWalk.i64_in ((n : Int) % 128) (by omega)]
  have e : (BitVec.ofInt IntKind.i64.bits ((n : Int) % 128) ||| BitVec.ofInt IntKind.i64.bits 128).toNat = n % 128 + 128 := by
    show (BitVec.ofInt 64 ((n : Int) % 128) ||| BitVec.ofInt 64 128).toNat = _
    rw [BitVec.toNat_or, BitVec.toNat_ofInt, BitVec.toNat_ofInt]
    have e1 : ((n : Int) % 128 % ((2 ^ 64 : Nat) : Int)).toNat = n % 128 := by omega
    have e2 : ((128 : Int) % ((2 ^ 64 : Nat) : Int)).toNat = 128 := by decide
    rw [e1, e2, or_128 _ (by omega)]
  rw [e, IntWalk.i64_in _ (by omega), IntWalk.u8_in _ (by omega)]
  simp
  omega
theorem byte_lo {n : Nat} (h : n ≤ 127) : IntKind.u8.wrap (n : Int) = ((UInt8.ofNat n).toNat : Int) := by
  rw [IntWalk.u8_in _ (by omega)]
  simp
  omega
theorem shr7 {n : Nat} (h : n ≤ 1099511627775) : (n : Int).fdiv (2 ^ (min (Int.toNat 7) IntKind.i64.bits)) = ((n / 128 : Nat) : Int) := by
  show (n : Int).fdiv 128 = _
  rw [Int.fdiv_eq_ediv_of_nonneg _ (by omega)]
  omega
abbrev EncIx (n : Nat) := { p : Nat × List UInt8 // p.2 ++ encN p.1 = encN n ∧ p.1 ≤ 1099511627775 ∧ (encN n).length ≤ 6 }
def encSt {n : Nat} (i : EncIx n) : St := ⟨[(0, tI .i64 (i.1.1 : Int)), (3, .r (.c (.own (3, 0, 0))))], [((3, 0, 0), some (.arr true 1 (i.1.2.map byteRow)))], [3]⟩
theorem s_impl_EncodeVarint (n : Int) : Sim.Spec Try.prog 178 [tvI n] (rS (enc n)) := by
  refine spec_of_W hΓ hmix Try.func178 rfl (by decide) rfl ?_
  repeat' (
    (conv => whnf)
    first
    | refine Or.inl ?_
    | refine And.intro (Obl.out (?_ : Obl _)) ?_
    | refine ifB_intro (fun h => ?_) (fun h => ?_)
    | refine call_intro (s_impl_between _ _ _) (And.intro rfl (And.intro rfl (And.intro rfl trivial))) ?_
    | refine Exists.intro _ (And.intro rfl ?_)
    | ((with_reducible show _ = _); rfl))
  all_goals try (
    (with_reducible refine Obl.mk ?_)
    first
    | ((with_reducible show regOk _ _ = true); kernel_rfl)
    | ((with_reducible show eqTyOk _ _ = true); kernel_rfl)
    | rfl
    | exact trivial
    | ((repeat' (first | exact trivial | refine And.intro ?_ ?_)); done)
    | decide
    | (intro r hr; simp only [List.mem_cons, List.not_mem_nil, or_false] at hr; first | (subst hr; rfl) | (rcases hr with rfl | rfl <;> rfl) | (rcases hr with rfl | rfl | rfl <;> rfl) | (rcases hr with rfl | rfl | rfl | rfl <;> rfl))
    | (refine And.intro ?_ ?_ <;> simp only [List.length_map, List.length_append, List.length_cons, List.length_nil] <;> omega))
  · refine ⟨congrArg Tr.str ?_⟩
    have h' : within n 0 1099511627775 = false := by simpa using h
    rw [enc, h']; rfl
  have h' : within n 0 1099511627775 = true := by simpa using h
  have hb := within_iff.1 h'
  obtain ⟨k, rfl⟩ := Int.eq_ofNat_of_zero_le hb.1
  have hlen := enc_len (k : Int)
  simp only [enc, h', if_true, Int.toNat_natCast] at hlen ⊢
  conv => whnf
  refine ⟨EncIx k, encSt, fun i => i.1.1, ⟨(k, []), by simp, by omega, hlen⟩, ?_, ?_⟩
  · skip
    repeat' (
      (conv => whnf)
      first
      | refine Or.inl ?_
      | refine And.intro (Obl.out (?_ : Obl _)) ?_
      | refine ifB_intro (fun h => ?_) (fun h => ?_)
      | refine Exists.intro _ (And.intro rfl ?_)
      | ((with_reducible show _ = _); rfl))
    all_goals try (
      (with_reducible refine Obl.mk ?_)
      first
      | ((with_reducible show regOk _ _ = true); kernel_rfl)
      | ((with_reducible show eqTyOk _ _ = true); kernel_rfl)
      | rfl
      | exact trivial
      | ((repeat' (first | exact trivial | refine And.intro ?_ ?_)); done)
      | decide
      | (intro r hr; simp only [List.mem_cons, List.not_mem_nil, or_false] at hr; first | (subst hr; rfl) | (rcases hr with rfl | rfl <;> rfl) | (rcases hr with rfl | rfl | rfl <;> rfl) | (rcases hr with rfl | rfl | rfl | rfl <;> rfl))
      | (refine And.intro ?_ ?_ <;> simp only [List.length_map, List.length_append, List.length_cons, List.length_nil] <;> omega))
  intro ⟨⟨m, bs⟩, hinv, hm, hl⟩
  dsimp only [encSt] at hinv hm ⊢
  have hbl : bs.length + 1 ≤ 6 := by
    have := congrArg List.length hinv
    have h2 := encN_pos m
    simp only [List.length_append] at this
    omega
  repeat' (
    (conv => whnf)
    first
    | refine Or.inl ?_
    | refine And.intro (Obl.out (?_ : Obl _)) ?_
    | refine ifB_intro (fun h => ?_) (fun h => ?_)
    | refine Exists.intro _ (And.intro rfl ?_)
    | ((with_reducible show _ = _); rfl))
  all_goals try (
    (with_reducible refine Obl.mk ?_)
    first
    | ((with_reducible show regOk _ _ = true); kernel_rfl)
    | ((with_reducible show eqTyOk _ _ = true); kernel_rfl)
    | rfl
    | exact trivial
    | ((repeat' (first | exact trivial | refine And.intro ?_ ?_)); done)
    | decide
    | (intro r hr; simp only [List.mem_cons, List.not_mem_nil, or_false] at hr; first | (subst hr; rfl) | (rcases hr with rfl | rfl <;> rfl) | (rcases hr with rfl | rfl | rfl <;> rfl) | (rcases hr with rfl | rfl | rfl | rfl <;> rfl))
    | (refine And.intro ?_ ?_ <;> simp only [List.length_map, List.length_append, List.length_cons, List.length_nil] <;> omega))
  all_goals try exact ⟨fun r hr => by simp at hr; subst hr; rfl⟩
  all_goals try exact ⟨⟨by simp; omega, by simp; omega⟩⟩
  · have hlt : 127 < m := by have := of_decide_eq_true h; omega
    conv => whnf
    refine ⟨⟨(m / 128, bs ++ [UInt8.ofNat (m % 128 + 128)]), ?_, ?_, hl⟩, ?_, ?_⟩
    · dsimp only
      rw [← hinv, encN.eq_def m, if_neg (by omega)]
      simp
    · dsimp only; omega
    · skip
      repeat' (
        (conv => whnf)
        first
        | refine Or.inl ?_
        | refine And.intro (Obl.out (?_ : Obl _)) ?_
        | refine ifB_intro (fun h => ?_) (fun h => ?_)
        | refine Exists.intro _ (And.intro rfl ?_)
        | ((with_reducible show _ = _); rfl))
      all_goals try (
        (with_reducible refine Obl.mk ?_)
        first
        | ((with_reducible show regOk _ _ = true); kernel_rfl)
        | ((with_reducible show eqTyOk _ _ = true); kernel_rfl)
        | rfl
        | exact trivial
        | ((repeat' (first | exact trivial | refine And.intro ?_ ?_)); done)
        | decide
        | (intro r hr; simp only [List.mem_cons, List.not_mem_nil, or_false] at hr; first | (subst hr; rfl) | (rcases hr with rfl | rfl <;> rfl) | (rcases hr with rfl | rfl | rfl <;> rfl) | (rcases hr with rfl | rfl | rfl | rfl <;> rfl))
        | (refine And.intro ?_ ?_ <;> simp only [List.length_map, List.length_append, List.length_cons, List.length_nil] <;> omega))
      · refine ⟨?_⟩
        dsimp only
        rw [shr7 hm]
      · refine ⟨?_⟩
        dsimp only
        rw [byte_hi hm]
        simp [byteRow]
    · dsimp only; omega
  · have hle : m ≤ 127 := by have := of_decide_eq_false h; omega
    conv => whnf
    refine ⟨bs ++ [UInt8.ofNat m], ?_, ?_⟩
    · rw [byte_lo hle]
      simp [byteRow]
    · skip
      repeat' (
        (conv => whnf)
        first
        | refine Or.inl ?_
        | refine And.intro (Obl.out (?_ : Obl _)) ?_
        | refine ifB_intro (fun h => ?_) (fun h => ?_)
        | refine Exists.intro _ (And.intro rfl ?_)
        | ((with_reducible show _ = _); rfl))
      all_goals try (
        (with_reducible refine Obl.mk ?_)
        first
        | ((with_reducible show regOk _ _ = true); kernel_rfl)
        | ((with_reducible show eqTyOk _ _ = true); kernel_rfl)
        | rfl
        | exact trivial
        | ((repeat' (first | exact trivial | refine And.intro ?_ ?_)); done)
        | decide
        | (intro r hr; simp only [List.mem_cons, List.not_mem_nil, or_false] at hr; first | (subst hr; rfl) | (rcases hr with rfl | rfl <;> rfl) | (rcases hr with rfl | rfl | rfl <;> rfl) | (rcases hr with rfl | rfl | rfl | rfl <;> rfl))
        | (refine And.intro ?_ ?_ <;> simp only [List.length_map, List.length_append, List.length_cons, List.length_nil] <;> omega))
      refine ⟨congrArg Tr.str ?_⟩
      rw [← hinv, encN.eq_def m, if_pos hle]
theorem s_spec_EncodeVarint (n : Int) : Sim.Spec Try.prog 157 [tvI n] (rS (enc n)) := by
  refine spec_of_W hΓ hmix Try.func157 rfl (by decide) rfl ?_
  repeat' (
    (conv => whnf)
    first
    | refine Or.inl ?_
    | refine And.intro (Obl.out (?_ : Obl _)) ?_
    | refine ifB_intro (fun h => ?_) (fun h => ?_)
    | refine call_intro (s_spec_l01In _ _ _) (And.intro rfl (And.intro rfl (And.intro rfl trivial))) ?_
    | refine Exists.intro _ (And.intro rfl ?_)
    | ((with_reducible show _ = _); rfl))
  all_goals try (
    (with_reducible refine Obl.mk ?_)
    first
    | ((with_reducible show regOk _ _ = true); kernel_rfl)
    | ((with_reducible show eqTyOk _ _ = true); kernel_rfl)
    | rfl
    | exact trivial
    | ((repeat' (first | exact trivial | refine And.intro ?_ ?_)); done)
    | decide
    | (intro r hr; simp only [List.mem_cons, List.not_mem_nil, or_false] at hr; first | (subst hr; rfl) | (rcases hr with rfl | rfl <;> rfl) | (rcases hr with rfl | rfl | rfl <;> rfl) | (rcases hr with rfl | rfl | rfl | rfl <;> rfl))
    | (refine And.intro ?_ ?_ <;> simp only [List.length_map, List.length_append, List.length_cons, List.length_nil] <;> omega))
  · refine ⟨congrArg Tr.str ?_⟩
    have h' : within n 0 1099511627775 = false := by simpa using h
    rw [enc, h']; rfl
  have h' : within n 0 1099511627775 = true := by simpa using h
  have hb := within_iff.1 h'
  obtain ⟨k, rfl⟩ := Int.eq_ofNat_of_zero_le hb.1
  have hlen := enc_len (k : Int)
  simp only [enc, h', if_true, Int.toNat_natCast] at hlen ⊢
  conv => whnf
  refine ⟨EncIx k, encSt, fun i => i.1.1, ⟨(k, []), by simp, by omega, hlen⟩, ?_, ?_⟩
  · skip
    repeat' (
      (conv => whnf)
      first
      | refine Or.inl ?_
      | refine And.intro (Obl.out (?_ : Obl _)) ?_
      | refine ifB_intro (fun h => ?_) (fun h => ?_)
      | refine Exists.intro _ (And.intro rfl ?_)
      | ((with_reducible show _ = _); rfl))
    all_goals try (
      (with_reducible refine Obl.mk ?_)
      first
      | ((with_reducible show regOk _ _ = true); kernel_rfl)
      | ((with_reducible show eqTyOk _ _ = true); kernel_rfl)
      | rfl
      | exact trivial
      | ((repeat' (first | exact trivial | refine And.intro ?_ ?_)); done)
      | decide
      | (intro r hr; simp only [List.mem_cons, List.not_mem_nil, or_false] at hr; first | (subst hr; rfl) | (rcases hr with rfl | rfl <;> rfl) | (rcases hr with rfl | rfl | rfl <;> rfl) | (rcases hr with rfl | rfl | rfl | rfl <;> rfl))
      | (refine And.intro ?_ ?_ <;> simp only [List.length_map, List.length_append, List.length_cons, List.length_nil] <;> omega))
  intro ⟨⟨m, bs⟩, hinv, hm, hl⟩
  dsimp only [encSt] at hinv hm ⊢
  have hbl : bs.length + 1 ≤ 6 := by
    have := congrArg List.length hinv
    have h2 := encN_pos m
    simp only [List.length_append] at this
    omega
  repeat' (
    (conv => whnf)
    first
    | refine Or.inl ?_
    | refine And.intro (Obl.out (?_ : Obl _)) ?_
    | refine ifB_intro (fun h => ?_) (fun h => ?_)
    | refine Exists.intro _ (And.intro rfl ?_)
    | ((with_reducible show _ = _); rfl))
  all_goals try (
    (with_reducible refine Obl.mk ?_)
    first
    | ((with_reducible show regOk _ _ = true); kernel_rfl)
    | ((with_reducible show eqTyOk _ _ = true); kernel_rfl)
    | rfl
    | exact trivial
    | ((repeat' (first | exact trivial | refine And.intro ?_ ?_)); done)
    | decide
    | (intro r hr; simp only [List.mem_cons, List.not_mem_nil, or_false] at hr; first | (subst hr; rfl) | (rcases hr with rfl | rfl <;> rfl) | (rcases hr with rfl | rfl | rfl <;> rfl) | (rcases hr with rfl | rfl | rfl | rfl <;> rfl))
    | (refine And.intro ?_ ?_ <;> simp only [List.length_map, List.length_append, List.length_cons, List.length_nil] <;> omega))
  all_goals try exact ⟨fun r hr => by simp at hr; subst hr; rfl⟩
  all_goals try exact ⟨⟨by simp; omega, by simp; omega⟩⟩
  · have hlt : 127 < m := by have := of_decide_eq_true h; omega
    conv => whnf
    refine ⟨⟨(m / 128, bs ++ [UInt8.ofNat (m % 128 + 128)]), ?_, ?_, hl⟩, ?_, ?_⟩
    · dsimp only
      rw [← hinv, encN.eq_def m, if_neg (by omega)]
      simp
    · dsimp only; omega
    · skip
      repeat' (
        (conv => whnf)
        first
        | refine Or.inl ?_
        | refine And.intro (Obl.out (?_ : Obl _)) ?_
        | refine ifB_intro (fun h => ?_) (fun h => ?_)
        | refine Exists.intro _ (And.intro rfl ?_)
        | ((with_reducible show _ = _); rfl))
      all_goals try (
        (with_reducible refine Obl.mk ?_)
        first
        | ((with_reducible show regOk _ _ = true); kernel_rfl)
        | ((with_reducible show eqTyOk _ _ = true); kernel_rfl)
        | rfl
        | exact trivial
        | ((repeat' (first | exact trivial | refine And.intro ?_ ?_)); done)
        | decide
        | (intro r hr; simp only [List.mem_cons, List.not_mem_nil, or_false] at hr; first | (subst hr; rfl) | (rcases hr with rfl | rfl <;> rfl) | (rcases hr with rfl | rfl | rfl <;> rfl) | (rcases hr with rfl | rfl | rfl | rfl <;> rfl))
        | (refine And.intro ?_ ?_ <;> simp only [List.length_map, List.length_append, List.length_cons, List.length_nil] <;> omega))
      · refine ⟨?_⟩
        dsimp only
        rw [shr7 hm]
      · refine ⟨?_⟩
        dsimp only
        rw [byte_hi hm]
        simp [byteRow]
    · dsimp only; omega
  · have hle : m ≤ 127 := by have := of_decide_eq_false h; omega
    conv => whnf
    refine ⟨bs ++ [UInt8.ofNat m], ?_, ?_⟩
    · rw [byte_lo hle]
      simp [byteRow]
    · skip
      repeat' (
        (conv => whnf)
        first
        | refine Or.inl ?_
        | refine And.intro (Obl.out (?_ : Obl _)) ?_
        | refine ifB_intro (fun h => ?_) (fun h => ?_)
        | refine Exists.intro _ (And.intro rfl ?_)
        | ((with_reducible show _ = _); rfl))
      all_goals try (
        (with_reducible refine Obl.mk ?_)
        first
        | ((with_reducible show regOk _ _ = true); kernel_rfl)
        | ((with_reducible show eqTyOk _ _ = true); kernel_rfl)
        | rfl
        | exact trivial
        | ((repeat' (first | exact trivial | refine And.intro ?_ ?_)); done)
        | decide
        | (intro r hr; simp only [List.mem_cons, List.not_mem_nil, or_false] at hr; first | (subst hr; rfl) | (rcases hr with rfl | rfl <;> rfl) | (rcases hr with rfl | rfl | rfl <;> rfl) | (rcases hr with rfl | rfl | rfl | rfl <;> rfl))
        | (refine And.intro ?_ ?_ <;> simp only [List.length_map, List.length_append, List.length_cons, List.length_nil] <;> omega))
      refine ⟨congrArg Tr.str ?_⟩
      rw [← hinv, encN.eq_def m, if_pos hle]
theorem s_impl_PackText (s : List UInt8) (hs : s.length ≤ 1048576) : Sim.Spec Try.prog 179 [tvS s] (rS (enc s.length ++ s)) := by
  refine spec_of_W hΓ hmix Try.func179 rfl (by decide) rfl ?_
  repeat' (
    (conv => whnf)
    first
    | refine Or.inl ?_
    | refine And.intro (Obl.out (?_ : Obl _)) ?_
    | refine ifB_intro (fun h => ?_) (fun h => ?_)
    | refine call_intro (s_impl_EncodeVarint _) (And.intro rfl trivial) ?_
    | refine Exists.intro _ (And.intro rfl ?_)
    | ((with_reducible show _ = _); rfl))
  all_goals try (
    (with_reducible refine Obl.mk ?_)
    first
    | ((with_reducible show regOk _ _ = true); kernel_rfl)
    | ((with_reducible show eqTyOk _ _ = true); kernel_rfl)
    | rfl
    | exact trivial
    | ((repeat' (first | exact trivial | refine And.intro ?_ ?_)); done)
    | decide
    | (intro r hr; simp only [List.mem_cons, List.not_mem_nil, or_false] at hr; first | (subst hr; rfl) | (rcases hr with rfl | rfl <;> rfl) | (rcases hr with rfl | rfl | rfl <;> rfl) | (rcases hr with rfl | rfl | rfl | rfl <;> rfl))
    | (refine And.intro ?_ ?_ <;> simp only [List.length_map, List.length_append, List.length_cons, List.length_nil] <;> omega))
  · exact ⟨by have := enc_len s.length; omega⟩
theorem s_spec_PackText (s : List UInt8) (hs : s.length ≤ 1048576) : Sim.Spec Try.prog 165 [tvS s] (rS (enc s.length ++ s)) := by
  refine spec_of_W hΓ hmix Try.func165 rfl (by decide) rfl ?_
  repeat' (
    (conv => whnf)
    first
    | refine Or.inl ?_
    | refine And.intro (Obl.out (?_ : Obl _)) ?_
    | refine ifB_intro (fun h => ?_) (fun h => ?_)
    | refine call_intro (s_spec_EncodeVarint _) (And.intro rfl trivial) ?_
    | refine Exists.intro _ (And.intro rfl ?_)
    | ((with_reducible show _ = _); rfl))
  all_goals try (
    (with_reducible refine Obl.mk ?_)
    first
    | ((with_reducible show regOk _ _ = true); kernel_rfl)
    | ((with_reducible show eqTyOk _ _ = true); kernel_rfl)
    | rfl
    | exact trivial
    | ((repeat' (first | exact trivial | refine And.intro ?_ ?_)); done)
    | decide
    | (intro r hr; simp only [List.mem_cons, List.not_mem_nil, or_false] at hr; first | (subst hr; rfl) | (rcases hr with rfl | rfl <;> rfl) | (rcases hr with rfl | rfl | rfl <;> rfl) | (rcases hr with rfl | rfl | rfl | rfl <;> rfl))
    | (refine And.intro ?_ ?_ <;> simp only [List.length_map, List.length_append, List.length_cons, List.length_nil] <;> omega))
  · exact ⟨by have := enc_len s.length; omega⟩
end Go.Proofs.Ytflolafbblohnaa
