/- DecodeOp, Disassemble in both texts. -/
import Derived.Test.YtehniaekfijmiaaFnsR
import Derived.Test.YtehniaekfijmiaaFnsU
namespace Go.Proofs.Ytehniaekfijmiaa
open Go.Sim
set_option maxRecDepth 100000
set_option maxHeartbeats 4000000
def byteAt (s : List UInt8) (p : Nat) : Nat := match s[p]? with | some b => b.toNat | none => 0
theorem byteAt_lt (s : List UInt8) (p : Nat) : byteAt s p < 256 := by
  unfold byteAt
  split
  · exact UInt8.toNat_lt _
  · omega
def argN (s : List UInt8) (p : Nat) : Nat → Nat
  | 0 => 0
  | k + 1 => argN s p k + byteAt s (p + k) * 256 ^ k
theorem argN_lt (s : List UInt8) (p : Nat) : ∀ k, argN s p k < 256 ^ k
  | 0 => by simp [argN]
  | k + 1 => by
    have h1 := argN_lt s p k
    have h2 := byteAt_lt s (p + k)
    rw [argN, Nat.pow_succ]
    have h3 := Nat.mul_le_mul_right (256 ^ k) (show byteAt s (p + k) ≤ 255 by omega)
    omega
def argV (c : Int) (m : Nat) : Int := if (opArg c).2 = true ∧ 2 ^ (8 * (opArg c).1.toNat - 1) ≤ m then (m : Int) - 2 ^ (8 * (opArg c).1.toNat) else m
def decodeOp (s : List UInt8) (p : Int) : Option (TOp × Nat) :=
  if 0 ≤ p ∧ p < s.length then
    (if opSize (byteAt s p.toNat) = 0 ∨ (s.length : Int) < p + opSize (byteAt s p.toNat) then none
     else some (⟨byteAt s p.toNat, argV (byteAt s p.toNat) (argN s (p.toNat + 1) (opArg (byteAt s p.toNat)).1.toNat)⟩, (opSize (byteAt s p.toNat)).toNat))
  else none
def opX (o : Option (TOp × Nat)) : TOp := match o with | some x => x.1 | none => ⟨0, 0⟩
def opZ (o : Option (TOp × Nat)) : Int := match o with | some x => x.2 | none => 0
abbrev rOp (o : Option (TOp × Nat)) : Res := .tup [.agg [.t (.int .i64 (opX o).fCode), .t (.int .i64 (opX o).fArg)], .c (.t (.int .i64 (opZ o))), .c (.t (.bool o.isSome))]
theorem opArg_cases (c : Int) : opArg c = (4, true) ∨ opArg c = (2, true) ∨ opArg c = (2, false) ∨ opArg c = (1, false) ∨ opArg c = (0, false) := by
  unfold opArg
  repeat' split
  all_goals simp
theorem or_256 {n x k : Nat} (hn : n < 256 ^ k) : n ||| x * 256 ^ k = n + x * 256 ^ k := by
  have e : (256 : Nat) ^ k = 2 ^ (8 * k) := by rw [show (256 : Nat) = 2 ^ 8 from rfl, ← Nat.pow_mul]
  have := Nat.two_pow_add_eq_or_of_lt (i := 8 * k) (b := n) (by rw [← e]; exact hn) x
  rw [e, Nat.mul_comm x, Nat.or_comm, ← this]
  omega
theorem shl_bytes {x k : Nat} (hk : k < 4) (hx : x < 256) : IntKind.i64.wrap ((x : Int) * 2 ^ (min (Int.toNat (IntKind.i64.wrap (8 * (k : Int)))) IntKind.i64.bits)) = ((x * 256 ^ k : Nat) : Int) := by
  rw [IntWalk.i64_in (8 * (k : Int)) (by omega)]
  have : k = 0 ∨ k = 1 ∨ k = 2 ∨ k = 3 := by omega
  rcases this with rfl | rfl | rfl | rfl
  · show IntKind.i64.wrap ((x : Int) * 1) = _
    rw [IntWalk.i64_in _ (by omega)]; simp
  · show IntKind.i64.wrap ((x : Int) * 256) = _
    rw [IntWalk.i64_in _ (by omega)]; simp
  · show IntKind.i64.wrap ((x : Int) * 65536) = _
    rw [IntWalk.i64_in _ (by omega)]; simp
  · show IntKind.i64.wrap ((x : Int) * 16777216) = _
    rw [IntWalk.i64_in _ (by omega)]; simp
theorem pow256_le {k : Nat} (hk : k < 4) : 256 ^ k ≤ 16777216 := by
  have := Nat.pow_le_pow_right (n := 256) (by omega) (show k ≤ 3 by omega)
  exact this
theorem or_bytes {n x k : Nat} (hk : k < 4) (hn : n < 256 ^ k) (hx : x < 256) : IntKind.i64.wrap ((BitVec.ofInt IntKind.i64.bits (n : Int) ||| BitVec.ofInt IntKind.i64.bits (IntKind.i64.wrap ((x : Int) * 2 ^ (min (Int.toNat (IntKind.i64.wrap (8 * (k : Int)))) IntKind.i64.bits)))).toNat : Int) = ((n + x * 256 ^ k : Nat) : Int) := by
  rw [shl_bytes hk hx]
  have h4 := pow256_le hk
  have h5 : x * 256 ^ k ≤ 255 * 16777216 := Nat.mul_le_mul (by omega) h4
  have e : (BitVec.ofInt IntKind.i64.bits (n : Int) ||| BitVec.ofInt IntKind.i64.bits ((x * 256 ^ k : Nat) : Int)).toNat = n + x * 256 ^ k := by
    show (BitVec.ofInt 64 (n : Int) ||| BitVec.ofInt 64 ((x * 256 ^ k : Nat) : Int)).toNat = _
    rw [BitVec.toNat_or, BitVec.toNat_ofInt, BitVec.toNat_ofInt]
    have e1 : ((n : Int) % ((2 ^ 64 : Nat) : Int)).toNat = n := by omega
    have e2 : (((x * 256 ^ k : Nat) : Int) % ((2 ^ 64 : Nat) : Int)).toNat = x * 256 ^ k := by omega
    rw [e1, e2, or_256 hn]
  rw [e, IntWalk.i64_in _ (by omega)]
theorem opArg_nat (c : Int) : ∃ n : Nat, (opArg c).1 = (n : Int) ∧ (n = 0 ∨ n = 1 ∨ n = 2 ∨ n = 4) ∧ ((opArg c).2 = true → n = 2 ∨ n = 4) := by
  rcases opArg_cases c with h | h | h | h | h <;> rw [h]
  · exact ⟨4, rfl, by omega, by omega⟩
  · exact ⟨2, rfl, by omega, by omega⟩
  · exact ⟨2, rfl, by omega, by simp⟩
  · exact ⟨1, rfl, by omega, by simp⟩
  · exact ⟨0, rfl, by omega, by simp⟩
theorem argV_yes {c : Int} {n m : Nat} (hn : (opArg c).1 = (n : Int)) (hg : (opArg c).2 = true) (h : 2 ^ (8 * n - 1) ≤ m) : argV c m = (m : Int) - 2 ^ (8 * n) := by
  rw [argV, hn, Int.toNat_natCast, if_pos ⟨hg, h⟩]
theorem argV_no {c : Int} {n m : Nat} (hn : (opArg c).1 = (n : Int)) (h : ¬ ((opArg c).2 = true ∧ 2 ^ (8 * n - 1) ≤ m)) : argV c m = (m : Int) := by
  rw [argV, hn, Int.toNat_natCast, if_neg h]
theorem s_impl_DecodeOp (s : List UInt8) (p : Int) (hs : s.length ≤ 1048576) (hp : p ≤ 9223372036854775807) : Sim.Spec Try.prog 136 [tvS s, tvI p] (rOp (decodeOp s p)) := by
  refine spec_of_W hΓ hmix Try.func136 rfl (by decide) rfl ?_
  have hb := s_impl_between p 0 (IntKind.i64.wrap (s.length - 1))
  have hw : IntKind.i64.wrap ((s.length : Int) - 1) = (s.length : Int) - 1 := IntWalk.i64_in _ (by omega)
  by_cases hin : 0 ≤ p ∧ p < s.length
  · obtain ⟨p, rfl⟩ := Int.eq_ofNat_of_zero_le hin.1
    have hbt : within (p : Int) 0 (IntKind.i64.wrap (s.length - 1)) = true := by rw [hw]; exact within_iff.2 ⟨by omega, by omega⟩
    rw [hbt] at hb
    obtain ⟨b, hbb⟩ := get_of_lt (l := s) (k := p) (by omega)
    have hba : byteAt s p = b.toNat := by rw [byteAt, hbb]
    have hz := s_impl_OpSize (b.toNat : Int)
    have ha := s_impl_argument (b.toNat : Int)
    have hzl := opSize_le (b.toNat : Int)
    have hlt := UInt8.toNat_lt b
    have hwb : IntKind.i64.wrap (b.toNat : Int) = b.toNat := IntWalk.i64_in _ (by omega)
    rw [decodeOp, if_pos hin, Int.toNat_natCast, hba]
    by_cases hno : opSize (b.toNat : Int) = 0 ∨ (s.length : Int) < (p : Int) + opSize (b.toNat : Int)
    · rw [if_pos hno]
      repeat' ((conv => whnf); first | refine Or.inl ?_ | refine And.intro (Obl.out (?_ : Obl _)) ?_ | refine ifB_intro (fun h => ?_) (fun h => ?_) | refine call_intro (hb) (And.intro rfl (And.intro rfl (And.intro rfl trivial))) ?_ | refine ⟨p, b, rfl, hbb, ?_⟩ | refine call_intro (hz) (And.intro (congrArg (Tr.int _) (by first | rfl | (simp (disch := omega) only [IntWalk.i64_in]; done) | ((try simp (disch := omega) only [IntWalk.i64_in]); omega))) trivial) ?_ | refine Exists.intro _ (And.intro rfl ?_) | ((with_reducible show _ = _); rfl))
      all_goals try ((with_reducible refine Obl.mk ?_); first | ((with_reducible show regOk _ _ = true); kernel_rfl) | ((with_reducible show eqTyOk _ _ = true); kernel_rfl) | rfl | exact trivial | ((repeat' (first | exact trivial | refine And.intro ?_ ?_)); done) | decide | ((repeat' (first | exact List.forall_mem_nil _ | refine List.forall_mem_cons.2 (And.intro rfl ?_))); done) | (refine And.intro ?_ ?_ <;> simp only [List.length_map, List.length_append, List.length_cons, List.length_nil] <;> omega))
      all_goals (exfalso; rename_i h0; have h1 : ¬ opSize (b.toNat : Int) = 0 := by simpa using h0
                 rw [IntWalk.i64_in _ (by omega)] at h; have h' := of_decide_eq_false h; omega)
    · rw [if_neg hno]
      repeat' ((conv => whnf); first | refine Or.inl ?_ | refine And.intro (Obl.out (?_ : Obl _)) ?_ | refine ifB_intro (fun h => ?_) (fun h => ?_) | refine call_intro (hb) (And.intro rfl (And.intro rfl (And.intro rfl trivial))) ?_ | refine ⟨p, b, rfl, hbb, ?_⟩ | refine call_intro (hz) (And.intro (congrArg (Tr.int _) (by first | rfl | (simp (disch := omega) only [IntWalk.i64_in]; done) | ((try simp (disch := omega) only [IntWalk.i64_in]); omega))) trivial) ?_ | refine call_intro (ha) (And.intro (congrArg (Tr.int _) (by first | rfl | (simp (disch := omega) only [IntWalk.i64_in]; done) | ((try simp (disch := omega) only [IntWalk.i64_in]); omega))) trivial) ?_ | refine Exists.intro _ (And.intro rfl ?_) | ((with_reducible show _ = _); rfl))
      all_goals try ((with_reducible refine Obl.mk ?_); first | ((with_reducible show regOk _ _ = true); kernel_rfl) | ((with_reducible show eqTyOk _ _ = true); kernel_rfl) | rfl | exact trivial | ((repeat' (first | exact trivial | refine And.intro ?_ ?_)); done) | decide | ((repeat' (first | exact List.forall_mem_nil _ | refine List.forall_mem_cons.2 (And.intro rfl ?_))); done) | (refine And.intro ?_ ?_ <;> simp only [List.length_map, List.length_append, List.length_cons, List.length_nil] <;> omega))
      all_goals try (exfalso; first | (have h1 : opSize (b.toNat : Int) = 0 := by simpa using h
                                       omega) | (rw [IntWalk.i64_in _ (by omega)] at h; have h' := of_decide_eq_true h; omega))
      obtain ⟨n, hn, hn4, hng⟩ := opArg_nat (b.toNat : Int)
      have hos : opSize (b.toNat : Int) = n + 1 := by
        have h1 : ¬ opSize (b.toNat : Int) = 0 := fun h => hno (Or.inl h)
        unfold opSize at h1 ⊢
        split at h1
        · rename_i hwi
          rw [if_pos hwi, hn]
        · omega
      have hav1 := fun m => argV_yes (m := m) hn
      have hav2 := fun m => argV_no (m := m) hn
      rw [hn, Int.toNat_natCast]
      generalize (opArg (b.toNat : Int)).2 = sg at *
      generalize hV : argV (b.toNat : Int) = V at *
      conv => whnf
      refine ⟨{ k : Nat // k ≤ n }, fun k => ⟨[(0, tS s), (1, tI .i64 (p : Int)), (4, .r (.c (.ptr (4, 0, 0) 0))), (7, .r (.c (.ptr (7, 0, 0) 0))), (8, tI .i64 (opSize (b.toNat : Int))), (9, tI .i64 (n : Int)), (10, tB sg), (11, tI .i64 (k.1 : Int))], [((7, 0, 0), some (.box [.t (.int .i64 b.toNat), .t (.int .i64 (argN s (p + 1) k.1 : Nat))])), ((4, 0, 0), some (.box [.t (.int .i64 0), .t (.int .i64 0)]))], [7, 4]⟩, fun k => n - k.1, ⟨0, by omega⟩, ?_, ?_⟩
      · skip
        repeat' ((conv => whnf); first | refine Or.inl ?_ | refine And.intro (Obl.out (?_ : Obl _)) ?_ | refine ifB_intro (fun h => ?_) (fun h => ?_) | refine Exists.intro _ (And.intro rfl ?_) | ((with_reducible show _ = _); rfl))
        all_goals try ((with_reducible refine Obl.mk ?_); first | ((with_reducible show regOk _ _ = true); kernel_rfl) | ((with_reducible show eqTyOk _ _ = true); kernel_rfl) | rfl | exact trivial | ((repeat' (first | exact trivial | refine And.intro ?_ ?_)); done) | decide | ((repeat' (first | exact List.forall_mem_nil _ | refine List.forall_mem_cons.2 (And.intro rfl ?_))); done) | (refine And.intro ?_ ?_ <;> simp only [List.length_map, List.length_append, List.length_cons, List.length_nil] <;> omega))
        all_goals exact ⟨by first | rfl | (rw [hwb]; done) | (rw [hn]; done)⟩
      intro ⟨k, hk⟩
      dsimp only
      by_cases hlt2 : k < n
      · obtain ⟨b2, hb2⟩ := get_of_lt (l := s) (k := p + 1 + k) (by omega)
        have hbb2 : byteAt s (p + 1 + k) = b2.toNat := by rw [byteAt, hb2]
        have hl2 := UInt8.toNat_lt b2
        have ha1 := argN_lt s (p + 1) k
        have hix : IntKind.i64.wrap (IntKind.i64.wrap ((p : Int) + 1) + k) = ((p + 1 + k : Nat) : Int) := by rw [IntWalk.i64_in ((p : Int) + 1) (by omega), IntWalk.i64_in _ (by omega)]; omega
        have hst : argN s (p + 1) (k + 1) = argN s (p + 1) k + b2.toNat * 256 ^ k := by rw [argN, hbb2]
        have hw2 : IntKind.i64.wrap (b2.toNat : Int) = b2.toNat := IntWalk.i64_in _ (by omega)
        repeat' ((conv => whnf); first | refine Or.inl ?_ | refine And.intro (Obl.out (?_ : Obl _)) ?_ | refine ifB_intro (fun h => ?_) (fun h => ?_) | refine ⟨(p + 1 + k), b2, hix, hb2, ?_⟩ | refine Exists.intro _ (And.intro rfl ?_) | ((with_reducible show _ = _); rfl))
        all_goals try ((with_reducible refine Obl.mk ?_); first | ((with_reducible show regOk _ _ = true); kernel_rfl) | ((with_reducible show eqTyOk _ _ = true); kernel_rfl) | rfl | exact trivial | ((repeat' (first | exact trivial | refine And.intro ?_ ?_)); done) | decide | ((repeat' (first | exact List.forall_mem_nil _ | refine List.forall_mem_cons.2 (And.intro rfl ?_))); done) | (refine And.intro ?_ ?_ <;> simp only [List.length_map, List.length_append, List.length_cons, List.length_nil] <;> omega))
        all_goals try (exfalso; simp only [decide_eq_false_iff_not, decide_eq_true_eq] at *; omega)
        all_goals try exact ⟨by rw [IntWalk.i64_in _ (by omega)]; omega⟩
        conv => whnf
        refine ⟨⟨k + 1, by omega⟩, ?_, by dsimp only; omega⟩
        repeat' ((conv => whnf); first | refine Or.inl ?_ | refine And.intro (Obl.out (?_ : Obl _)) ?_ | refine ifB_intro (fun h => ?_) (fun h => ?_) | refine Exists.intro _ (And.intro rfl ?_) | ((with_reducible show _ = _); rfl))
        all_goals try ((with_reducible refine Obl.mk ?_); first | ((with_reducible show regOk _ _ = true); kernel_rfl) | ((with_reducible show eqTyOk _ _ = true); kernel_rfl) | rfl | exact trivial | ((repeat' (first | exact trivial | refine And.intro ?_ ?_)); done) | decide | ((repeat' (first | exact List.forall_mem_nil _ | refine List.forall_mem_cons.2 (And.intro rfl ?_))); done) | (refine And.intro ?_ ?_ <;> simp only [List.length_map, List.length_append, List.length_cons, List.length_nil] <;> omega))
        · exact ⟨by dsimp only; rw [IntWalk.i64_in _ (by omega)]; rfl⟩
        · refine ⟨congrArg (Tr.int _) ?_⟩
          dsimp only
          rw [hst, hw2]
          exact or_bytes (by omega) ha1 hl2
      · have hkn : k = n := by omega
        subst hkn
        have ha1 := argN_lt s (p + 1) k
        cases sg with
        | false =>
          have hv := hav2 (argN s (p + 1) k) (by simp)
          repeat' ((conv => whnf); first | refine Or.inl ?_ | refine And.intro (Obl.out (?_ : Obl _)) ?_ | refine ifB_intro (fun h => ?_) (fun h => ?_) | refine Exists.intro _ (And.intro rfl ?_) | ((with_reducible show _ = _); rfl))
          all_goals try ((with_reducible refine Obl.mk ?_); first | ((with_reducible show regOk _ _ = true); kernel_rfl) | ((with_reducible show eqTyOk _ _ = true); kernel_rfl) | rfl | exact trivial | ((repeat' (first | exact trivial | refine And.intro ?_ ?_)); done) | decide | ((repeat' (first | exact List.forall_mem_nil _ | refine List.forall_mem_cons.2 (And.intro rfl ?_))); done) | (refine And.intro ?_ ?_ <;> simp only [List.length_map, List.length_append, List.length_cons, List.length_nil] <;> omega))
          all_goals try (exfalso; simp only [decide_eq_false_iff_not, decide_eq_true_eq] at *; omega)
          all_goals (refine ⟨congrArg (Tr.int _) ?_⟩; simp only [opX, opZ]; first | (rw [hv]; done) | omega)
        | true =>
          have hAB : ∃ A B : Nat, 2 ^ (8 * k - 1) = A ∧ 2 ^ (8 * k) = B ∧ B ≤ 4294967296 ∧ IntKind.i64.wrap (1 * 2 ^ (min (Int.toNat (IntKind.i64.wrap (IntKind.i64.wrap (8 * (k : Int)) - 1))) IntKind.i64.bits)) = (A : Int) ∧
              IntKind.i64.wrap (1 * 2 ^ (min (Int.toNat (IntKind.i64.wrap (8 * (k : Int)))) IntKind.i64.bits)) = (B : Int) ∧ 256 ^ k = B := by
            rcases hng rfl with h | h <;> rw [h]
            · exact ⟨32768, 65536, by decide, by decide, by decide, by decide, by decide, by decide⟩
            · exact ⟨2147483648, 4294967296, by decide, by decide, by decide, by decide, by decide, by decide⟩
          obtain ⟨A, B, hA, hB, hBl, hc1, hc2, h256⟩ := hAB
          rw [h256] at ha1
          have hB' : (2 : Int) ^ (8 * k) = (B : Int) := by rw [← hB]; simp
          rw [hA, hB'] at hav1
          rw [hA] at hav2
          have hsh1 : 0 ≤ IntKind.i64.wrap (IntKind.i64.wrap (8 * (k : Int)) - 1) := by
            rcases hng rfl with h | h <;> rw [h] <;> decide
          have hsh2 : 0 ≤ IntKind.i64.wrap (8 * (k : Int)) := by
            rcases hng rfl with h | h <;> rw [h] <;> decide
          by_cases hge : A ≤ argN s (p + 1) k
          · have hv := hav1 _ rfl hge
            have hws : IntKind.i64.wrap ((argN s (p + 1) k : Int) - (B : Int)) = (argN s (p + 1) k : Int) - B := IntWalk.i64_in _ (by omega)
            repeat' ((conv => whnf); first | refine Or.inl ?_ | refine And.intro (Obl.out (?_ : Obl _)) ?_ | refine ifB_intro (fun h => ?_) (fun h => ?_) | refine Exists.intro _ (And.intro rfl ?_) | ((with_reducible show _ = _); rfl))
            all_goals try ((with_reducible refine Obl.mk ?_); first | ((with_reducible show regOk _ _ = true); kernel_rfl) | ((with_reducible show eqTyOk _ _ = true); kernel_rfl) | rfl | exact trivial | ((repeat' (first | exact trivial | refine And.intro ?_ ?_)); done) | decide | ((repeat' (first | exact List.forall_mem_nil _ | refine List.forall_mem_cons.2 (And.intro rfl ?_))); done) | (refine And.intro ?_ ?_ <;> simp only [List.length_map, List.length_append, List.length_cons, List.length_nil] <;> omega))
            all_goals try (exfalso; simp only [decide_eq_false_iff_not, decide_eq_true_eq] at *; omega)
            all_goals try (exfalso; rw [hc1] at h; have h' := of_decide_eq_false h; omega)
            all_goals first
              | exact ⟨hsh1⟩
              | exact ⟨hsh2⟩
              | (refine ⟨congrArg (Tr.int _) ?_⟩; simp only [opX, opZ]; first | (rw [hc2, hws, hv]; done) | omega)
          · have hv := hav2 _ (fun h => hge h.2)
            repeat' ((conv => whnf); first | refine Or.inl ?_ | refine And.intro (Obl.out (?_ : Obl _)) ?_ | refine ifB_intro (fun h => ?_) (fun h => ?_) | refine Exists.intro _ (And.intro rfl ?_) | ((with_reducible show _ = _); rfl))
            all_goals try ((with_reducible refine Obl.mk ?_); first | ((with_reducible show regOk _ _ = true); kernel_rfl) | ((with_reducible show eqTyOk _ _ = true); kernel_rfl) | rfl | exact trivial | ((repeat' (first | exact trivial | refine And.intro ?_ ?_)); done) | decide | ((repeat' (first | exact List.forall_mem_nil _ | refine List.forall_mem_cons.2 (And.intro rfl ?_))); done) | (refine And.intro ?_ ?_ <;> simp only [List.length_map, List.length_append, List.length_cons, List.length_nil] <;> omega))
            all_goals try (exfalso; simp only [decide_eq_false_iff_not, decide_eq_true_eq] at *; omega)
            all_goals try (exfalso; rw [hc1] at h; have h' := of_decide_eq_true h; omega)
            all_goals first
              | exact ⟨hsh1⟩
              | exact ⟨hsh2⟩
              | (refine ⟨congrArg (Tr.int _) ?_⟩; simp only [opX, opZ]; first | (rw [hv]; done) | omega)
  · rw [decodeOp, if_neg hin]
    have hbt : within p 0 (IntKind.i64.wrap (s.length - 1)) = false := by
      rw [hw]
      cases h : within p 0 ((s.length : Int) - 1) with
      | false => rfl
      | true => exact absurd (within_iff.1 h) (by omega)
    rw [hbt] at hb
    repeat' ((conv => whnf); first | refine Or.inl ?_ | refine And.intro (Obl.out (?_ : Obl _)) ?_ | refine ifB_intro (fun h => ?_) (fun h => ?_) | refine call_intro (hb) (And.intro rfl (And.intro rfl (And.intro rfl trivial))) ?_ | refine Exists.intro _ (And.intro rfl ?_) | ((with_reducible show _ = _); rfl))
    all_goals try ((with_reducible refine Obl.mk ?_); first | ((with_reducible show regOk _ _ = true); kernel_rfl) | ((with_reducible show eqTyOk _ _ = true); kernel_rfl) | rfl | exact trivial | ((repeat' (first | exact trivial | refine And.intro ?_ ?_)); done) | decide | ((repeat' (first | exact List.forall_mem_nil _ | refine List.forall_mem_cons.2 (And.intro rfl ?_))); done) | (refine And.intro ?_ ?_ <;> simp only [List.length_map, List.length_append, List.length_cons, List.length_nil] <;> omega))
theorem s_spec_DecodeOp (s : List UInt8) (p : Int) (hs : s.length ≤ 1048576) (hp : p ≤ 9223372036854775807) : Sim.Spec Try.prog 187 [tvS s, tvI p] (rOp (decodeOp s p)) := by
  refine spec_of_W hΓ hmix Try.func187 rfl (by decide) rfl ?_
  have hw : IntKind.i64.wrap ((s.length : Int) - 1) = (s.length : Int) - 1 := IntWalk.i64_in _ (by omega)
  by_cases hin : 0 ≤ p ∧ p < s.length
  · obtain ⟨p, rfl⟩ := Int.eq_ofNat_of_zero_le hin.1
    obtain ⟨b, hbb⟩ := get_of_lt (l := s) (k := p) (by omega)
    have hba : byteAt s p = b.toNat := by rw [byteAt, hbb]
    have hz := s_spec_OpSize (b.toNat : Int)
    have ha := s_spec_l07Width (b.toNat : Int)
    have hzl := opSize_le (b.toNat : Int)
    have hlt := UInt8.toNat_lt b
    have hwb : IntKind.i64.wrap (b.toNat : Int) = b.toNat := IntWalk.i64_in _ (by omega)
    rw [decodeOp, if_pos hin, Int.toNat_natCast, hba]
    by_cases hno : opSize (b.toNat : Int) = 0 ∨ (s.length : Int) < (p : Int) + opSize (b.toNat : Int)
    · rw [if_pos hno]
      have hw6 : IntKind.i64.wrap (IntKind.i64.wrap ((p : Int) + 1) + (opArg (b.toNat : Int)).1) = (p : Int) + 1 + (opArg (b.toNat : Int)).1 := by
        have := opArg_le (b.toNat : Int)
        rw [IntWalk.i64_in ((p : Int) + 1) (by omega), IntWalk.i64_in _ (by omega)]
      have hos0 : ¬ opSize (b.toNat : Int) = 0 → opSize (b.toNat : Int) = (opArg (b.toNat : Int)).1 + 1 := fun h => by
        unfold opSize at h ⊢
        split at h
        · rename_i hwi; rw [if_pos hwi]
        · omega
      repeat' ((conv => whnf); first | refine Or.inl ?_ | refine And.intro (Obl.out (?_ : Obl _)) ?_ | refine ifB_intro (fun h => ?_) (fun h => ?_) | refine ⟨p, b, rfl, hbb, ?_⟩ | refine call_intro (hz) (And.intro (congrArg (Tr.int _) (by first | rfl | (simp (disch := omega) only [IntWalk.i64_in]; done) | ((try simp (disch := omega) only [IntWalk.i64_in]); omega))) trivial) ?_ | refine call_intro (ha) (And.intro (congrArg (Tr.int _) (by first | rfl | (simp (disch := omega) only [IntWalk.i64_in]; done) | ((try simp (disch := omega) only [IntWalk.i64_in]); omega))) trivial) ?_ | refine Exists.intro _ (And.intro rfl ?_) | ((with_reducible show _ = _); rfl))
      all_goals try ((with_reducible refine Obl.mk ?_); first | ((with_reducible show regOk _ _ = true); kernel_rfl) | ((with_reducible show eqTyOk _ _ = true); kernel_rfl) | rfl | exact trivial | ((repeat' (first | exact trivial | refine And.intro ?_ ?_)); done) | decide | ((repeat' (first | exact List.forall_mem_nil _ | refine List.forall_mem_cons.2 (And.intro rfl ?_))); done) | (refine And.intro ?_ ?_ <;> simp only [List.length_map, List.length_append, List.length_cons, List.length_nil] <;> omega))
      all_goals try (exfalso; first | (have h' := of_decide_eq_true h; omega))
      all_goals (exfalso; rename_i h0; have h1 : ¬ opSize (b.toNat : Int) = 0 := by simpa using h0
                 rw [hw6] at h; have h' := of_decide_eq_false h; have := hos0 h1; omega)
    · rw [if_neg hno]
      have hw6 : IntKind.i64.wrap (IntKind.i64.wrap ((p : Int) + 1) + (opArg (b.toNat : Int)).1) = (p : Int) + 1 + (opArg (b.toNat : Int)).1 := by
        have := opArg_le (b.toNat : Int)
        rw [IntWalk.i64_in ((p : Int) + 1) (by omega), IntWalk.i64_in _ (by omega)]
      have hos0 : opSize (b.toNat : Int) = (opArg (b.toNat : Int)).1 + 1 := by
        have h : ¬ opSize (b.toNat : Int) = 0 := fun h => hno (Or.inl h)
        unfold opSize at h ⊢
        split at h
        · rename_i hwi; rw [if_pos hwi]
        · omega
      repeat' ((conv => whnf); first | refine Or.inl ?_ | refine And.intro (Obl.out (?_ : Obl _)) ?_ | refine ifB_intro (fun h => ?_) (fun h => ?_) | refine ⟨p, b, rfl, hbb, ?_⟩ | refine call_intro (hz) (And.intro (congrArg (Tr.int _) (by first | rfl | (simp (disch := omega) only [IntWalk.i64_in]; done) | ((try simp (disch := omega) only [IntWalk.i64_in]); omega))) trivial) ?_ | refine call_intro (ha) (And.intro (congrArg (Tr.int _) (by first | rfl | (simp (disch := omega) only [IntWalk.i64_in]; done) | ((try simp (disch := omega) only [IntWalk.i64_in]); omega))) trivial) ?_ | refine Exists.intro _ (And.intro rfl ?_) | ((with_reducible show _ = _); rfl))
      all_goals try ((with_reducible refine Obl.mk ?_); first | ((with_reducible show regOk _ _ = true); kernel_rfl) | ((with_reducible show eqTyOk _ _ = true); kernel_rfl) | rfl | exact trivial | ((repeat' (first | exact trivial | refine And.intro ?_ ?_)); done) | decide | ((repeat' (first | exact List.forall_mem_nil _ | refine List.forall_mem_cons.2 (And.intro rfl ?_))); done) | (refine And.intro ?_ ?_ <;> simp only [List.length_map, List.length_append, List.length_cons, List.length_nil] <;> omega))
      all_goals try (exfalso; first | (have h1 : opSize (b.toNat : Int) = 0 := by simpa using h
                                       omega) | (rw [hw6] at h; have h' := of_decide_eq_true h; omega) | (have h' := of_decide_eq_true h; omega))
      clear hw6
      obtain ⟨n, hn, hn4, hng⟩ := opArg_nat (b.toNat : Int)
      have hos : opSize (b.toNat : Int) = n + 1 := by
        have h1 : ¬ opSize (b.toNat : Int) = 0 := fun h => hno (Or.inl h)
        unfold opSize at h1 ⊢
        split at h1
        · rename_i hwi
          rw [if_pos hwi, hn]
        · omega
      have hav1 := fun m => argV_yes (m := m) hn
      have hav2 := fun m => argV_no (m := m) hn
      rw [hn, Int.toNat_natCast]
      generalize (opArg (b.toNat : Int)).2 = sg at *
      generalize hV : argV (b.toNat : Int) = V at *
      conv => whnf
      refine ⟨{ k : Nat // k ≤ n }, fun k => ⟨[(0, tS s), (1, tI .i64 (p : Int)), (4, .r (.c (.ptr (4, 0, 0) 0))), (7, .r (.c (.ptr (7, 0, 0) 0))), (8, tI .i64 (n : Int)), (9, tB sg), (10, tI .i64 (k.1 : Int))], [((7, 0, 0), some (.box [.t (.int .i64 b.toNat), .t (.int .i64 (argN s (p + 1) k.1 : Nat))])), ((4, 0, 0), some (.box [.t (.int .i64 0), .t (.int .i64 0)]))], [7, 4]⟩, fun k => n - k.1, ⟨0, by omega⟩, ?_, ?_⟩
      · skip
        repeat' ((conv => whnf); first | refine Or.inl ?_ | refine And.intro (Obl.out (?_ : Obl _)) ?_ | refine ifB_intro (fun h => ?_) (fun h => ?_) | refine Exists.intro _ (And.intro rfl ?_) | ((with_reducible show _ = _); rfl))
        all_goals try ((with_reducible refine Obl.mk ?_); first | ((with_reducible show regOk _ _ = true); kernel_rfl) | ((with_reducible show eqTyOk _ _ = true); kernel_rfl) | rfl | exact trivial | ((repeat' (first | exact trivial | refine And.intro ?_ ?_)); done) | decide | ((repeat' (first | exact List.forall_mem_nil _ | refine List.forall_mem_cons.2 (And.intro rfl ?_))); done) | (refine And.intro ?_ ?_ <;> simp only [List.length_map, List.length_append, List.length_cons, List.length_nil] <;> omega))
        all_goals exact ⟨by first | rfl | (rw [hwb]; done) | (rw [hn]; done)⟩
      intro ⟨k, hk⟩
      dsimp only
      by_cases hlt2 : k < n
      · obtain ⟨b2, hb2⟩ := get_of_lt (l := s) (k := p + 1 + k) (by omega)
        have hbb2 : byteAt s (p + 1 + k) = b2.toNat := by rw [byteAt, hb2]
        have hl2 := UInt8.toNat_lt b2
        have ha1 := argN_lt s (p + 1) k
        have hix : IntKind.i64.wrap (IntKind.i64.wrap ((p : Int) + 1) + k) = ((p + 1 + k : Nat) : Int) := by rw [IntWalk.i64_in ((p : Int) + 1) (by omega), IntWalk.i64_in _ (by omega)]; omega
        have hst : argN s (p + 1) (k + 1) = argN s (p + 1) k + b2.toNat * 256 ^ k := by rw [argN, hbb2]
        have hw2 : IntKind.i64.wrap (b2.toNat : Int) = b2.toNat := IntWalk.i64_in _ (by omega)
        repeat' ((conv => whnf); first | refine Or.inl ?_ | refine And.intro (Obl.out (?_ : Obl _)) ?_ | refine ifB_intro (fun h => ?_) (fun h => ?_) | refine ⟨(p + 1 + k), b2, hix, hb2, ?_⟩ | refine Exists.intro _ (And.intro rfl ?_) | ((with_reducible show _ = _); rfl))
        all_goals try ((with_reducible refine Obl.mk ?_); first | ((with_reducible show regOk _ _ = true); kernel_rfl) | ((with_reducible show eqTyOk _ _ = true); kernel_rfl) | rfl | exact trivial | ((repeat' (first | exact trivial | refine And.intro ?_ ?_)); done) | decide | ((repeat' (first | exact List.forall_mem_nil _ | refine List.forall_mem_cons.2 (And.intro rfl ?_))); done) | (refine And.intro ?_ ?_ <;> simp only [List.length_map, List.length_append, List.length_cons, List.length_nil] <;> omega))
        all_goals try (exfalso; simp only [decide_eq_false_iff_not, decide_eq_true_eq] at *; omega)
        all_goals try exact ⟨by rw [IntWalk.i64_in _ (by omega)]; omega⟩
        conv => whnf
        refine ⟨⟨k + 1, by omega⟩, ?_, by dsimp only; omega⟩
        repeat' ((conv => whnf); first | refine Or.inl ?_ | refine And.intro (Obl.out (?_ : Obl _)) ?_ | refine ifB_intro (fun h => ?_) (fun h => ?_) | refine Exists.intro _ (And.intro rfl ?_) | ((with_reducible show _ = _); rfl))
        all_goals try ((with_reducible refine Obl.mk ?_); first | ((with_reducible show regOk _ _ = true); kernel_rfl) | ((with_reducible show eqTyOk _ _ = true); kernel_rfl) | rfl | exact trivial | ((repeat' (first | exact trivial | refine And.intro ?_ ?_)); done) | decide | ((repeat' (first | exact List.forall_mem_nil _ | refine List.forall_mem_cons.2 (And.intro rfl ?_))); done) | (refine And.intro ?_ ?_ <;> simp only [List.length_map, List.length_append, List.length_cons, List.length_nil] <;> omega))
        · exact ⟨by dsimp only; rw [IntWalk.i64_in _ (by omega)]; rfl⟩
        · refine ⟨congrArg (Tr.int _) ?_⟩
          dsimp only
          rw [hst, hw2]
          rw [shl_bytes (by omega) hl2]
          have h4 := pow256_le (show k < 4 by omega)
          have h5 : b2.toNat * 256 ^ k ≤ 255 * 16777216 := Nat.mul_le_mul (by omega) h4
          rw [IntWalk.i64_in _ (by omega)]
          simp
      · have hkn : k = n := by omega
        subst hkn
        have ha1 := argN_lt s (p + 1) k
        have hwz : IntKind.i64.wrap (1 + (k : Int)) = 1 + k := IntWalk.i64_in _ (by omega)
        cases sg with
        | false =>
          have hv := hav2 (argN s (p + 1) k) (by simp)
          repeat' ((conv => whnf); first | refine Or.inl ?_ | refine And.intro (Obl.out (?_ : Obl _)) ?_ | refine ifB_intro (fun h => ?_) (fun h => ?_) | refine Exists.intro _ (And.intro rfl ?_) | ((with_reducible show _ = _); rfl))
          all_goals try ((with_reducible refine Obl.mk ?_); first | ((with_reducible show regOk _ _ = true); kernel_rfl) | ((with_reducible show eqTyOk _ _ = true); kernel_rfl) | rfl | exact trivial | ((repeat' (first | exact trivial | refine And.intro ?_ ?_)); done) | decide | ((repeat' (first | exact List.forall_mem_nil _ | refine List.forall_mem_cons.2 (And.intro rfl ?_))); done) | (refine And.intro ?_ ?_ <;> simp only [List.length_map, List.length_append, List.length_cons, List.length_nil] <;> omega))
          all_goals try (exfalso; simp only [decide_eq_false_iff_not, decide_eq_true_eq] at *; omega)
          all_goals (refine ⟨congrArg (Tr.int _) ?_⟩; simp only [opX, opZ]; first | (rw [hv]; done) | (rw [hwz]; omega))
        | true =>
          have hAB : ∃ A B : Nat, 2 ^ (8 * k - 1) = A ∧ 2 ^ (8 * k) = B ∧ B ≤ 4294967296 ∧ IntKind.i64.wrap (1 * 2 ^ (min (Int.toNat (IntKind.i64.wrap (IntKind.i64.wrap (8 * (k : Int)) - 1))) IntKind.i64.bits)) = (A : Int) ∧
              IntKind.i64.wrap (1 * 2 ^ (min (Int.toNat (IntKind.i64.wrap (8 * (k : Int)))) IntKind.i64.bits)) = (B : Int) ∧ 256 ^ k = B := by
            rcases hng rfl with h | h <;> rw [h]
            · exact ⟨32768, 65536, by decide, by decide, by decide, by decide, by decide, by decide⟩
            · exact ⟨2147483648, 4294967296, by decide, by decide, by decide, by decide, by decide, by decide⟩
          obtain ⟨A, B, hA, hB, hBl, hc1, hc2, h256⟩ := hAB
          rw [h256] at ha1
          have hB' : (2 : Int) ^ (8 * k) = (B : Int) := by rw [← hB]; simp
          rw [hA, hB'] at hav1
          rw [hA] at hav2
          have hsh1 : 0 ≤ IntKind.i64.wrap (IntKind.i64.wrap (8 * (k : Int)) - 1) := by
            rcases hng rfl with h | h <;> rw [h] <;> decide
          have hsh2 : 0 ≤ IntKind.i64.wrap (8 * (k : Int)) := by
            rcases hng rfl with h | h <;> rw [h] <;> decide
          by_cases hge : A ≤ argN s (p + 1) k
          · have hv := hav1 _ rfl hge
            have hws : IntKind.i64.wrap ((argN s (p + 1) k : Int) - (B : Int)) = (argN s (p + 1) k : Int) - B := IntWalk.i64_in _ (by omega)
            repeat' ((conv => whnf); first | refine Or.inl ?_ | refine And.intro (Obl.out (?_ : Obl _)) ?_ | refine ifB_intro (fun h => ?_) (fun h => ?_) | refine Exists.intro _ (And.intro rfl ?_) | ((with_reducible show _ = _); rfl))
            all_goals try ((with_reducible refine Obl.mk ?_); first | ((with_reducible show regOk _ _ = true); kernel_rfl) | ((with_reducible show eqTyOk _ _ = true); kernel_rfl) | rfl | exact trivial | ((repeat' (first | exact trivial | refine And.intro ?_ ?_)); done) | decide | ((repeat' (first | exact List.forall_mem_nil _ | refine List.forall_mem_cons.2 (And.intro rfl ?_))); done) | (refine And.intro ?_ ?_ <;> simp only [List.length_map, List.length_append, List.length_cons, List.length_nil] <;> omega))
            all_goals try (exfalso; simp only [decide_eq_false_iff_not, decide_eq_true_eq] at *; omega)
            all_goals try (exfalso; rw [hc1] at h; have h' := of_decide_eq_false h; omega)
            all_goals first
              | exact ⟨hsh1⟩
              | exact ⟨hsh2⟩
              | (refine ⟨congrArg (Tr.int _) ?_⟩; simp only [opX, opZ]; first | (rw [hc2, hws, hv]; done) | (rw [hwz]; omega))
          · have hv := hav2 _ (fun h => hge h.2)
            repeat' ((conv => whnf); first | refine Or.inl ?_ | refine And.intro (Obl.out (?_ : Obl _)) ?_ | refine ifB_intro (fun h => ?_) (fun h => ?_) | refine Exists.intro _ (And.intro rfl ?_) | ((with_reducible show _ = _); rfl))
            all_goals try ((with_reducible refine Obl.mk ?_); first | ((with_reducible show regOk _ _ = true); kernel_rfl) | ((with_reducible show eqTyOk _ _ = true); kernel_rfl) | rfl | exact trivial | ((repeat' (first | exact trivial | refine And.intro ?_ ?_)); done) | decide | ((repeat' (first | exact List.forall_mem_nil _ | refine List.forall_mem_cons.2 (And.intro rfl ?_))); done) | (refine And.intro ?_ ?_ <;> simp only [List.length_map, List.length_append, List.length_cons, List.length_nil] <;> omega))
            all_goals try (exfalso; simp only [decide_eq_false_iff_not, decide_eq_true_eq] at *; omega)
            all_goals try (exfalso; rw [hc1] at h; have h' := of_decide_eq_true h; omega)
            all_goals first
              | exact ⟨hsh1⟩
              | exact ⟨hsh2⟩
              | (refine ⟨congrArg (Tr.int _) ?_⟩; simp only [opX, opZ]; first | (rw [hv]; done) | (rw [hwz]; omega))
  · rw [decodeOp, if_neg hin]
    repeat' ((conv => whnf); first | refine Or.inl ?_ | refine And.intro (Obl.out (?_ : Obl _)) ?_ | refine ifB_intro (fun h => ?_) (fun h => ?_) | refine Exists.intro _ (And.intro rfl ?_) | ((with_reducible show _ = _); rfl))
    all_goals try ((with_reducible refine Obl.mk ?_); first | ((with_reducible show regOk _ _ = true); kernel_rfl) | ((with_reducible show eqTyOk _ _ = true); kernel_rfl) | rfl | exact trivial | ((repeat' (first | exact trivial | refine And.intro ?_ ?_)); done) | decide | ((repeat' (first | exact List.forall_mem_nil _ | refine List.forall_mem_cons.2 (And.intro rfl ?_))); done) | (refine And.intro ?_ ?_ <;> simp only [List.length_map, List.length_append, List.length_cons, List.length_nil] <;> omega))
    all_goals (exfalso; rename_i h0; have h1 := of_decide_eq_false h0; have h2 := of_decide_eq_false h; omega)
def disF (s : List UInt8) : Nat → Nat → Option (List TOp)
  | 0, p => if p < s.length then none else some []
  | f + 1, p => if p < s.length then (match decodeOp s (p : Int) with
      | some x => (disF s f (p + x.2)).map (x.1 :: ·)
      | none => none) else some []
def disasm (s : List UInt8) : Option (List TOp) := disF s s.length 0
theorem decodeOp_some {s : List UInt8} {p : Nat} {x : TOp} {z : Nat} (h : decodeOp s (p : Int) = some (x, z)) : 1 ≤ z ∧ z ≤ 5 ∧ p + z ≤ s.length := by
  unfold decodeOp at h
  split at h
  · rename_i hin
    split at h
    · cases h
    · rename_i hno
      injection h with h
      injection h with h1 h2
      rw [not_or] at hno
      have := opSize_le (byteAt s (p : Int).toNat)
      omega
  · cases h
theorem disF_fuel {s : List UInt8} : ∀ {f p : Nat}, s.length - p ≤ f → disF s f p = disF s (s.length - p) p
  | 0, p, h => by rw [show s.length - p = 0 by omega]
  | f + 1, p, h => by
    rcases Nat.lt_or_ge p s.length with hlt | hge
    · obtain ⟨m, hm⟩ : ∃ m, s.length - p = m + 1 := ⟨s.length - p - 1, by omega⟩
      rw [hm, disF, disF, if_pos hlt, if_pos hlt]
      match hd : decodeOp s (p : Int) with
      | none => rfl
      | some (x, z) =>
        have := decodeOp_some hd
        dsimp only
        rw [disF_fuel (f := f) (p := p + z) (by omega), disF_fuel (f := m) (p := p + z) (by omega)]
    · rw [disF, if_neg (by omega), show s.length - p = 0 by omega, disF, if_neg (by omega)]
theorem disF_step {s : List UInt8} {p : Nat} (hlt : p < s.length) : disF s (s.length - p) p = (match decodeOp s (p : Int) with
    | some x => (disF s (s.length - (p + x.2)) (p + x.2)).map (x.1 :: ·)
    | none => none) := by
  obtain ⟨m, hm⟩ : ∃ m, s.length - p = m + 1 := ⟨s.length - p - 1, by omega⟩
  rw [hm, disF, if_pos hlt]
  match hd : decodeOp s (p : Int) with
  | none => rfl
  | some (x, z) =>
    have := decodeOp_some hd
    dsimp only
    rw [disF_fuel (f := m) (p := p + z) (by omega)]
theorem disF_end {s : List UInt8} {p : Nat} (hge : s.length ≤ p) : disF s (s.length - p) p = some [] := by
  rw [show s.length - p = 0 by omega, disF, if_neg (by omega)]
abbrev DisIx (s : List UInt8) (R : Option (List TOp)) := { q : Nat × List TOp // q.1 ≤ s.length ∧ q.2.length ≤ q.1 ∧ (disF s (s.length - q.1) q.1).map (q.2 ++ ·) = R }
theorem s_impl_Disassemble (s : List UInt8) (hs : s.length ≤ 1048576) : Sim.Spec Try.prog 197 [tvS s] (.tup [.c (.arr 2 ((oL (disasm s)).map TOp.tr)), .c (.t (.bool (disasm s).isSome))]) := by
  refine spec_of_W hΓ hmix Try.func197 rfl (by decide) rfl ?_
  have hR0 : (disF s (s.length - 0) 0).map (([] : List TOp) ++ ·) = disasm s := by simp [disasm]
  generalize disasm s = R at hR0 ⊢
  repeat' ((conv => whnf); first | refine Or.inl ?_ | refine And.intro (Obl.out (?_ : Obl _)) ?_ | refine ifB_intro (fun h => ?_) (fun h => ?_) | refine Exists.intro _ (And.intro rfl ?_) | ((with_reducible show _ = _); rfl))
  all_goals try ((with_reducible refine Obl.mk ?_); first | ((with_reducible show regOk _ _ = true); kernel_rfl) | ((with_reducible show eqTyOk _ _ = true); kernel_rfl) | rfl | exact trivial | ((repeat' (first | exact trivial | refine And.intro ?_ ?_)); done) | decide | ((repeat' (first | exact List.forall_mem_nil _ | refine List.forall_mem_cons.2 (And.intro rfl ?_))); done) | (refine And.intro ?_ ?_ <;> simp only [List.length_map, List.length_append, List.length_cons, List.length_nil] <;> omega))
  conv => whnf
  refine ⟨DisIx s R, fun q => ⟨[(0, tS s), (4, .r (.c (.own (9, 0, 0)))), (5, tI .i64 (q.1.1 : Int))], [((9, 0, 0), some (.arr true 2 (q.1.2.map TOp.tr)))], [9]⟩, fun q => s.length - q.1.1, ⟨(0, []), by simp, by simp, hR0⟩, ?_, ?_⟩
  · skip
    repeat' ((conv => whnf); first | refine Or.inl ?_ | refine And.intro (Obl.out (?_ : Obl _)) ?_ | refine ifB_intro (fun h => ?_) (fun h => ?_) | refine Exists.intro _ (And.intro rfl ?_) | ((with_reducible show _ = _); rfl))
    all_goals try ((with_reducible refine Obl.mk ?_); first | ((with_reducible show regOk _ _ = true); kernel_rfl) | ((with_reducible show eqTyOk _ _ = true); kernel_rfl) | rfl | exact trivial | ((repeat' (first | exact trivial | refine And.intro ?_ ?_)); done) | decide | ((repeat' (first | exact List.forall_mem_nil _ | refine List.forall_mem_cons.2 (And.intro rfl ?_))); done) | (refine And.intro ?_ ?_ <;> simp only [List.length_map, List.length_append, List.length_cons, List.length_nil] <;> omega))
  intro ⟨⟨p, acc⟩, hp, hal, hr⟩
  dsimp only at hp hal hr ⊢
  by_cases hlt : p < s.length
  · have hD := s_impl_DecodeOp s (p : Int) hs (by omega)
    rw [disF_step hlt] at hr
    match hd : decodeOp s (p : Int) with
    | none =>
      rw [hd] at hr hD
      dsimp only [rOp, opX, opZ, Option.isSome] at hr hD
      subst hr
      repeat' ((conv => whnf); first | refine Or.inl ?_ | refine And.intro (Obl.out (?_ : Obl _)) ?_ | refine ifB_intro (fun h => ?_) (fun h => ?_) | refine call_intro (hD) (And.intro rfl (And.intro rfl trivial)) ?_ | refine Exists.intro _ (And.intro rfl ?_) | ((with_reducible show _ = _); rfl))
      all_goals try ((with_reducible refine Obl.mk ?_); first | ((with_reducible show regOk _ _ = true); kernel_rfl) | ((with_reducible show eqTyOk _ _ = true); kernel_rfl) | rfl | exact trivial | ((repeat' (first | exact trivial | refine And.intro ?_ ?_)); done) | decide | ((repeat' (first | exact List.forall_mem_nil _ | refine List.forall_mem_cons.2 (And.intro rfl ?_))); done) | (refine And.intro ?_ ?_ <;> simp only [List.length_map, List.length_append, List.length_cons, List.length_nil] <;> omega))
      all_goals try (exfalso; simp only [decide_eq_false_iff_not, decide_eq_true_eq] at *; omega)
    | some (x, z) =>
      rw [hd] at hr hD
      have hz := decodeOp_some hd
      dsimp only [rOp, opX, opZ, Option.isSome] at hr hD
      repeat' ((conv => whnf); first | refine Or.inl ?_ | refine And.intro (Obl.out (?_ : Obl _)) ?_ | refine ifB_intro (fun h => ?_) (fun h => ?_) | refine call_intro (hD) (And.intro rfl (And.intro rfl trivial)) ?_ | refine Exists.intro _ (And.intro rfl ?_) | ((with_reducible show _ = _); rfl))
      all_goals try ((with_reducible refine Obl.mk ?_); first | ((with_reducible show regOk _ _ = true); kernel_rfl) | ((with_reducible show eqTyOk _ _ = true); kernel_rfl) | rfl | exact trivial | ((repeat' (first | exact trivial | refine And.intro ?_ ?_)); done) | decide | ((repeat' (first | exact List.forall_mem_nil _ | refine List.forall_mem_cons.2 (And.intro rfl ?_))); done) | (refine And.intro ?_ ?_ <;> simp only [List.length_map, List.length_append, List.length_cons, List.length_nil] <;> omega))
      all_goals try (exfalso; simp only [decide_eq_false_iff_not, decide_eq_true_eq] at *; omega)
      all_goals try exact ⟨⟨by simp only [List.length_map, List.length_cons, List.length_nil]; omega, by simp only [List.length_map, List.length_cons, List.length_nil]; omega⟩⟩
      conv => whnf
      refine ⟨⟨(p + z, acc ++ [x]), by dsimp only; omega, by simp; omega, ?_⟩, ?_, by dsimp only; omega⟩
      · dsimp only
        rw [← hr, Option.map_map]
        congr 1
        funext l
        simp
      repeat' ((conv => whnf); first | refine Or.inl ?_ | refine And.intro (Obl.out (?_ : Obl _)) ?_ | refine ifB_intro (fun h => ?_) (fun h => ?_) | refine Exists.intro _ (And.intro rfl ?_) | ((with_reducible show _ = _); rfl))
      all_goals try ((with_reducible refine Obl.mk ?_); first | ((with_reducible show regOk _ _ = true); kernel_rfl) | ((with_reducible show eqTyOk _ _ = true); kernel_rfl) | rfl | exact trivial | ((repeat' (first | exact trivial | refine And.intro ?_ ?_)); done) | decide | ((repeat' (first | exact List.forall_mem_nil _ | refine List.forall_mem_cons.2 (And.intro rfl ?_))); done) | (refine And.intro ?_ ?_ <;> simp only [List.length_map, List.length_append, List.length_cons, List.length_nil] <;> omega))
      all_goals first
        | (refine ⟨congrArg (Tr.int _) ?_⟩; dsimp only; rw [IntWalk.i64_in _ (by omega)]; omega)
        | (refine ⟨?_⟩; dsimp only; rw [List.map_append]; rfl)
  · have hge : s.length ≤ p := by omega
    rw [disF_end hge] at hr
    simp only [Option.map_some, List.append_nil] at hr
    subst hr
    repeat' ((conv => whnf); first | refine Or.inl ?_ | refine And.intro (Obl.out (?_ : Obl _)) ?_ | refine ifB_intro (fun h => ?_) (fun h => ?_) | refine Exists.intro _ (And.intro rfl ?_) | ((with_reducible show _ = _); rfl))
    all_goals try ((with_reducible refine Obl.mk ?_); first | ((with_reducible show regOk _ _ = true); kernel_rfl) | ((with_reducible show eqTyOk _ _ = true); kernel_rfl) | rfl | exact trivial | ((repeat' (first | exact trivial | refine And.intro ?_ ?_)); done) | decide | ((repeat' (first | exact List.forall_mem_nil _ | refine List.forall_mem_cons.2 (And.intro rfl ?_))); done) | (refine And.intro ?_ ?_ <;> simp only [List.length_map, List.length_append, List.length_cons, List.length_nil] <;> omega))
    all_goals try (exfalso; simp only [decide_eq_false_iff_not, decide_eq_true_eq] at *; omega)
theorem s_spec_Disassemble (s : List UInt8) (hs : s.length ≤ 1048576) : Sim.Spec Try.prog 186 [tvS s] (.tup [.c (.arr 2 ((oL (disasm s)).map TOp.tr)), .c (.t (.bool (disasm s).isSome))]) := by
  refine spec_of_W hΓ hmix Try.func186 rfl (by decide) rfl ?_
  have hR0 : (disF s (s.length - 0) 0).map (([] : List TOp) ++ ·) = disasm s := by simp [disasm]
  generalize disasm s = R at hR0 ⊢
  repeat' ((conv => whnf); first | refine Or.inl ?_ | refine And.intro (Obl.out (?_ : Obl _)) ?_ | refine ifB_intro (fun h => ?_) (fun h => ?_) | refine Exists.intro _ (And.intro rfl ?_) | ((with_reducible show _ = _); rfl))
  all_goals try ((with_reducible refine Obl.mk ?_); first | ((with_reducible show regOk _ _ = true); kernel_rfl) | ((with_reducible show eqTyOk _ _ = true); kernel_rfl) | rfl | exact trivial | ((repeat' (first | exact trivial | refine And.intro ?_ ?_)); done) | decide | ((repeat' (first | exact List.forall_mem_nil _ | refine List.forall_mem_cons.2 (And.intro rfl ?_))); done) | (refine And.intro ?_ ?_ <;> simp only [List.length_map, List.length_append, List.length_cons, List.length_nil] <;> omega))
  conv => whnf
  refine ⟨DisIx s R, fun q => ⟨[(0, tS s), (4, .r (.c (.own (9, 0, 0)))), (5, tI .i64 (q.1.1 : Int))], [((9, 0, 0), some (.arr true 2 (q.1.2.map TOp.tr)))], [9]⟩, fun q => s.length - q.1.1, ⟨(0, []), by simp, by simp, hR0⟩, ?_, ?_⟩
  · skip
    repeat' ((conv => whnf); first | refine Or.inl ?_ | refine And.intro (Obl.out (?_ : Obl _)) ?_ | refine ifB_intro (fun h => ?_) (fun h => ?_) | refine Exists.intro _ (And.intro rfl ?_) | ((with_reducible show _ = _); rfl))
    all_goals try ((with_reducible refine Obl.mk ?_); first | ((with_reducible show regOk _ _ = true); kernel_rfl) | ((with_reducible show eqTyOk _ _ = true); kernel_rfl) | rfl | exact trivial | ((repeat' (first | exact trivial | refine And.intro ?_ ?_)); done) | decide | ((repeat' (first | exact List.forall_mem_nil _ | refine List.forall_mem_cons.2 (And.intro rfl ?_))); done) | (refine And.intro ?_ ?_ <;> simp only [List.length_map, List.length_append, List.length_cons, List.length_nil] <;> omega))
  intro ⟨⟨p, acc⟩, hp, hal, hr⟩
  dsimp only at hp hal hr ⊢
  by_cases hlt : p < s.length
  · have hD := s_spec_DecodeOp s (p : Int) hs (by omega)
    rw [disF_step hlt] at hr
    match hd : decodeOp s (p : Int) with
    | none =>
      rw [hd] at hr hD
      dsimp only [rOp, opX, opZ, Option.isSome] at hr hD
      subst hr
      repeat' ((conv => whnf); first | refine Or.inl ?_ | refine And.intro (Obl.out (?_ : Obl _)) ?_ | refine ifB_intro (fun h => ?_) (fun h => ?_) | refine call_intro (hD) (And.intro rfl (And.intro rfl trivial)) ?_ | refine Exists.intro _ (And.intro rfl ?_) | ((with_reducible show _ = _); rfl))
      all_goals try ((with_reducible refine Obl.mk ?_); first | ((with_reducible show regOk _ _ = true); kernel_rfl) | ((with_reducible show eqTyOk _ _ = true); kernel_rfl) | rfl | exact trivial | ((repeat' (first | exact trivial | refine And.intro ?_ ?_)); done) | decide | ((repeat' (first | exact List.forall_mem_nil _ | refine List.forall_mem_cons.2 (And.intro rfl ?_))); done) | (refine And.intro ?_ ?_ <;> simp only [List.length_map, List.length_append, List.length_cons, List.length_nil] <;> omega))
      all_goals try (exfalso; simp only [decide_eq_false_iff_not, decide_eq_true_eq] at *; omega)
    | some (x, z) =>
      rw [hd] at hr hD
      have hz := decodeOp_some hd
      dsimp only [rOp, opX, opZ, Option.isSome] at hr hD
      repeat' ((conv => whnf); first | refine Or.inl ?_ | refine And.intro (Obl.out (?_ : Obl _)) ?_ | refine ifB_intro (fun h => ?_) (fun h => ?_) | refine call_intro (hD) (And.intro rfl (And.intro rfl trivial)) ?_ | refine Exists.intro _ (And.intro rfl ?_) | ((with_reducible show _ = _); rfl))
      all_goals try ((with_reducible refine Obl.mk ?_); first | ((with_reducible show regOk _ _ = true); kernel_rfl) | ((with_reducible show eqTyOk _ _ = true); kernel_rfl) | rfl | exact trivial | ((repeat' (first | exact trivial | refine And.intro ?_ ?_)); done) | decide | ((repeat' (first | exact List.forall_mem_nil _ | refine List.forall_mem_cons.2 (And.intro rfl ?_))); done) | (refine And.intro ?_ ?_ <;> simp only [List.length_map, List.length_append, List.length_cons, List.length_nil] <;> omega))
      all_goals try (exfalso; simp only [decide_eq_false_iff_not, decide_eq_true_eq] at *; omega)
      all_goals try exact ⟨⟨by simp only [List.length_map, List.length_cons, List.length_nil]; omega, by simp only [List.length_map, List.length_cons, List.length_nil]; omega⟩⟩
      conv => whnf
      refine ⟨⟨(p + z, acc ++ [x]), by dsimp only; omega, by simp; omega, ?_⟩, ?_, by dsimp only; omega⟩
      · dsimp only
        rw [← hr, Option.map_map]
        congr 1
        funext l
        simp
      repeat' ((conv => whnf); first | refine Or.inl ?_ | refine And.intro (Obl.out (?_ : Obl _)) ?_ | refine ifB_intro (fun h => ?_) (fun h => ?_) | refine Exists.intro _ (And.intro rfl ?_) | ((with_reducible show _ = _); rfl))
      all_goals try ((with_reducible refine Obl.mk ?_); first | ((with_reducible show regOk _ _ = true); kernel_rfl) | ((with_reducible show eqTyOk _ _ = true); kernel_rfl) | rfl | exact trivial | ((repeat' (first | exact trivial | refine And.intro ?_ ?_)); done) | decide | ((repeat' (first | exact List.forall_mem_nil _ | refine List.forall_mem_cons.2 (And.intro rfl ?_))); done) | (refine And.intro ?_ ?_ <;> simp only [List.length_map, List.length_append, List.length_cons, List.length_nil] <;> omega))
      all_goals first
        | (refine ⟨congrArg (Tr.int _) ?_⟩; dsimp only; rw [IntWalk.i64_in _ (by omega)]; omega)
        | (refine ⟨?_⟩; dsimp only; rw [List.map_append]; rfl)
  · have hge : s.length ≤ p := by omega
    rw [disF_end hge] at hr
    simp only [Option.map_some, List.append_nil] at hr
    subst hr
    repeat' ((conv => whnf); first | refine Or.inl ?_ | refine And.intro (Obl.out (?_ : Obl _)) ?_ | refine ifB_intro (fun h => ?_) (fun h => ?_) | refine Exists.intro _ (And.intro rfl ?_) | ((with_reducible show _ = _); rfl))
    all_goals try ((with_reducible refine Obl.mk ?_); first | ((with_reducible show regOk _ _ = true); kernel_rfl) | ((with_reducible show eqTyOk _ _ = true); kernel_rfl) | rfl | exact trivial | ((repeat' (first | exact trivial | refine And.intro ?_ ?_)); done) | decide | ((repeat' (first | exact List.forall_mem_nil _ | refine List.forall_mem_cons.2 (And.intro rfl ?_))); done) | (refine And.intro ?_ ?_ <;> simp only [List.length_map, List.length_append, List.length_cons, List.length_nil] <;> omega))
    all_goals try (exfalso; simp only [decide_eq_false_iff_not, decide_eq_true_eq] at *; omega)
end Go.Proofs.Ytehniaekfijmiaa
