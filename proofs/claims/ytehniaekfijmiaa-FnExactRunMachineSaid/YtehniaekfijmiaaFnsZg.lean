/- The machine: what its words and instructions do, in the program. -/
import Derived.Test.YtehniaekfijmiaaFnsZ
namespace Go.Proofs.Ytehniaekfijmiaa
open Go.Sim
set_option maxRecDepth 100000
set_option maxHeartbeats 4000000
def w32 (n : Int) : Int := IntKind.i32.wrap n
theorem wrap_i32' (n : Int) : IntKind.i32.wrap n = if n % 4294967296 ≥ 2147483648 then n % 4294967296 - 4294967296 else n % 4294967296 := by
  simp [IntKind.wrap, IntKind.bits, IntKind.signed]
theorem wrap_u32' (n : Int) : IntKind.u32.wrap n = n % 4294967296 := by simp [IntKind.wrap, IntKind.bits, IntKind.signed]
theorem w32_range (n : Int) : -2147483648 ≤ w32 n ∧ w32 n ≤ 2147483647 := by
  unfold w32; rw [wrap_i32']; split <;> omega
theorem s_impl_Wrap (n : Int) : Sim.Spec Try.prog 229 [tvI n] (rI (w32 n)) := by
  refine spec_of_W hΓ hmix Try.func229 rfl (by decide) rfl ?_
  repeat' ((conv => whnf); first | refine Or.inl ?_ | refine And.intro (Obl.out (?_ : Obl _)) ?_ | refine ifB_intro (fun h => ?_) (fun h => ?_) | refine Exists.intro _ (And.intro rfl ?_) | ((with_reducible show _ = _); rfl))
  all_goals try ((with_reducible refine Obl.mk ?_); first | ((with_reducible show regOk _ _ = true); kernel_rfl) | ((with_reducible show eqTyOk _ _ = true); kernel_rfl) | rfl | exact trivial | ((repeat' (first | exact trivial | refine And.intro ?_ ?_)); done) | decide | ((repeat' (first | exact List.forall_mem_nil _ | refine List.forall_mem_cons.2 (And.intro rfl ?_))); done) | (refine And.intro ?_ ?_ <;> simp only [List.length_map, List.length_append, List.length_cons, List.length_nil] <;> omega))
  all_goals (refine ⟨congrArg (Tr.int _) ?_⟩; have := w32_range n; unfold w32 at *; rw [wrap_i32'] at *; rw [wrap_i32', wrap_u32', IntWalk.i64_in _ (by split <;> omega)]; simp)
theorem and_mask (n : Int) : ((BitVec.ofInt IntKind.i64.bits n &&& BitVec.ofInt IntKind.i64.bits 4294967295).toNat : Int) = n % 4294967296 := by
  show ((BitVec.ofInt 64 n &&& BitVec.ofInt 64 4294967295).toNat : Int) = _
  have e : (BitVec.ofInt 64 4294967295).toNat = 2 ^ 32 - 1 := by decide
  rw [BitVec.toNat_and, e, Nat.and_two_pow_sub_one_eq_mod, BitVec.toNat_ofInt]
  have : ((2 ^ 64 : Nat) : Int) = 18446744073709551616 := by decide
  omega
theorem s_spec_Wrap (n : Int) : Sim.Spec Try.prog 227 [tvI n] (rI (w32 n)) := by
  refine spec_of_W hΓ hmix Try.func227 rfl (by decide) rfl ?_
  have hand : IntKind.i64.wrap ((BitVec.ofInt IntKind.i64.bits n &&& BitVec.ofInt IntKind.i64.bits 4294967295).toNat : Int) = n % 4294967296 := by
    rw [and_mask, IntWalk.i64_in _ (by omega)]
  unfold w32
  rw [wrap_i32']
  repeat' ((conv => whnf); first | refine Or.inl ?_ | refine And.intro (Obl.out (?_ : Obl _)) ?_ | refine ifB_intro (fun h => ?_) (fun h => ?_) | refine Exists.intro _ (And.intro rfl ?_) | ((with_reducible show _ = _); rfl))
  all_goals try ((with_reducible refine Obl.mk ?_); first | ((with_reducible show regOk _ _ = true); kernel_rfl) | ((with_reducible show eqTyOk _ _ = true); kernel_rfl) | rfl | exact trivial | ((repeat' (first | exact trivial | refine And.intro ?_ ?_)); done) | decide | ((repeat' (first | exact List.forall_mem_nil _ | refine List.forall_mem_cons.2 (And.intro rfl ?_))); done) | (refine And.intro ?_ ?_ <;> simp only [List.length_map, List.length_append, List.length_cons, List.length_nil] <;> omega))
  all_goals (refine ⟨congrArg (Tr.int _) ?_⟩; rw [hand] at h ⊢)
  · have h' := of_decide_eq_true h
    rw [if_pos (by omega), IntWalk.i64_in _ (by omega)]
  · have h' := of_decide_eq_false h
    rw [if_neg (by omega)]
theorem mul_bound {x y : Int} (hx : -2147483648 ≤ x ∧ x ≤ 2147483647) (hy : -2147483648 ≤ y ∧ y ≤ 2147483647) : -4611686018427387904 ≤ x * y ∧ x * y ≤ 4611686018427387904 := by
  have h : (x * y).natAbs ≤ 2147483648 * 2147483648 := by
    rw [Int.natAbs_mul]
    exact Nat.mul_le_mul (by omega) (by omega)
  omega
def applyP (k a b : Int) : Int :=
  if k = 2 then w32 (w32 a + w32 b) else if k = 3 then w32 (w32 a - w32 b) else if k = 4 then w32 (w32 a * w32 b)
  else if (k = 5 ∧ w32 a < w32 b) ∨ (k = 6 ∧ w32 a = w32 b) then 1 else 0
theorem s_impl_Apply (k a b : Int) : Sim.Spec Try.prog 202 [tvI k, tvI a, tvI b] (rI (applyP k a b)) := by
  refine spec_of_W hΓ hmix Try.func202 rfl (by decide) rfl ?_
  have ha := w32_range a
  have hb := w32_range b
  have hm := mul_bound ha hb
  have e1 : IntKind.i64.wrap (w32 a + w32 b) = w32 a + w32 b := IntWalk.i64_in _ (by omega)
  have e2 : IntKind.i64.wrap (w32 a - w32 b) = w32 a - w32 b := IntWalk.i64_in _ (by omega)
  have e3 : IntKind.i64.wrap (w32 a * w32 b) = w32 a * w32 b := IntWalk.i64_in _ (by omega)
  unfold applyP
  repeat' ((conv => whnf); first | refine Or.inl ?_ | refine And.intro (Obl.out (?_ : Obl _)) ?_ | refine ifB_intro (fun h => ?_) (fun h => ?_) | refine call_intro (s_impl_Wrap _) (And.intro rfl trivial) ?_ | refine Exists.intro _ (And.intro rfl ?_) | ((with_reducible show _ = _); rfl))
  all_goals try ((with_reducible refine Obl.mk ?_); first | ((with_reducible show regOk _ _ = true); kernel_rfl) | ((with_reducible show eqTyOk _ _ = true); kernel_rfl) | rfl | exact trivial | ((repeat' (first | exact trivial | refine And.intro ?_ ?_)); done) | decide | ((repeat' (first | exact List.forall_mem_nil _ | refine List.forall_mem_cons.2 (And.intro rfl ?_))); done) | (refine And.intro ?_ ?_ <;> simp only [List.length_map, List.length_append, List.length_cons, List.length_nil] <;> omega))
  all_goals (refine ⟨congrArg (Tr.int _) ?_⟩; simp_all; try omega)
theorem s_spec_Apply (k a b : Int) : Sim.Spec Try.prog 194 [tvI k, tvI a, tvI b] (rI (applyP k a b)) := by
  refine spec_of_W hΓ hmix Try.func194 rfl (by decide) rfl ?_
  have ha := w32_range a
  have hb := w32_range b
  have hm := mul_bound ha hb
  have e1 : IntKind.i64.wrap (w32 a + w32 b) = w32 a + w32 b := IntWalk.i64_in _ (by omega)
  have e2 : IntKind.i64.wrap (w32 a - w32 b) = w32 a - w32 b := IntWalk.i64_in _ (by omega)
  have e3 : IntKind.i64.wrap (w32 a * w32 b) = w32 a * w32 b := IntWalk.i64_in _ (by omega)
  unfold applyP
  repeat' ((conv => whnf); first | refine Or.inl ?_ | refine And.intro (Obl.out (?_ : Obl _)) ?_ | refine ifB_intro (fun h => ?_) (fun h => ?_) | refine call_intro (s_spec_Wrap _) (And.intro rfl trivial) ?_ | refine Exists.intro _ (And.intro rfl ?_) | ((with_reducible show _ = _); rfl))
  all_goals try ((with_reducible refine Obl.mk ?_); first | ((with_reducible show regOk _ _ = true); kernel_rfl) | ((with_reducible show eqTyOk _ _ = true); kernel_rfl) | rfl | exact trivial | ((repeat' (first | exact trivial | refine And.intro ?_ ?_)); done) | decide | ((repeat' (first | exact List.forall_mem_nil _ | refine List.forall_mem_cons.2 (And.intro rfl ?_))); done) | (refine And.intro ?_ ?_ <;> simp only [List.length_map, List.length_append, List.length_cons, List.length_nil] <;> omega))
  all_goals (refine ⟨congrArg (Tr.int _) ?_⟩; simp_all; try omega)
def inStk (a : Int) : Bool := within a 0 1199
abbrev wr (n : Int) : Int := IntKind.i64.wrap n
structure CS where
  m : TMachine
  bad : Bool
def CS.ok (c : CS) : Prop := c.m.fStack.length = 1200
def wordAt (m : TMachine) (a : Int) : Int := match m.fStack[a.toNat]? with | some x => x | none => 0
def setAt (m : TMachine) (a v : Int) : TMachine := { m with fStack := m.fStack.set a.toNat v }
def cAt (c : CS) (a : Int) : CS := ⟨c.m, c.bad || !inStk a⟩
def cPush (c : CS) (v : Int) : CS := if (c.bad || !inStk (wr (c.m.fSp - 1))) = true then ⟨c.m, true⟩ else ⟨{ setAt c.m (wr (c.m.fSp - 1)) v with fSp := wr (c.m.fSp - 1) }, false⟩
def cPop (c : CS) : CS := if (c.bad || !inStk c.m.fSp) = true then ⟨c.m, true⟩ else ⟨{ c.m with fSp := c.m.fSp + 1 }, false⟩
def cTop (c : CS) : Int := if (c.bad || !inStk c.m.fSp) = true then 0 else wordAt c.m c.m.fSp
def cDrop : Nat → CS → CS
  | 0, c => c
  | n + 1, c => cDrop n (cPop c)
def cZeros : Nat → CS → CS
  | 0, c => c
  | n + 1, c => cZeros n (cPush c 0)
def cLoad (c : CS) (a : Int) : CS := if (c.bad || !inStk a) = true then ⟨c.m, true⟩ else cPush ⟨c.m, false⟩ (wordAt c.m a)
def cStore (c : CS) (a : Int) : CS := if ((cPop c).bad || !inStk a) = true then ⟨(cPop c).m, true⟩ else ⟨setAt (cPop c).m a (cTop c), false⟩
theorem inStk_iff {a : Int} : inStk a = true ↔ 0 ≤ a ∧ a ≤ 1199 := within_iff
theorem cPush_ok {c : CS} {v : Int} (h : c.ok) : (cPush c v).ok := by
  unfold cPush CS.ok at *
  split
  · exact h
  · simpa [setAt] using h
theorem cPop_ok {c : CS} (h : c.ok) : (cPop c).ok := by
  unfold cPop CS.ok at *
  split
  · exact h
  · exact h
theorem cDrop_ok : ∀ {n : Nat} {c : CS}, c.ok → (cDrop n c).ok
  | 0, _, h => h
  | n + 1, c, h => cDrop_ok (n := n) (cPop_ok h)
theorem cZeros_ok : ∀ {n : Nat} {c : CS}, c.ok → (cZeros n c).ok
  | 0, _, h => h
  | n + 1, c, h => cZeros_ok (n := n) (cPush_ok h)
theorem cLoad_ok {c : CS} {a : Int} (h : c.ok) : (cLoad c a).ok := by
  unfold cLoad
  split
  · exact h
  · exact cPush_ok (c := ⟨c.m, false⟩) h
theorem cStore_ok {c : CS} {a : Int} (h : c.ok) : (cStore c a).ok := by
  have := cPop_ok h
  unfold cStore
  split
  · exact this
  · unfold CS.ok at *; simpa [setAt] using this
abbrev mBox (m : TMachine) (st out : Sim.Id) : AO := .box [.t (.int .i64 m.fPc), .t (.int .i64 m.fSp), .t (.int .i64 m.fFp), .own st, .own out, .t (.int .i64 m.fState), .t (.int .i64 m.fValue)]
abbrev coreH (c : CS) : List (Sim.Id × AO) := [((0, 0, 0), .box [.ptr (0, 0, 1) 0, .t (.bool c.bad)]), ((0, 0, 1), mBox c.m (0, 0, 2) (0, 0, 3)), ((0, 0, 2), .arr false 1 (c.m.fStack.map intRow)), ((0, 0, 3), .arr false 1 (c.m.fOut.map intRow))]
abbrev coreP : AV := .r (.c (.ptr (0, 0, 0) 0))
theorem g_core_at (c : CS) (a : Int) : SpecG Try.prog 138 [coreP, tI .i64 a] (coreH c) (tB (!(c.bad || !inStk a))) (coreH (cAt c a)) := by
  obtain ⟨m, bad⟩ := c
  refine specG_of_W hΓ hmix Try.func138 rfl (by decide) rfl rfl ?_
  have hb := s_impl_between a 0 1199
  unfold cAt inStk
  cases hin : within a 0 1199
  all_goals
    rw [hin] at hb
    cases bad
    all_goals
      repeat' ((conv => whnf); first | refine Or.inl ?_ | refine And.intro (Obl.out (?_ : Obl _)) ?_ | refine ifB_intro (fun h => ?_) (fun h => ?_) | refine call_intro (hb) (And.intro rfl (And.intro rfl (And.intro rfl trivial))) ?_ | refine Exists.intro _ (And.intro rfl ?_) | ((with_reducible show _ = _); rfl))
      all_goals try ((with_reducible refine Obl.mk ?_); first | ((with_reducible show regOk _ _ = true); kernel_rfl) | ((with_reducible show eqTyOk _ _ = true); kernel_rfl) | rfl | exact trivial | ((repeat' (first | exact trivial | refine And.intro ?_ ?_)); done) | decide | ((repeat' (first | exact List.forall_mem_nil _ | refine List.forall_mem_cons.2 (And.intro rfl ?_))); done) | (refine And.intro ?_ ?_ <;> simp only [List.length_map, List.length_append, List.length_cons, List.length_nil] <;> omega))
      all_goals try (exfalso; simp at h; done)
theorem stk_at {l : List Int} {a : Int} (hl : l.length = 1200) (h : inStk a = true) : ∃ (j : Nat) (x : Int), a = (j : Int) ∧ l[j]? = some x ∧ j < l.length ∧ j ≤ 1199 := by
  have h' := inStk_iff.1 h
  obtain ⟨j, rfl⟩ := Int.eq_ofNat_of_zero_le h'.1
  obtain ⟨x, hx⟩ := get_of_lt (l := l) (k := j) (by omega)
  exact ⟨j, x, rfl, hx, by omega, by omega⟩
theorem map_set' {l : List Int} {j : Nat} {v : Int} : (l.map intRow).set j (intRow v) = (l.set j v).map intRow := by rw [List.map_set]
theorem or_false2 {a b : Bool} (h : (a || !b) = false) : a = false ∧ b = true := by cases a <;> cases b <;> simp at h ⊢
theorem g_core_push (c : CS) (v : Int) (hc : c.ok) : SpecG Try.prog 198 [coreP, tI .i64 v] (coreH c) (.tup []) (coreH (cPush c v)) := by
  refine specG_of_W hΓ hmix Try.func198 rfl (by decide) rfl rfl ?_
  have hA := g_core_at c (wr (c.m.fSp - 1))
  obtain ⟨m, bad⟩ := c
  unfold CS.ok at hc
  unfold cPush cAt at *
  dsimp only at hA hc ⊢
  cases hB : (bad || !inStk (wr (m.fSp - 1))) with
  | true =>
    rw [hB] at hA
    repeat' ((conv => whnf); first | refine callG_intro (hA) ?_ | refine seq_inl ?_ | refine reg_inl ?_ | refine And.intro (Obl.out (?_ : Obl _)) ?_ | refine ifB_intro (fun h => ?_) (fun h => ?_) | refine Exists.intro _ (And.intro rfl ?_) | ((with_reducible show _ = _); rfl))
    all_goals try ((with_reducible refine Obl.mk ?_); first | ((with_reducible show regOk _ _ = true); kernel_rfl) | ((with_reducible show eqTyOk _ _ = true); kernel_rfl) | rfl | exact trivial | ((repeat' (first | exact trivial | refine And.intro ?_ ?_)); done) | decide | ((repeat' (first | exact List.forall_mem_nil _ | refine List.forall_mem_cons.2 (And.intro rfl ?_))); done) | (refine And.intro ?_ ?_ <;> simp only [List.length_map, List.length_append, List.length_cons, List.length_nil] <;> omega))
    all_goals try (exfalso; simp at h; done)
  | false =>
    rw [hB] at hA
    obtain ⟨_, hin⟩ := or_false2 hB
    obtain ⟨j, x, hj, hx, hlt, _⟩ := stk_at hc hin
    have hlen : (m.fStack.map intRow).length = m.fStack.length := by simp
    repeat' ((conv => whnf); first | refine callG_intro (hA) ?_ | refine seq_inl ?_ | refine reg_inl ?_ | refine And.intro (Obl.out (?_ : Obl _)) ?_ | refine ifB_intro (fun h => ?_) (fun h => ?_) | refine Exists.intro _ (And.intro rfl ?_) | ((with_reducible show _ = _); rfl))
    all_goals try ((with_reducible refine Obl.mk ?_); first | ((with_reducible show regOk _ _ = true); kernel_rfl) | ((with_reducible show eqTyOk _ _ = true); kernel_rfl) | rfl | exact trivial | ((repeat' (first | exact trivial | refine And.intro ?_ ?_)); done) | decide | ((repeat' (first | exact List.forall_mem_nil _ | refine List.forall_mem_cons.2 (And.intro rfl ?_))); done) | (refine And.intro ?_ ?_ <;> simp only [List.length_map, List.length_append, List.length_cons, List.length_nil] <;> omega))
    conv => whnf
    refine ⟨j, hj, by rw [hlen]; exact hlt, ?_⟩
    repeat' ((conv => whnf); first | refine seq_inl ?_ | refine reg_inl ?_ | refine And.intro (Obl.out (?_ : Obl _)) ?_ | refine ifB_intro (fun h => ?_) (fun h => ?_) | refine ⟨(intRow x), map_get hx, ?_⟩ | refine Exists.intro _ (And.intro rfl ?_) | ((with_reducible show _ = _); rfl))
    all_goals try ((with_reducible refine Obl.mk ?_); first | ((with_reducible show regOk _ _ = true); kernel_rfl) | ((with_reducible show eqTyOk _ _ = true); kernel_rfl) | rfl | exact trivial | ((repeat' (first | exact trivial | refine And.intro ?_ ?_)); done) | decide | ((repeat' (first | exact List.forall_mem_nil _ | refine List.forall_mem_cons.2 (And.intro rfl ?_))); done) | (refine And.intro ?_ ?_ <;> simp only [List.length_map, List.length_append, List.length_cons, List.length_nil] <;> omega))
    all_goals try (exfalso; simp at h; done)
    all_goals try (refine ⟨?_⟩; rw [← show (wr (m.fSp - 1)).toNat = j by rw [hj]; rfl]; exact map_set')
theorem g_core_pop (c : CS) (hc : c.ok) : SpecG Try.prog 201 [coreP] (coreH c) (tI .i64 (cTop c)) (coreH (cPop c)) := by
  refine specG_of_W hΓ hmix Try.func201 rfl (by decide) rfl rfl ?_
  have hA := g_core_at c c.m.fSp
  obtain ⟨m, bad⟩ := c
  unfold CS.ok at hc
  unfold cPop cTop cAt at *
  dsimp only at hA hc ⊢
  cases hB : (bad || !inStk m.fSp) with
  | true =>
    rw [hB] at hA
    repeat' ((conv => whnf); first | refine callG_intro (hA) ?_ | refine seq_inl ?_ | refine reg_inl ?_ | refine And.intro (Obl.out (?_ : Obl _)) ?_ | refine ifB_intro (fun h => ?_) (fun h => ?_) | refine Exists.intro _ (And.intro rfl ?_) | ((with_reducible show _ = _); rfl))
    all_goals try ((with_reducible refine Obl.mk ?_); first | ((with_reducible show regOk _ _ = true); kernel_rfl) | ((with_reducible show eqTyOk _ _ = true); kernel_rfl) | rfl | exact trivial | ((repeat' (first | exact trivial | refine And.intro ?_ ?_)); done) | decide | ((repeat' (first | exact List.forall_mem_nil _ | refine List.forall_mem_cons.2 (And.intro rfl ?_))); done) | (refine And.intro ?_ ?_ <;> simp only [List.length_map, List.length_append, List.length_cons, List.length_nil] <;> omega))
    all_goals try (exfalso; simp at h; done)
  | false =>
    rw [hB] at hA
    obtain ⟨_, hin⟩ := or_false2 hB
    obtain ⟨j, x, hj, hx, hlt, hj2⟩ := stk_at hc hin
    have hlen : (m.fStack.map intRow).length = m.fStack.length := by simp
    have hw : IntKind.i64.wrap (m.fSp + 1) = m.fSp + 1 := IntWalk.i64_in _ (by omega)
    repeat' ((conv => whnf); first | refine callG_intro (hA) ?_ | refine seq_inl ?_ | refine reg_inl ?_ | refine And.intro (Obl.out (?_ : Obl _)) ?_ | refine ifB_intro (fun h => ?_) (fun h => ?_) | refine Exists.intro _ (And.intro rfl ?_) | ((with_reducible show _ = _); rfl))
    all_goals try ((with_reducible refine Obl.mk ?_); first | ((with_reducible show regOk _ _ = true); kernel_rfl) | ((with_reducible show eqTyOk _ _ = true); kernel_rfl) | rfl | exact trivial | ((repeat' (first | exact trivial | refine And.intro ?_ ?_)); done) | decide | ((repeat' (first | exact List.forall_mem_nil _ | refine List.forall_mem_cons.2 (And.intro rfl ?_))); done) | (refine And.intro ?_ ?_ <;> simp only [List.length_map, List.length_append, List.length_cons, List.length_nil] <;> omega))
    conv => whnf
    refine ⟨j, ?_, by rw [hlen]; exact hlt, ?_⟩
    · show IntKind.i64.wrap (IntKind.i64.wrap (m.fSp + 1) - 1) = (j : Int)
      rw [hw, IntWalk.i64_in _ (by omega)]; omega
    repeat' ((conv => whnf); first | refine seq_inl ?_ | refine reg_inl ?_ | refine And.intro (Obl.out (?_ : Obl _)) ?_ | refine ifB_intro (fun h => ?_) (fun h => ?_) | refine ⟨(intRow x), map_get hx, ?_⟩ | refine Exists.intro _ (And.intro rfl ?_) | ((with_reducible show _ = _); rfl))
    all_goals try ((with_reducible refine Obl.mk ?_); first | ((with_reducible show regOk _ _ = true); kernel_rfl) | ((with_reducible show eqTyOk _ _ = true); kernel_rfl) | rfl | exact trivial | ((repeat' (first | exact trivial | refine And.intro ?_ ?_)); done) | decide | ((repeat' (first | exact List.forall_mem_nil _ | refine List.forall_mem_cons.2 (And.intro rfl ?_))); done) | (refine And.intro ?_ ?_ <;> simp only [List.length_map, List.length_append, List.length_cons, List.length_nil] <;> omega))
    all_goals try (exfalso; simp at h; done)
    all_goals first
      | exact ⟨congrArg (Tr.int _) hw⟩
      | (refine ⟨congrArg (Tr.int _) ?_⟩; simp [wordAt, hj, hx]; done)
theorem g_core_drop (c : CS) (n : Nat) (hc : c.ok) (hn : n ≤ 65536) : SpecG Try.prog 204 [coreP, tI .i64 (n : Int)] (coreH c) (.tup []) (coreH (cDrop n c)) := by
  refine specG_of_W hΓ hmix Try.func204 rfl (by decide) rfl rfl ?_
  obtain ⟨R, hR⟩ : ∃ R, cDrop n c = R := ⟨_, rfl⟩
  rw [hR]
  repeat' ((conv => whnf); first | refine seq_inl ?_ | refine reg_inl ?_ | refine And.intro (Obl.out (?_ : Obl _)) ?_ | refine ifB_intro (fun h => ?_) (fun h => ?_) | refine Exists.intro _ (And.intro rfl ?_) | ((with_reducible show _ = _); rfl))
  all_goals try ((with_reducible refine Obl.mk ?_); first | ((with_reducible show regOk _ _ = true); kernel_rfl) | ((with_reducible show eqTyOk _ _ = true); kernel_rfl) | rfl | exact trivial | ((repeat' (first | exact trivial | refine And.intro ?_ ?_)); done) | decide | ((repeat' (first | exact List.forall_mem_nil _ | refine List.forall_mem_cons.2 (And.intro rfl ?_))); done) | (refine And.intro ?_ ?_ <;> simp only [List.length_map, List.length_append, List.length_cons, List.length_nil] <;> omega))
  conv => whnf
  refine ⟨{ q : Nat × CS // q.1 ≤ 65536 ∧ q.2.ok ∧ cDrop q.1 q.2 = R }, fun q => ⟨[(0, coreP), (1, tI .i64 (q.1.1 : Int))], (coreH q.1.2).map fun p => (p.1, some p.2), [0]⟩, fun q => q.1.1, ⟨(n, c), hn, hc, hR⟩, ?_, ?_⟩
  · skip
    repeat' ((conv => whnf); first | refine seq_inl ?_ | refine reg_inl ?_ | refine And.intro (Obl.out (?_ : Obl _)) ?_ | refine ifB_intro (fun h => ?_) (fun h => ?_) | refine Exists.intro _ (And.intro rfl ?_) | ((with_reducible show _ = _); rfl))
    all_goals try ((with_reducible refine Obl.mk ?_); first | ((with_reducible show regOk _ _ = true); kernel_rfl) | ((with_reducible show eqTyOk _ _ = true); kernel_rfl) | rfl | exact trivial | ((repeat' (first | exact trivial | refine And.intro ?_ ?_)); done) | decide | ((repeat' (first | exact List.forall_mem_nil _ | refine List.forall_mem_cons.2 (And.intro rfl ?_))); done) | (refine And.intro ?_ ?_ <;> simp only [List.length_map, List.length_append, List.length_cons, List.length_nil] <;> omega))
  intro ⟨⟨k, d⟩, hk, hd, hr⟩
  dsimp only at hk hd hr ⊢
  cases k with
  | zero =>
    rw [cDrop] at hr
    subst hr
    repeat' ((conv => whnf); first | refine seq_inl ?_ | refine reg_inl ?_ | refine And.intro (Obl.out (?_ : Obl _)) ?_ | refine ifB_intro (fun h => ?_) (fun h => ?_) | refine Exists.intro _ (And.intro rfl ?_) | ((with_reducible show _ = _); rfl))
    all_goals try ((with_reducible refine Obl.mk ?_); first | ((with_reducible show regOk _ _ = true); kernel_rfl) | ((with_reducible show eqTyOk _ _ = true); kernel_rfl) | rfl | exact trivial | ((repeat' (first | exact trivial | refine And.intro ?_ ?_)); done) | decide | ((repeat' (first | exact List.forall_mem_nil _ | refine List.forall_mem_cons.2 (And.intro rfl ?_))); done) | (refine And.intro ?_ ?_ <;> simp only [List.length_map, List.length_append, List.length_cons, List.length_nil] <;> omega))
    all_goals try (exfalso; have h' := of_decide_eq_true h; omega)
  | succ k =>
    rw [cDrop] at hr
    have hP := g_core_pop d hd
    repeat' ((conv => whnf); first | refine callG_intro (hP) ?_ | refine seq_inl ?_ | refine reg_inl ?_ | refine And.intro (Obl.out (?_ : Obl _)) ?_ | refine ifB_intro (fun h => ?_) (fun h => ?_) | refine Exists.intro _ (And.intro rfl ?_) | ((with_reducible show _ = _); rfl))
    all_goals try ((with_reducible refine Obl.mk ?_); first | ((with_reducible show regOk _ _ = true); kernel_rfl) | ((with_reducible show eqTyOk _ _ = true); kernel_rfl) | rfl | exact trivial | ((repeat' (first | exact trivial | refine And.intro ?_ ?_)); done) | decide | ((repeat' (first | exact List.forall_mem_nil _ | refine List.forall_mem_cons.2 (And.intro rfl ?_))); done) | (refine And.intro ?_ ?_ <;> simp only [List.length_map, List.length_append, List.length_cons, List.length_nil] <;> omega))
    all_goals try (exfalso; have h' := of_decide_eq_false h; omega)
    conv => whnf
    refine ⟨⟨(k, cPop d), by dsimp only; omega, cPop_ok hd, hr⟩, ?_, by dsimp only; omega⟩
    repeat' ((conv => whnf); first | refine seq_inl ?_ | refine reg_inl ?_ | refine And.intro (Obl.out (?_ : Obl _)) ?_ | refine ifB_intro (fun h => ?_) (fun h => ?_) | refine Exists.intro _ (And.intro rfl ?_) | ((with_reducible show _ = _); rfl))
    all_goals try ((with_reducible refine Obl.mk ?_); first | ((with_reducible show regOk _ _ = true); kernel_rfl) | ((with_reducible show eqTyOk _ _ = true); kernel_rfl) | rfl | exact trivial | ((repeat' (first | exact trivial | refine And.intro ?_ ?_)); done) | decide | ((repeat' (first | exact List.forall_mem_nil _ | refine List.forall_mem_cons.2 (And.intro rfl ?_))); done) | (refine And.intro ?_ ?_ <;> simp only [List.length_map, List.length_append, List.length_cons, List.length_nil] <;> omega))
    all_goals try (refine ⟨congrArg (Tr.int _) ?_⟩; dsimp only; rw [IntWalk.i64_in _ (by omega)]; omega)
theorem g_core_zeros (c : CS) (n : Nat) (hc : c.ok) (hn : n ≤ 65536) : SpecG Try.prog 203 [coreP, tI .i64 (n : Int)] (coreH c) (.tup []) (coreH (cZeros n c)) := by
  refine specG_of_W hΓ hmix Try.func203 rfl (by decide) rfl rfl ?_
  obtain ⟨R, hR⟩ : ∃ R, cZeros n c = R := ⟨_, rfl⟩
  rw [hR]
  repeat' ((conv => whnf); first | refine seq_inl ?_ | refine reg_inl ?_ | refine And.intro (Obl.out (?_ : Obl _)) ?_ | refine ifB_intro (fun h => ?_) (fun h => ?_) | refine Exists.intro _ (And.intro rfl ?_) | ((with_reducible show _ = _); rfl))
  all_goals try ((with_reducible refine Obl.mk ?_); first | ((with_reducible show regOk _ _ = true); kernel_rfl) | ((with_reducible show eqTyOk _ _ = true); kernel_rfl) | rfl | exact trivial | ((repeat' (first | exact trivial | refine And.intro ?_ ?_)); done) | decide | ((repeat' (first | exact List.forall_mem_nil _ | refine List.forall_mem_cons.2 (And.intro rfl ?_))); done) | (refine And.intro ?_ ?_ <;> simp only [List.length_map, List.length_append, List.length_cons, List.length_nil] <;> omega))
  conv => whnf
  refine ⟨{ q : Nat × CS // q.1 ≤ 65536 ∧ q.2.ok ∧ cZeros q.1 q.2 = R }, fun q => ⟨[(0, coreP), (1, tI .i64 (q.1.1 : Int))], (coreH q.1.2).map fun p => (p.1, some p.2), [0]⟩, fun q => q.1.1, ⟨(n, c), hn, hc, hR⟩, ?_, ?_⟩
  · skip
    repeat' ((conv => whnf); first | refine seq_inl ?_ | refine reg_inl ?_ | refine And.intro (Obl.out (?_ : Obl _)) ?_ | refine ifB_intro (fun h => ?_) (fun h => ?_) | refine Exists.intro _ (And.intro rfl ?_) | ((with_reducible show _ = _); rfl))
    all_goals try ((with_reducible refine Obl.mk ?_); first | ((with_reducible show regOk _ _ = true); kernel_rfl) | ((with_reducible show eqTyOk _ _ = true); kernel_rfl) | rfl | exact trivial | ((repeat' (first | exact trivial | refine And.intro ?_ ?_)); done) | decide | ((repeat' (first | exact List.forall_mem_nil _ | refine List.forall_mem_cons.2 (And.intro rfl ?_))); done) | (refine And.intro ?_ ?_ <;> simp only [List.length_map, List.length_append, List.length_cons, List.length_nil] <;> omega))
  intro ⟨⟨k, d⟩, hk, hd, hr⟩
  dsimp only at hk hd hr ⊢
  cases k with
  | zero =>
    rw [cZeros] at hr
    subst hr
    repeat' ((conv => whnf); first | refine seq_inl ?_ | refine reg_inl ?_ | refine And.intro (Obl.out (?_ : Obl _)) ?_ | refine ifB_intro (fun h => ?_) (fun h => ?_) | refine Exists.intro _ (And.intro rfl ?_) | ((with_reducible show _ = _); rfl))
    all_goals try ((with_reducible refine Obl.mk ?_); first | ((with_reducible show regOk _ _ = true); kernel_rfl) | ((with_reducible show eqTyOk _ _ = true); kernel_rfl) | rfl | exact trivial | ((repeat' (first | exact trivial | refine And.intro ?_ ?_)); done) | decide | ((repeat' (first | exact List.forall_mem_nil _ | refine List.forall_mem_cons.2 (And.intro rfl ?_))); done) | (refine And.intro ?_ ?_ <;> simp only [List.length_map, List.length_append, List.length_cons, List.length_nil] <;> omega))
    all_goals try (exfalso; have h' := of_decide_eq_true h; omega)
  | succ k =>
    rw [cZeros] at hr
    have hP := g_core_push d 0 hd
    repeat' ((conv => whnf); first | refine callG_intro (hP) ?_ | refine seq_inl ?_ | refine reg_inl ?_ | refine And.intro (Obl.out (?_ : Obl _)) ?_ | refine ifB_intro (fun h => ?_) (fun h => ?_) | refine Exists.intro _ (And.intro rfl ?_) | ((with_reducible show _ = _); rfl))
    all_goals try ((with_reducible refine Obl.mk ?_); first | ((with_reducible show regOk _ _ = true); kernel_rfl) | ((with_reducible show eqTyOk _ _ = true); kernel_rfl) | rfl | exact trivial | ((repeat' (first | exact trivial | refine And.intro ?_ ?_)); done) | decide | ((repeat' (first | exact List.forall_mem_nil _ | refine List.forall_mem_cons.2 (And.intro rfl ?_))); done) | (refine And.intro ?_ ?_ <;> simp only [List.length_map, List.length_append, List.length_cons, List.length_nil] <;> omega))
    all_goals try (exfalso; have h' := of_decide_eq_false h; omega)
    conv => whnf
    refine ⟨⟨(k, cPush d 0), by dsimp only; omega, cPush_ok hd, hr⟩, ?_, by dsimp only; omega⟩
    repeat' ((conv => whnf); first | refine seq_inl ?_ | refine reg_inl ?_ | refine And.intro (Obl.out (?_ : Obl _)) ?_ | refine ifB_intro (fun h => ?_) (fun h => ?_) | refine Exists.intro _ (And.intro rfl ?_) | ((with_reducible show _ = _); rfl))
    all_goals try ((with_reducible refine Obl.mk ?_); first | ((with_reducible show regOk _ _ = true); kernel_rfl) | ((with_reducible show eqTyOk _ _ = true); kernel_rfl) | rfl | exact trivial | ((repeat' (first | exact trivial | refine And.intro ?_ ?_)); done) | decide | ((repeat' (first | exact List.forall_mem_nil _ | refine List.forall_mem_cons.2 (And.intro rfl ?_))); done) | (refine And.intro ?_ ?_ <;> simp only [List.length_map, List.length_append, List.length_cons, List.length_nil] <;> omega))
    all_goals try (refine ⟨congrArg (Tr.int _) ?_⟩; dsimp only; rw [IntWalk.i64_in _ (by omega)]; omega)
theorem g_core_load (c : CS) (a : Int) (hc : c.ok) : SpecG Try.prog 199 [coreP, tI .i64 a] (coreH c) (.tup []) (coreH (cLoad c a)) := by
  refine specG_of_W hΓ hmix Try.func199 rfl (by decide) rfl rfl ?_
  have hA := g_core_at c a
  obtain ⟨m, bad⟩ := c
  unfold CS.ok at hc
  unfold cLoad cAt at *
  dsimp only at hA hc ⊢
  cases hB : (bad || !inStk a) with
  | true =>
    rw [hB] at hA
    repeat' ((conv => whnf); first | refine callG_intro (hA) ?_ | refine seq_inl ?_ | refine reg_inl ?_ | refine And.intro (Obl.out (?_ : Obl _)) ?_ | refine ifB_intro (fun h => ?_) (fun h => ?_) | refine Exists.intro _ (And.intro rfl ?_) | ((with_reducible show _ = _); rfl))
    all_goals try ((with_reducible refine Obl.mk ?_); first | ((with_reducible show regOk _ _ = true); kernel_rfl) | ((with_reducible show eqTyOk _ _ = true); kernel_rfl) | rfl | exact trivial | ((repeat' (first | exact trivial | refine And.intro ?_ ?_)); done) | decide | ((repeat' (first | exact List.forall_mem_nil _ | refine List.forall_mem_cons.2 (And.intro rfl ?_))); done) | (refine And.intro ?_ ?_ <;> simp only [List.length_map, List.length_append, List.length_cons, List.length_nil] <;> omega))
    all_goals try (exfalso; simp at h; done)
  | false =>
    rw [hB] at hA
    obtain ⟨_, hin⟩ := or_false2 hB
    obtain ⟨j, x, hj, hx, hlt, hj2⟩ := stk_at hc hin
    have hlen : (m.fStack.map intRow).length = m.fStack.length := by simp
    have hP := g_core_push ⟨m, false⟩ x hc
    have hwd : wordAt m a = x := by simp [wordAt, hj, hx]
    rw [hwd]
    repeat' ((conv => whnf); first | refine callG_intro (hA) ?_ | refine seq_inl ?_ | refine reg_inl ?_ | refine And.intro (Obl.out (?_ : Obl _)) ?_ | refine ifB_intro (fun h => ?_) (fun h => ?_) | refine Exists.intro _ (And.intro rfl ?_) | ((with_reducible show _ = _); rfl))
    all_goals try ((with_reducible refine Obl.mk ?_); first | ((with_reducible show regOk _ _ = true); kernel_rfl) | ((with_reducible show eqTyOk _ _ = true); kernel_rfl) | rfl | exact trivial | ((repeat' (first | exact trivial | refine And.intro ?_ ?_)); done) | decide | ((repeat' (first | exact List.forall_mem_nil _ | refine List.forall_mem_cons.2 (And.intro rfl ?_))); done) | (refine And.intro ?_ ?_ <;> simp only [List.length_map, List.length_append, List.length_cons, List.length_nil] <;> omega))
    conv => whnf
    refine ⟨j, hj, by rw [hlen]; exact hlt, ?_⟩
    repeat' ((conv => whnf); first | refine callG_intro (hP) ?_ | refine seq_inl ?_ | refine reg_inl ?_ | refine And.intro (Obl.out (?_ : Obl _)) ?_ | refine ifB_intro (fun h => ?_) (fun h => ?_) | refine ⟨(intRow x), map_get hx, ?_⟩ | refine Exists.intro _ (And.intro rfl ?_) | ((with_reducible show _ = _); rfl))
    all_goals try ((with_reducible refine Obl.mk ?_); first | ((with_reducible show regOk _ _ = true); kernel_rfl) | ((with_reducible show eqTyOk _ _ = true); kernel_rfl) | rfl | exact trivial | ((repeat' (first | exact trivial | refine And.intro ?_ ?_)); done) | decide | ((repeat' (first | exact List.forall_mem_nil _ | refine List.forall_mem_cons.2 (And.intro rfl ?_))); done) | (refine And.intro ?_ ?_ <;> simp only [List.length_map, List.length_append, List.length_cons, List.length_nil] <;> omega))
    all_goals try (exfalso; simp at h; done)
theorem g_core_store (c : CS) (a : Int) (hc : c.ok) : SpecG Try.prog 200 [coreP, tI .i64 a] (coreH c) (.tup []) (coreH (cStore c a)) := by
  refine specG_of_W hΓ hmix Try.func200 rfl (by decide) rfl rfl ?_
  have hP := g_core_pop c hc
  have hA := g_core_at (cPop c) a
  have hok := cPop_ok hc
  generalize hD : cPop c = d at *
  unfold cStore cAt at *
  rw [hD]
  obtain ⟨m, bad⟩ := d
  unfold CS.ok at hok
  dsimp only at hA hok ⊢
  cases hB : (bad || !inStk a) with
  | true =>
    rw [hB] at hA
    repeat' ((conv => whnf); first | refine callG_intro (hP) ?_ | refine callG_intro (hA) ?_ | refine seq_inl ?_ | refine reg_inl ?_ | refine And.intro (Obl.out (?_ : Obl _)) ?_ | refine ifB_intro (fun h => ?_) (fun h => ?_) | refine Exists.intro _ (And.intro rfl ?_) | ((with_reducible show _ = _); rfl))
    all_goals try ((with_reducible refine Obl.mk ?_); first | ((with_reducible show regOk _ _ = true); kernel_rfl) | ((with_reducible show eqTyOk _ _ = true); kernel_rfl) | rfl | exact trivial | ((repeat' (first | exact trivial | refine And.intro ?_ ?_)); done) | decide | ((repeat' (first | exact List.forall_mem_nil _ | refine List.forall_mem_cons.2 (And.intro rfl ?_))); done) | (refine And.intro ?_ ?_ <;> simp only [List.length_map, List.length_append, List.length_cons, List.length_nil] <;> omega))
    all_goals try (exfalso; simp at h; done)
  | false =>
    rw [hB] at hA
    obtain ⟨_, hin⟩ := or_false2 hB
    obtain ⟨j, x, hj, hx, hlt, hj2⟩ := stk_at hok hin
    have hlen : (m.fStack.map intRow).length = m.fStack.length := by simp
    repeat' ((conv => whnf); first | refine callG_intro (hP) ?_ | refine callG_intro (hA) ?_ | refine seq_inl ?_ | refine reg_inl ?_ | refine And.intro (Obl.out (?_ : Obl _)) ?_ | refine ifB_intro (fun h => ?_) (fun h => ?_) | refine Exists.intro _ (And.intro rfl ?_) | ((with_reducible show _ = _); rfl))
    all_goals try ((with_reducible refine Obl.mk ?_); first | ((with_reducible show regOk _ _ = true); kernel_rfl) | ((with_reducible show eqTyOk _ _ = true); kernel_rfl) | rfl | exact trivial | ((repeat' (first | exact trivial | refine And.intro ?_ ?_)); done) | decide | ((repeat' (first | exact List.forall_mem_nil _ | refine List.forall_mem_cons.2 (And.intro rfl ?_))); done) | (refine And.intro ?_ ?_ <;> simp only [List.length_map, List.length_append, List.length_cons, List.length_nil] <;> omega))
    conv => whnf
    refine ⟨j, hj, by rw [hlen]; exact hlt, ?_⟩
    repeat' ((conv => whnf); first | refine seq_inl ?_ | refine reg_inl ?_ | refine And.intro (Obl.out (?_ : Obl _)) ?_ | refine ifB_intro (fun h => ?_) (fun h => ?_) | refine ⟨(intRow x), map_get hx, ?_⟩ | refine Exists.intro _ (And.intro rfl ?_) | ((with_reducible show _ = _); rfl))
    all_goals try ((with_reducible refine Obl.mk ?_); first | ((with_reducible show regOk _ _ = true); kernel_rfl) | ((with_reducible show eqTyOk _ _ = true); kernel_rfl) | rfl | exact trivial | ((repeat' (first | exact trivial | refine And.intro ?_ ?_)); done) | decide | ((repeat' (first | exact List.forall_mem_nil _ | refine List.forall_mem_cons.2 (And.intro rfl ?_))); done) | (refine And.intro ?_ ?_ <;> simp only [List.length_map, List.length_append, List.length_cons, List.length_nil] <;> omega))
    all_goals try (exfalso; simp at h; done)
    all_goals try (refine ⟨?_⟩; rw [← show a.toNat = j by rw [hj]; rfl]; exact map_set')
def cJump (c : CS) (a : Int) : CS := ⟨{ c.m with fPc := wr (c.m.fPc + a) }, c.bad⟩
def cArith (c : CS) (k : Int) : CS := cPush (cPop (cPop c)) (applyP k (cTop (cPop c)) (cTop c))
def cZero (c : CS) (a : Int) : CS := if cTop c = 0 then cJump (cPop c) a else cPop c
def cGoto (c : CS) (es : List Int) (a : Int) : CS := match es[a.toNat]? with
  | some e => ⟨{ c.m with fPc := e }, c.bad⟩
  | none => ⟨c.m, true⟩
def cEnter (c : CS) (n : Nat) : CS := cZeros n ⟨{ (cPush c c.m.fFp).m with fFp := (cPush c c.m.fFp).m.fSp }, (cPush c c.m.fFp).bad⟩
def cFp (c : CS) : CS := ⟨{ (cPop c).m with fFp := cTop c }, (cPop c).bad⟩
def cPc (c : CS) : CS := ⟨{ (cPop c).m with fPc := cTop c }, (cPop c).bad⟩
def cCut (c : CS) : CS := ⟨{ c.m with fSp := c.m.fFp }, c.bad⟩
def cLeave (c : CS) (n : Nat) : CS := cPush (cDrop n (cPc (cFp (cCut (cPop c))))) (cTop c)
def cReturn (c : CS) (n : Nat) : CS := cPush (cDrop (n % 16) (cPc (cDrop (n / 16) (cPop c)))) (cTop c)
def cOut (c : CS) : CS := ⟨{ (cPop c).m with fOut := (cPop c).m.fOut ++ [cTop c] }, (cPop c).bad⟩
def cPerf (es : List Int) (c : CS) (x : TOp) : CS :=
  if x.fCode = 0 then cPush c x.fArg
  else if x.fCode = 1 then cLoad c (wr (c.m.fFp + x.fArg))
  else if x.fCode = 3 then cLoad c (wr (c.m.fSp + x.fArg))
  else if x.fCode = 2 then cStore c (wr (c.m.fFp + x.fArg))
  else if x.fCode = 4 then cStore c (wr (c.m.fSp + x.fArg))
  else if 5 ≤ x.fCode ∧ x.fCode ≤ 9 then cArith c (x.fCode - 3)
  else if x.fCode = 10 then cJump c x.fArg
  else if x.fCode = 11 then cZero c x.fArg
  else if x.fCode = 12 then cGoto (cPush c c.m.fPc) es x.fArg
  else if x.fCode = 13 then cEnter c x.fArg.toNat
  else if x.fCode = 15 then cZeros x.fArg.toNat c
  else if x.fCode = 14 then cLeave c x.fArg.toNat
  else if x.fCode = 16 then cReturn c x.fArg.toNat
  else if x.fCode = 17 then cOut c
  else c
abbrev opV (x : TOp) : AV := .r (.agg [.t (.int .i64 x.fCode), .t (.int .i64 x.fArg)])
abbrev outH (c : CS) : List (Sim.Id × AO) := [((0, 0, 0), .box [.ptr (0, 0, 1) 0, .t (.bool c.bad)]), ((0, 0, 1), mBox c.m (0, 0, 2) (1, 0, 0)), ((0, 0, 2), .arr false 1 (c.m.fStack.map intRow)), ((1, 0, 0), .arr false 1 (c.m.fOut.map intRow))]
theorem g_core_perform (s : TSpace) (c : CS) (x : TOp) (hc : c.ok) (hx : x.fCode ≠ 17) (ha : 12 ≤ x.fCode → x.fCode ≤ 16 → 0 ≤ x.fArg ∧ x.fArg ≤ 65536) (he : s.fEntries.length ≤ 1048576) : SpecG Try.prog 137 [coreP, .r (.agg (s.tr.map .t)), opV x] (coreH c) (.tup []) (coreH (cPerf s.fEntries c x)) := by
  obtain ⟨k, a⟩ := x
  dsimp only at hx ha
  refine specG_of_W hΓ hmix Try.func137 rfl (by decide) rfl rfl ?_
  by_cases h0 : k = 0
  · subst h0
    have hP := g_core_push c a hc
    repeat' ((conv => whnf); first | refine callG_intro (hP) ?_ | refine seq_inl ?_ | refine reg_inl ?_ | refine And.intro (Obl.out (?_ : Obl _)) ?_ | refine ifB_intro (fun h => ?_) (fun h => ?_) | refine Exists.intro _ (And.intro rfl ?_) | ((with_reducible show _ = _); rfl))
    all_goals try ((with_reducible refine Obl.mk ?_); first | ((with_reducible show regOk _ _ = true); kernel_rfl) | ((with_reducible show eqTyOk _ _ = true); kernel_rfl) | rfl | exact trivial | ((repeat' (first | exact trivial | refine And.intro ?_ ?_)); done) | decide | ((repeat' (first | exact List.forall_mem_nil _ | refine List.forall_mem_cons.2 (And.intro rfl ?_))); done) | (refine And.intro ?_ ?_ <;> simp only [List.length_map, List.length_append, List.length_cons, List.length_nil] <;> omega))
  by_cases h1 : k = 1
  · subst h1
    have hP := g_core_load c (wr (c.m.fFp + a)) hc
    repeat' ((conv => whnf); first | refine callG_intro (hP) ?_ | refine seq_inl ?_ | refine reg_inl ?_ | refine And.intro (Obl.out (?_ : Obl _)) ?_ | refine ifB_intro (fun h => ?_) (fun h => ?_) | refine Exists.intro _ (And.intro rfl ?_) | ((with_reducible show _ = _); rfl))
    all_goals try ((with_reducible refine Obl.mk ?_); first | ((with_reducible show regOk _ _ = true); kernel_rfl) | ((with_reducible show eqTyOk _ _ = true); kernel_rfl) | rfl | exact trivial | ((repeat' (first | exact trivial | refine And.intro ?_ ?_)); done) | decide | ((repeat' (first | exact List.forall_mem_nil _ | refine List.forall_mem_cons.2 (And.intro rfl ?_))); done) | (refine And.intro ?_ ?_ <;> simp only [List.length_map, List.length_append, List.length_cons, List.length_nil] <;> omega))
  by_cases h3 : k = 3
  · subst h3
    have hP := g_core_load c (wr (c.m.fSp + a)) hc
    repeat' ((conv => whnf); first | refine callG_intro (hP) ?_ | refine seq_inl ?_ | refine reg_inl ?_ | refine And.intro (Obl.out (?_ : Obl _)) ?_ | refine ifB_intro (fun h => ?_) (fun h => ?_) | refine Exists.intro _ (And.intro rfl ?_) | ((with_reducible show _ = _); rfl))
    all_goals try ((with_reducible refine Obl.mk ?_); first | ((with_reducible show regOk _ _ = true); kernel_rfl) | ((with_reducible show eqTyOk _ _ = true); kernel_rfl) | rfl | exact trivial | ((repeat' (first | exact trivial | refine And.intro ?_ ?_)); done) | decide | ((repeat' (first | exact List.forall_mem_nil _ | refine List.forall_mem_cons.2 (And.intro rfl ?_))); done) | (refine And.intro ?_ ?_ <;> simp only [List.length_map, List.length_append, List.length_cons, List.length_nil] <;> omega))
  by_cases h2 : k = 2
  · subst h2
    have hP := g_core_store c (wr (c.m.fFp + a)) hc
    repeat' ((conv => whnf); first | refine callG_intro (hP) ?_ | refine seq_inl ?_ | refine reg_inl ?_ | refine And.intro (Obl.out (?_ : Obl _)) ?_ | refine ifB_intro (fun h => ?_) (fun h => ?_) | refine Exists.intro _ (And.intro rfl ?_) | ((with_reducible show _ = _); rfl))
    all_goals try ((with_reducible refine Obl.mk ?_); first | ((with_reducible show regOk _ _ = true); kernel_rfl) | ((with_reducible show eqTyOk _ _ = true); kernel_rfl) | rfl | exact trivial | ((repeat' (first | exact trivial | refine And.intro ?_ ?_)); done) | decide | ((repeat' (first | exact List.forall_mem_nil _ | refine List.forall_mem_cons.2 (And.intro rfl ?_))); done) | (refine And.intro ?_ ?_ <;> simp only [List.length_map, List.length_append, List.length_cons, List.length_nil] <;> omega))
  by_cases h4 : k = 4
  · subst h4
    have hP := g_core_store c (wr (c.m.fSp + a)) hc
    repeat' ((conv => whnf); first | refine callG_intro (hP) ?_ | refine seq_inl ?_ | refine reg_inl ?_ | refine And.intro (Obl.out (?_ : Obl _)) ?_ | refine ifB_intro (fun h => ?_) (fun h => ?_) | refine Exists.intro _ (And.intro rfl ?_) | ((with_reducible show _ = _); rfl))
    all_goals try ((with_reducible refine Obl.mk ?_); first | ((with_reducible show regOk _ _ = true); kernel_rfl) | ((with_reducible show eqTyOk _ _ = true); kernel_rfl) | rfl | exact trivial | ((repeat' (first | exact trivial | refine And.intro ?_ ?_)); done) | decide | ((repeat' (first | exact List.forall_mem_nil _ | refine List.forall_mem_cons.2 (And.intro rfl ?_))); done) | (refine And.intro ?_ ?_ <;> simp only [List.length_map, List.length_append, List.length_cons, List.length_nil] <;> omega))
  by_cases h10 : k = 10
  · subst h10
    repeat' ((conv => whnf); first | refine seq_inl ?_ | refine reg_inl ?_ | refine And.intro (Obl.out (?_ : Obl _)) ?_ | refine ifB_intro (fun h => ?_) (fun h => ?_) | refine Exists.intro _ (And.intro rfl ?_) | ((with_reducible show _ = _); rfl))
    all_goals try ((with_reducible refine Obl.mk ?_); first | ((with_reducible show regOk _ _ = true); kernel_rfl) | ((with_reducible show eqTyOk _ _ = true); kernel_rfl) | rfl | exact trivial | ((repeat' (first | exact trivial | refine And.intro ?_ ?_)); done) | decide | ((repeat' (first | exact List.forall_mem_nil _ | refine List.forall_mem_cons.2 (And.intro rfl ?_))); done) | (refine And.intro ?_ ?_ <;> simp only [List.length_map, List.length_append, List.length_cons, List.length_nil] <;> omega))
  by_cases h59 : 5 ≤ k ∧ k ≤ 9
  · have hP1 := g_core_pop c hc
    have hP2 := g_core_pop (cPop c) (cPop_ok hc)
    have hP3 := g_core_push (cPop (cPop c)) (applyP (k - 3) (cTop (cPop c)) (cTop c)) (cPop_ok (cPop_ok hc))
    have hA := s_impl_Apply (k - 3) (cTop (cPop c)) (cTop c)
    have e : k = 5 ∨ k = 6 ∨ k = 7 ∨ k = 8 ∨ k = 9 := by omega
    rcases e with rfl | rfl | rfl | rfl | rfl
    all_goals
      repeat' ((conv => whnf); first | refine seq_inl ?_ | refine reg_inl ?_ | refine And.intro (Obl.out (?_ : Obl _)) ?_ | refine ifB_intro (fun h => ?_) (fun h => ?_) | refine Exists.intro _ (And.intro rfl ?_) | ((with_reducible show _ = _); rfl))
      all_goals try ((with_reducible refine Obl.mk ?_); first | ((with_reducible show regOk _ _ = true); kernel_rfl) | ((with_reducible show eqTyOk _ _ = true); kernel_rfl) | rfl | exact trivial | ((repeat' (first | exact trivial | refine And.intro ?_ ?_)); done) | decide | ((repeat' (first | exact List.forall_mem_nil _ | refine List.forall_mem_cons.2 (And.intro rfl ?_))); done) | (refine And.intro ?_ ?_ <;> simp only [List.length_map, List.length_append, List.length_cons, List.length_nil] <;> omega))
      refine callG_intro (hP1) ?_
      repeat' ((conv => whnf); first | refine seq_inl ?_ | refine reg_inl ?_ | refine And.intro (Obl.out (?_ : Obl _)) ?_ | refine ifB_intro (fun h => ?_) (fun h => ?_) | refine Exists.intro _ (And.intro rfl ?_) | ((with_reducible show _ = _); rfl))
      all_goals try ((with_reducible refine Obl.mk ?_); first | ((with_reducible show regOk _ _ = true); kernel_rfl) | ((with_reducible show eqTyOk _ _ = true); kernel_rfl) | rfl | exact trivial | ((repeat' (first | exact trivial | refine And.intro ?_ ?_)); done) | decide | ((repeat' (first | exact List.forall_mem_nil _ | refine List.forall_mem_cons.2 (And.intro rfl ?_))); done) | (refine And.intro ?_ ?_ <;> simp only [List.length_map, List.length_append, List.length_cons, List.length_nil] <;> omega))
      refine callG_intro (hP2) ?_
      repeat' ((conv => whnf); first | refine seq_inl ?_ | refine reg_inl ?_ | refine And.intro (Obl.out (?_ : Obl _)) ?_ | refine ifB_intro (fun h => ?_) (fun h => ?_) | refine Or.inl (call_intro (hA) (And.intro rfl (And.intro rfl (And.intro rfl trivial))) ?_) | refine Exists.intro _ (And.intro rfl ?_) | ((with_reducible show _ = _); rfl))
      all_goals try ((with_reducible refine Obl.mk ?_); first | ((with_reducible show regOk _ _ = true); kernel_rfl) | ((with_reducible show eqTyOk _ _ = true); kernel_rfl) | rfl | exact trivial | ((repeat' (first | exact trivial | refine And.intro ?_ ?_)); done) | decide | ((repeat' (first | exact List.forall_mem_nil _ | refine List.forall_mem_cons.2 (And.intro rfl ?_))); done) | (refine And.intro ?_ ?_ <;> simp only [List.length_map, List.length_append, List.length_cons, List.length_nil] <;> omega))
      refine callG_intro (hP3) ?_
      repeat' ((conv => whnf); first | refine seq_inl ?_ | refine reg_inl ?_ | refine And.intro (Obl.out (?_ : Obl _)) ?_ | refine ifB_intro (fun h => ?_) (fun h => ?_) | refine Exists.intro _ (And.intro rfl ?_) | ((with_reducible show _ = _); rfl))
      all_goals try ((with_reducible refine Obl.mk ?_); first | ((with_reducible show regOk _ _ = true); kernel_rfl) | ((with_reducible show eqTyOk _ _ = true); kernel_rfl) | rfl | exact trivial | ((repeat' (first | exact trivial | refine And.intro ?_ ?_)); done) | decide | ((repeat' (first | exact List.forall_mem_nil _ | refine List.forall_mem_cons.2 (And.intro rfl ?_))); done) | (refine And.intro ?_ ?_ <;> simp only [List.length_map, List.length_append, List.length_cons, List.length_nil] <;> omega))
  by_cases h11 : k = 11
  · subst h11
    have hP := g_core_pop c hc
    by_cases hz : cTop c = 0
    · rw [show cPerf s.fEntries c ⟨11, a⟩ = cJump (cPop c) a by simp [cPerf, cZero, hz]]
      repeat' ((conv => whnf); first | refine callG_intro (hP) ?_ | refine seq_inl ?_ | refine reg_inl ?_ | refine And.intro (Obl.out (?_ : Obl _)) ?_ | refine ifB_intro (fun h => ?_) (fun h => ?_) | refine Exists.intro _ (And.intro rfl ?_) | ((with_reducible show _ = _); rfl))
      all_goals try ((with_reducible refine Obl.mk ?_); first | ((with_reducible show regOk _ _ = true); kernel_rfl) | ((with_reducible show eqTyOk _ _ = true); kernel_rfl) | rfl | exact trivial | ((repeat' (first | exact trivial | refine And.intro ?_ ?_)); done) | decide | ((repeat' (first | exact List.forall_mem_nil _ | refine List.forall_mem_cons.2 (And.intro rfl ?_))); done) | (refine And.intro ?_ ?_ <;> simp only [List.length_map, List.length_append, List.length_cons, List.length_nil] <;> omega))
      all_goals try (exfalso; rw [hz] at h; simp at h; done)
    · rw [show cPerf s.fEntries c ⟨11, a⟩ = cPop c by simp [cPerf, cZero, hz]]
      repeat' ((conv => whnf); first | refine callG_intro (hP) ?_ | refine seq_inl ?_ | refine reg_inl ?_ | refine And.intro (Obl.out (?_ : Obl _)) ?_ | refine ifB_intro (fun h => ?_) (fun h => ?_) | refine Exists.intro _ (And.intro rfl ?_) | ((with_reducible show _ = _); rfl))
      all_goals try ((with_reducible refine Obl.mk ?_); first | ((with_reducible show regOk _ _ = true); kernel_rfl) | ((with_reducible show eqTyOk _ _ = true); kernel_rfl) | rfl | exact trivial | ((repeat' (first | exact trivial | refine And.intro ?_ ?_)); done) | decide | ((repeat' (first | exact List.forall_mem_nil _ | refine List.forall_mem_cons.2 (And.intro rfl ?_))); done) | (refine And.intro ?_ ?_ <;> simp only [List.length_map, List.length_append, List.length_cons, List.length_nil] <;> omega))
      all_goals try (exfalso; exact hz (by simpa using h))
  by_cases h12 : k = 12
  · subst h12
    obtain ⟨a0, a1⟩ := ha (by omega) (by omega)
    obtain ⟨n, rfl⟩ := Int.eq_ofNat_of_zero_le a0
    have hP := g_core_push c c.m.fPc hc
    have hel : (s.fEntries.map intRow).length = s.fEntries.length := by simp
    by_cases hn : n < s.fEntries.length
    · obtain ⟨e, hee⟩ := get_of_lt hn
      rw [show cPerf s.fEntries c ⟨12, (n : Int)⟩ = ⟨{ (cPush c c.m.fPc).m with fPc := e }, (cPush c c.m.fPc).bad⟩ by simp [cPerf, cGoto, hee]]
      repeat' ((conv => whnf); first | refine callG_intro (hP) ?_ | refine seq_inl ?_ | refine reg_inl ?_ | refine And.intro (Obl.out (?_ : Obl _)) ?_ | refine ifB_intro (fun h => ?_) (fun h => ?_) | refine ⟨n, (intRow e), rfl, map_get hee, ?_⟩ | refine Exists.intro _ (And.intro rfl ?_) | ((with_reducible show _ = _); rfl))
      all_goals try ((with_reducible refine Obl.mk ?_); first | ((with_reducible show regOk _ _ = true); kernel_rfl) | ((with_reducible show eqTyOk _ _ = true); kernel_rfl) | rfl | exact trivial | ((repeat' (first | exact trivial | refine And.intro ?_ ?_)); done) | decide | ((repeat' (first | exact List.forall_mem_nil _ | refine List.forall_mem_cons.2 (And.intro rfl ?_))); done) | (refine And.intro ?_ ?_ <;> simp only [List.length_map, List.length_append, List.length_cons, List.length_nil] <;> omega))
      all_goals try (exfalso; have h' := of_decide_eq_false h; rw [hel] at h'; dsimp only at h'; omega)
    · have hnone : s.fEntries[n]? = none := List.getElem?_eq_none (by omega)
      rw [show cPerf s.fEntries c ⟨12, (n : Int)⟩ = ⟨(cPush c c.m.fPc).m, true⟩ by simp [cPerf, cGoto, hnone]]
      repeat' ((conv => whnf); first | refine callG_intro (hP) ?_ | refine seq_inl ?_ | refine reg_inl ?_ | refine And.intro (Obl.out (?_ : Obl _)) ?_ | refine ifB_intro (fun h => ?_) (fun h => ?_) | refine Exists.intro _ (And.intro rfl ?_) | ((with_reducible show _ = _); rfl))
      all_goals try ((with_reducible refine Obl.mk ?_); first | ((with_reducible show regOk _ _ = true); kernel_rfl) | ((with_reducible show eqTyOk _ _ = true); kernel_rfl) | rfl | exact trivial | ((repeat' (first | exact trivial | refine And.intro ?_ ?_)); done) | decide | ((repeat' (first | exact List.forall_mem_nil _ | refine List.forall_mem_cons.2 (And.intro rfl ?_))); done) | (refine And.intro ?_ ?_ <;> simp only [List.length_map, List.length_append, List.length_cons, List.length_nil] <;> omega))
      all_goals try (exfalso; have h' := of_decide_eq_true h; rw [hel] at h'; dsimp only at h'; omega)
  by_cases h13 : k = 13
  · subst h13
    obtain ⟨a0, a1⟩ := ha (by omega) (by omega)
    obtain ⟨n, rfl⟩ := Int.eq_ofNat_of_zero_le a0
    have hP := g_core_push c c.m.fFp hc
    have hZ := g_core_zeros ⟨{ (cPush c c.m.fFp).m with fFp := (cPush c c.m.fFp).m.fSp }, (cPush c c.m.fFp).bad⟩ n (cPush_ok hc) (by omega)
    repeat' ((conv => whnf); first | refine callG_intro (hP) ?_ | refine callG_intro (hZ) ?_ | refine seq_inl ?_ | refine reg_inl ?_ | refine And.intro (Obl.out (?_ : Obl _)) ?_ | refine ifB_intro (fun h => ?_) (fun h => ?_) | refine Exists.intro _ (And.intro rfl ?_) | ((with_reducible show _ = _); rfl))
    all_goals try ((with_reducible refine Obl.mk ?_); first | ((with_reducible show regOk _ _ = true); kernel_rfl) | ((with_reducible show eqTyOk _ _ = true); kernel_rfl) | rfl | exact trivial | ((repeat' (first | exact trivial | refine And.intro ?_ ?_)); done) | decide | ((repeat' (first | exact List.forall_mem_nil _ | refine List.forall_mem_cons.2 (And.intro rfl ?_))); done) | (refine And.intro ?_ ?_ <;> simp only [List.length_map, List.length_append, List.length_cons, List.length_nil] <;> omega))
  by_cases h15 : k = 15
  · subst h15
    obtain ⟨a0, a1⟩ := ha (by omega) (by omega)
    obtain ⟨n, rfl⟩ := Int.eq_ofNat_of_zero_le a0
    have hZ := g_core_zeros c n hc (by omega)
    repeat' ((conv => whnf); first | refine callG_intro (hZ) ?_ | refine seq_inl ?_ | refine reg_inl ?_ | refine And.intro (Obl.out (?_ : Obl _)) ?_ | refine ifB_intro (fun h => ?_) (fun h => ?_) | refine Exists.intro _ (And.intro rfl ?_) | ((with_reducible show _ = _); rfl))
    all_goals try ((with_reducible refine Obl.mk ?_); first | ((with_reducible show regOk _ _ = true); kernel_rfl) | ((with_reducible show eqTyOk _ _ = true); kernel_rfl) | rfl | exact trivial | ((repeat' (first | exact trivial | refine And.intro ?_ ?_)); done) | decide | ((repeat' (first | exact List.forall_mem_nil _ | refine List.forall_mem_cons.2 (And.intro rfl ?_))); done) | (refine And.intro ?_ ?_ <;> simp only [List.length_map, List.length_append, List.length_cons, List.length_nil] <;> omega))
  by_cases h14 : k = 14
  · subst h14
    obtain ⟨a0, a1⟩ := ha (by omega) (by omega)
    obtain ⟨n, rfl⟩ := Int.eq_ofNat_of_zero_le a0
    have o1 : (cCut (cPop c)).ok := cPop_ok hc
    have o2 : (cFp (cCut (cPop c))).ok := cPop_ok o1
    have o3 : (cPc (cFp (cCut (cPop c)))).ok := cPop_ok o2
    have hP1 := g_core_pop c hc
    have hP2 := g_core_pop (cCut (cPop c)) o1
    have hP3 := g_core_pop (cFp (cCut (cPop c))) o2
    have hD := g_core_drop (cPc (cFp (cCut (cPop c)))) n o3 (by omega)
    have hP4 := g_core_push (cDrop n (cPc (cFp (cCut (cPop c))))) (cTop c) (cDrop_ok o3)
    repeat' ((conv => whnf); first | refine seq_inl ?_ | refine reg_inl ?_ | refine And.intro (Obl.out (?_ : Obl _)) ?_ | refine ifB_intro (fun h => ?_) (fun h => ?_) | refine Exists.intro _ (And.intro rfl ?_) | ((with_reducible show _ = _); rfl))
    all_goals try ((with_reducible refine Obl.mk ?_); first | ((with_reducible show regOk _ _ = true); kernel_rfl) | ((with_reducible show eqTyOk _ _ = true); kernel_rfl) | rfl | exact trivial | ((repeat' (first | exact trivial | refine And.intro ?_ ?_)); done) | decide | ((repeat' (first | exact List.forall_mem_nil _ | refine List.forall_mem_cons.2 (And.intro rfl ?_))); done) | (refine And.intro ?_ ?_ <;> simp only [List.length_map, List.length_append, List.length_cons, List.length_nil] <;> omega))
    refine callG_intro (hP1) ?_
    repeat' ((conv => whnf); first | refine seq_inl ?_ | refine reg_inl ?_ | refine And.intro (Obl.out (?_ : Obl _)) ?_ | refine ifB_intro (fun h => ?_) (fun h => ?_) | refine Exists.intro _ (And.intro rfl ?_) | ((with_reducible show _ = _); rfl))
    all_goals try ((with_reducible refine Obl.mk ?_); first | ((with_reducible show regOk _ _ = true); kernel_rfl) | ((with_reducible show eqTyOk _ _ = true); kernel_rfl) | rfl | exact trivial | ((repeat' (first | exact trivial | refine And.intro ?_ ?_)); done) | decide | ((repeat' (first | exact List.forall_mem_nil _ | refine List.forall_mem_cons.2 (And.intro rfl ?_))); done) | (refine And.intro ?_ ?_ <;> simp only [List.length_map, List.length_append, List.length_cons, List.length_nil] <;> omega))
    refine callG_intro (hP2) ?_
    repeat' ((conv => whnf); first | refine seq_inl ?_ | refine reg_inl ?_ | refine And.intro (Obl.out (?_ : Obl _)) ?_ | refine ifB_intro (fun h => ?_) (fun h => ?_) | refine Exists.intro _ (And.intro rfl ?_) | ((with_reducible show _ = _); rfl))
    all_goals try ((with_reducible refine Obl.mk ?_); first | ((with_reducible show regOk _ _ = true); kernel_rfl) | ((with_reducible show eqTyOk _ _ = true); kernel_rfl) | rfl | exact trivial | ((repeat' (first | exact trivial | refine And.intro ?_ ?_)); done) | decide | ((repeat' (first | exact List.forall_mem_nil _ | refine List.forall_mem_cons.2 (And.intro rfl ?_))); done) | (refine And.intro ?_ ?_ <;> simp only [List.length_map, List.length_append, List.length_cons, List.length_nil] <;> omega))
    refine callG_intro (hP3) ?_
    repeat' ((conv => whnf); first | refine callG_intro (hD) ?_ | refine callG_intro (hP4) ?_ | refine seq_inl ?_ | refine reg_inl ?_ | refine And.intro (Obl.out (?_ : Obl _)) ?_ | refine ifB_intro (fun h => ?_) (fun h => ?_) | refine Exists.intro _ (And.intro rfl ?_) | ((with_reducible show _ = _); rfl))
    all_goals try ((with_reducible refine Obl.mk ?_); first | ((with_reducible show regOk _ _ = true); kernel_rfl) | ((with_reducible show eqTyOk _ _ = true); kernel_rfl) | rfl | exact trivial | ((repeat' (first | exact trivial | refine And.intro ?_ ?_)); done) | decide | ((repeat' (first | exact List.forall_mem_nil _ | refine List.forall_mem_cons.2 (And.intro rfl ?_))); done) | (refine And.intro ?_ ?_ <;> simp only [List.length_map, List.length_append, List.length_cons, List.length_nil] <;> omega))
  by_cases h16 : k = 16
  · subst h16
    obtain ⟨a0, a1⟩ := ha (by omega) (by omega)
    obtain ⟨n, rfl⟩ := Int.eq_ofNat_of_zero_le a0
    have o1 : (cPop c).ok := cPop_ok hc
    have o2 : (cDrop (n / 16) (cPop c)).ok := cDrop_ok o1
    have o3 : (cPc (cDrop (n / 16) (cPop c))).ok := cPop_ok o2
    have w1 : IntKind.i64.wrap ((n : Int).tdiv 16) = ((n / 16 : Nat) : Int) := by
      rw [Int.tdiv_eq_ediv_of_nonneg (by omega), IntWalk.i64_in _ (by omega)]; rfl
    have w2 : (n : Int).tmod 16 = ((n % 16 : Nat) : Int) := by
      rw [Int.tmod_eq_emod_of_nonneg (by omega)]; rfl
    have hP1 := g_core_pop c hc
    have hD1 := g_core_drop (cPop c) (n / 16) o1 (by omega)
    have hP2 := g_core_pop (cDrop (n / 16) (cPop c)) o2
    have hD2 := g_core_drop (cPc (cDrop (n / 16) (cPop c))) (n % 16) o3 (by omega)
    have hP4 := g_core_push (cDrop (n % 16) (cPc (cDrop (n / 16) (cPop c)))) (cTop c) (cDrop_ok o3)
    rw [← w1] at hD1
    rw [← w2] at hD2
    repeat' ((conv => whnf); first | refine seq_inl ?_ | refine reg_inl ?_ | refine And.intro (Obl.out (?_ : Obl _)) ?_ | refine ifB_intro (fun h => ?_) (fun h => ?_) | refine Exists.intro _ (And.intro rfl ?_) | ((with_reducible show _ = _); rfl))
    all_goals try ((with_reducible refine Obl.mk ?_); first | ((with_reducible show regOk _ _ = true); kernel_rfl) | ((with_reducible show eqTyOk _ _ = true); kernel_rfl) | rfl | exact trivial | ((repeat' (first | exact trivial | refine And.intro ?_ ?_)); done) | decide | ((repeat' (first | exact List.forall_mem_nil _ | refine List.forall_mem_cons.2 (And.intro rfl ?_))); done) | (refine And.intro ?_ ?_ <;> simp only [List.length_map, List.length_append, List.length_cons, List.length_nil] <;> omega))
    refine callG_intro (hP1) ?_
    repeat' ((conv => whnf); first | refine seq_inl ?_ | refine reg_inl ?_ | refine And.intro (Obl.out (?_ : Obl _)) ?_ | refine ifB_intro (fun h => ?_) (fun h => ?_) | refine Exists.intro _ (And.intro rfl ?_) | ((with_reducible show _ = _); rfl))
    all_goals try ((with_reducible refine Obl.mk ?_); first | ((with_reducible show regOk _ _ = true); kernel_rfl) | ((with_reducible show eqTyOk _ _ = true); kernel_rfl) | rfl | exact trivial | ((repeat' (first | exact trivial | refine And.intro ?_ ?_)); done) | decide | ((repeat' (first | exact List.forall_mem_nil _ | refine List.forall_mem_cons.2 (And.intro rfl ?_))); done) | (refine And.intro ?_ ?_ <;> simp only [List.length_map, List.length_append, List.length_cons, List.length_nil] <;> omega))
    refine callG_intro (hD1) ?_
    repeat' ((conv => whnf); first | refine seq_inl ?_ | refine reg_inl ?_ | refine And.intro (Obl.out (?_ : Obl _)) ?_ | refine ifB_intro (fun h => ?_) (fun h => ?_) | refine Exists.intro _ (And.intro rfl ?_) | ((with_reducible show _ = _); rfl))
    all_goals try ((with_reducible refine Obl.mk ?_); first | ((with_reducible show regOk _ _ = true); kernel_rfl) | ((with_reducible show eqTyOk _ _ = true); kernel_rfl) | rfl | exact trivial | ((repeat' (first | exact trivial | refine And.intro ?_ ?_)); done) | decide | ((repeat' (first | exact List.forall_mem_nil _ | refine List.forall_mem_cons.2 (And.intro rfl ?_))); done) | (refine And.intro ?_ ?_ <;> simp only [List.length_map, List.length_append, List.length_cons, List.length_nil] <;> omega))
    refine callG_intro (hP2) ?_
    repeat' ((conv => whnf); first | refine seq_inl ?_ | refine reg_inl ?_ | refine And.intro (Obl.out (?_ : Obl _)) ?_ | refine ifB_intro (fun h => ?_) (fun h => ?_) | refine Exists.intro _ (And.intro rfl ?_) | ((with_reducible show _ = _); rfl))
    all_goals try ((with_reducible refine Obl.mk ?_); first | ((with_reducible show regOk _ _ = true); kernel_rfl) | ((with_reducible show eqTyOk _ _ = true); kernel_rfl) | rfl | exact trivial | ((repeat' (first | exact trivial | refine And.intro ?_ ?_)); done) | decide | ((repeat' (first | exact List.forall_mem_nil _ | refine List.forall_mem_cons.2 (And.intro rfl ?_))); done) | (refine And.intro ?_ ?_ <;> simp only [List.length_map, List.length_append, List.length_cons, List.length_nil] <;> omega))
    refine callG_intro (hD2) ?_
    repeat' ((conv => whnf); first | refine seq_inl ?_ | refine reg_inl ?_ | refine And.intro (Obl.out (?_ : Obl _)) ?_ | refine ifB_intro (fun h => ?_) (fun h => ?_) | refine Exists.intro _ (And.intro rfl ?_) | ((with_reducible show _ = _); rfl))
    all_goals try ((with_reducible refine Obl.mk ?_); first | ((with_reducible show regOk _ _ = true); kernel_rfl) | ((with_reducible show eqTyOk _ _ = true); kernel_rfl) | rfl | exact trivial | ((repeat' (first | exact trivial | refine And.intro ?_ ?_)); done) | decide | ((repeat' (first | exact List.forall_mem_nil _ | refine List.forall_mem_cons.2 (And.intro rfl ?_))); done) | (refine And.intro ?_ ?_ <;> simp only [List.length_map, List.length_append, List.length_cons, List.length_nil] <;> omega))
    refine callG_intro (hP4) ?_
    repeat' ((conv => whnf); first | refine seq_inl ?_ | refine reg_inl ?_ | refine And.intro (Obl.out (?_ : Obl _)) ?_ | refine ifB_intro (fun h => ?_) (fun h => ?_) | refine Exists.intro _ (And.intro rfl ?_) | ((with_reducible show _ = _); rfl))
    all_goals try ((with_reducible refine Obl.mk ?_); first | ((with_reducible show regOk _ _ = true); kernel_rfl) | ((with_reducible show eqTyOk _ _ = true); kernel_rfl) | rfl | exact trivial | ((repeat' (first | exact trivial | refine And.intro ?_ ?_)); done) | decide | ((repeat' (first | exact List.forall_mem_nil _ | refine List.forall_mem_cons.2 (And.intro rfl ?_))); done) | (refine And.intro ?_ ?_ <;> simp only [List.length_map, List.length_append, List.length_cons, List.length_nil] <;> omega))
  · rw [show cPerf s.fEntries c ⟨k, a⟩ = c by
      unfold cPerf
      dsimp only
      rw [if_neg h0, if_neg h1, if_neg h3, if_neg h2, if_neg h4, if_neg h59, if_neg h10, if_neg h11, if_neg h12, if_neg h13, if_neg h15, if_neg h14, if_neg h16, if_neg hx]]
    repeat' ((conv => whnf); first | refine seq_inl ?_ | refine reg_inl ?_ | refine And.intro (Obl.out (?_ : Obl _)) ?_ | refine ifB_intro (fun h => ?_) (fun h => ?_) | refine Exists.intro _ (And.intro rfl ?_) | ((with_reducible show _ = _); rfl))
    all_goals try ((with_reducible refine Obl.mk ?_); first | ((with_reducible show regOk _ _ = true); kernel_rfl) | ((with_reducible show eqTyOk _ _ = true); kernel_rfl) | rfl | exact trivial | ((repeat' (first | exact trivial | refine And.intro ?_ ?_)); done) | decide | ((repeat' (first | exact List.forall_mem_nil _ | refine List.forall_mem_cons.2 (And.intro rfl ?_))); done) | (refine And.intro ?_ ?_ <;> simp only [List.length_map, List.length_append, List.length_cons, List.length_nil] <;> omega))
    all_goals try (exfalso; simp at *; omega)
theorem g_core_out (s : TSpace) (c : CS) (a : Int) (hc : c.ok) (ho : c.m.fOut.length ≤ 2000000) : SpecG Try.prog 137 [coreP, .r (.agg (s.tr.map .t)), opV ⟨17, a⟩] (coreH c) (.tup []) (outH (cOut c)) := by
  refine specG_of_W hΓ hmix Try.func137 rfl (by decide) rfl rfl ?_
  have hP := g_core_pop c hc
  have ho2 : (cPop c).m.fOut.length ≤ 2000000 := by unfold cPop; split <;> exact ho
  repeat' ((conv => whnf); first | refine callG_intro (hP) ?_ | refine seq_inl ?_ | refine reg_inr 4 6 ?_ | refine And.intro (Obl.out (?_ : Obl _)) ?_ | refine ifB_intro (fun h => ?_) (fun h => ?_) | refine Exists.intro _ (And.intro rfl ?_) | ((with_reducible show _ = _); rfl))
  all_goals try ((with_reducible refine Obl.mk ?_); first | ((with_reducible show regOk _ _ = true); kernel_rfl) | ((with_reducible show eqTyOk _ _ = true); kernel_rfl) | ((with_reducible show regOkX _ _ _ _ = true); kernel_rfl) | ((with_reducible show condX _ _ _ _ _ _); (conv => whnf); rfl) | rfl | exact trivial | ((repeat' (first | exact trivial | refine And.intro ?_ ?_)); done) | decide | ((repeat' (first | exact List.forall_mem_nil _ | refine List.forall_mem_cons.2 (And.intro rfl ?_))); done) | (refine And.intro ?_ ?_ <;> simp only [List.length_map, List.length_append, List.length_cons, List.length_nil] <;> omega))
  all_goals (refine ⟨?_⟩; simp [cOut, intRow])
end Go.Proofs.Ytehniaekfijmiaa
