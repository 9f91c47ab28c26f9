/- StepMachine and RunMachine, in the program. -/
import Derived.Test.YtehniaekfijmiaaFnsZj
import Derived.Test.YtehniaekfijmiaaFnsZa
namespace Go.Proofs.Ytehniaekfijmiaa
open Go.Sim
set_option maxRecDepth 100000
set_option maxHeartbeats 8000000
theorem ite_q {p : Prop} [Decidable p] (Q : CS → Prop) {a b : CS} (ha : Q a) (hb : Q b) : Q (if p then a else b) := by split <;> assumption
theorem cPerf_ok {es : List Int} {c : CS} {x : TOp} (h : c.ok) : (cPerf es c x).ok := by
  unfold cPerf
  refine ite_q (CS.ok) (by
    exact cPush_ok h) ?_
  refine ite_q (CS.ok) (by
    exact cLoad_ok h) ?_
  refine ite_q (CS.ok) (by
    exact cLoad_ok h) ?_
  refine ite_q (CS.ok) (by
    exact cStore_ok h) ?_
  refine ite_q (CS.ok) (by
    exact cStore_ok h) ?_
  refine ite_q (CS.ok) (by
    exact cPush_ok (cPop_ok (cPop_ok h))) ?_
  refine ite_q (CS.ok) (by
    exact h) ?_
  refine ite_q (CS.ok) (by
    unfold cZero; split
    · exact cPop_ok h
    · exact cPop_ok h) ?_
  refine ite_q (CS.ok) (by
    unfold cGoto; split
    · exact cPush_ok h
    · exact cPush_ok h) ?_
  refine ite_q (CS.ok) (by
    exact cZeros_ok (cPush_ok h)) ?_
  refine ite_q (CS.ok) (by
    exact cZeros_ok h) ?_
  refine ite_q (CS.ok) (by
    exact cPush_ok (cDrop_ok (cPop_ok (cPop_ok (cPop_ok h))))) ?_
  refine ite_q (CS.ok) (by
    exact cPush_ok (cDrop_ok (cPop_ok (cDrop_ok (cPop_ok h))))) ?_
  refine ite_q (CS.ok) (by
    exact cPop_ok h) ?_
  exact h
def MW (m : TMachine) : Prop := (∀ w ∈ m.fStack, inI w) ∧ inI m.fPc ∧ inI m.fFp
theorem wr_in (n : Int) : inI (wr n) := by
  have e : wr n = if n % 18446744073709551616 ≥ 9223372036854775808 then n % 18446744073709551616 - 18446744073709551616 else n % 18446744073709551616 := by simp [wr, IntKind.wrap, IntKind.bits, IntKind.signed]
  unfold inI
  rw [e]
  split <;> omega
theorem in_zero : inI 0 := by unfold inI; omega
theorem wordAt_in {m : TMachine} (h : MW m) (a : Int) : inI (wordAt m a) := by
  unfold wordAt
  split
  · rename_i x hx; exact h.1 _ (List.mem_of_getElem? hx)
  · exact in_zero
theorem setAt_in {m : TMachine} (h : MW m) {a v : Int} (hv : inI v) : MW (setAt m a v) := by
  refine ⟨fun w hw => ?_, h.2⟩
  rcases List.mem_or_eq_of_mem_set hw with h1 | h1
  · exact h.1 w h1
  · rw [h1]; exact hv
theorem cPush_in {c : CS} (h : MW c.m) {v : Int} (hv : inI v) : MW (cPush c v).m := by
  unfold cPush
  split
  · exact h
  · exact ⟨(setAt_in h hv).1, h.2⟩
theorem cPop_in {c : CS} (h : MW c.m) : MW (cPop c).m := by
  unfold cPop
  split
  · exact h
  · exact h
theorem cTop_in {c : CS} (h : MW c.m) : inI (cTop c) := by
  unfold cTop
  split
  · exact in_zero
  · exact wordAt_in h _
theorem cDrop_in : ∀ {n : Nat} {c : CS}, MW c.m → MW (cDrop n c).m
  | 0, _, h => h
  | n + 1, _, h => cDrop_in (n := n) (cPop_in h)
theorem cZeros_in : ∀ {n : Nat} {c : CS}, MW c.m → MW (cZeros n c).m
  | 0, _, h => h
  | n + 1, _, h => cZeros_in (n := n) (cPush_in h in_zero)
theorem cLoad_in {c : CS} {a : Int} (h : MW c.m) : MW (cLoad c a).m := by
  unfold cLoad
  split
  · exact h
  · exact cPush_in (c := ⟨c.m, false⟩) h (wordAt_in h a)
theorem cStore_in {c : CS} {a : Int} (h : MW c.m) : MW (cStore c a).m := by
  have := cPop_in h
  unfold cStore
  split
  · exact this
  · exact setAt_in this (cTop_in h)
theorem w32_in (n : Int) : inI (w32 n) := by have := w32_range n; unfold inI; omega
theorem applyP_in (k a b : Int) : inI (applyP k a b) := by
  unfold applyP
  repeat' split
  · exact w32_in _
  · exact w32_in _
  · exact w32_in _
  · unfold inI; omega
  · exact in_zero
theorem cFp_in {c : CS} (h : MW c.m) : MW (cFp c).m := ⟨(cPop_in h).1, (cPop_in h).2.1, cTop_in h⟩
theorem cPc_in {c : CS} (h : MW c.m) : MW (cPc c).m := ⟨(cPop_in h).1, cTop_in h, (cPop_in h).2.2⟩
theorem cCut_in {c : CS} (h : MW c.m) : MW (cCut c).m := h
theorem cJump_in {c : CS} (h : MW c.m) (a : Int) : MW (cJump c a).m := ⟨h.1, wr_in _, h.2.2⟩
theorem cPush_sp_in {c : CS} (h : MW c.m) (hs : inI c.m.fSp) (v : Int) : inI (cPush c v).m.fSp := by
  unfold cPush
  split
  · exact hs
  · exact wr_in _
theorem cPerf_in {es : List Int} {c : CS} {x : TOp} (h : MW c.m) (hs : inI c.m.fSp) (ha : inI x.fArg) (he : ∀ e ∈ es, inI e) : MW (cPerf es c x).m := by
  unfold cPerf
  refine ite_q (fun c => MW c.m) (by
    exact cPush_in h ha) ?_
  refine ite_q (fun c => MW c.m) (by
    exact cLoad_in h) ?_
  refine ite_q (fun c => MW c.m) (by
    exact cLoad_in h) ?_
  refine ite_q (fun c => MW c.m) (by
    exact cStore_in h) ?_
  refine ite_q (fun c => MW c.m) (by
    exact cStore_in h) ?_
  refine ite_q (fun c => MW c.m) (by
    exact cPush_in (cPop_in (cPop_in h)) (applyP_in _ _ _)) ?_
  refine ite_q (fun c => MW c.m) (by
    exact cJump_in h _) ?_
  refine ite_q (fun c => MW c.m) (by
    unfold cZero; split
    · exact cJump_in (cPop_in h) _
    · exact cPop_in h) ?_
  refine ite_q (fun c => MW c.m) (by
    have hp := cPush_in h h.2.1
    unfold cGoto; split
    · rename_i e hee
      exact ⟨hp.1, he _ (List.mem_of_getElem? hee), hp.2.2⟩
    · exact hp) ?_
  refine ite_q (fun c => MW c.m) (by
    have hp := cPush_in h h.2.2
    exact cZeros_in (c := ⟨{ (cPush c c.m.fFp).m with fFp := (cPush c c.m.fFp).m.fSp }, (cPush c c.m.fFp).bad⟩) ⟨hp.1, hp.2.1, cPush_sp_in h hs _⟩) ?_
  refine ite_q (fun c => MW c.m) (by
    exact cZeros_in h) ?_
  refine ite_q (fun c => MW c.m) (by
    exact cPush_in (cDrop_in (cPc_in (cFp_in (cCut_in (cPop_in h))))) (cTop_in h)) ?_
  refine ite_q (fun c => MW c.m) (by
    exact cPush_in (cDrop_in (cPc_in (cDrop_in (cPop_in h)))) (cTop_in h)) ?_
  refine ite_q (fun c => MW c.m) (by
    exact cPop_in h) ?_
  exact h
theorem cPush_out {c : CS} {v : Int} : (cPush c v).m.fOut = c.m.fOut := by unfold cPush; split <;> rfl
theorem cPop_out' {c : CS} : (cPop c).m.fOut = c.m.fOut := by unfold cPop; split <;> rfl
theorem cDrop_out : ∀ {n : Nat} {c : CS}, (cDrop n c).m.fOut = c.m.fOut
  | 0, _ => rfl
  | n + 1, c => by rw [cDrop, cDrop_out (n := n), cPop_out']
theorem cZeros_out : ∀ {n : Nat} {c : CS}, (cZeros n c).m.fOut = c.m.fOut
  | 0, _ => rfl
  | n + 1, c => by rw [cZeros, cZeros_out (n := n), cPush_out]
theorem cLoad_out {c : CS} {a : Int} : (cLoad c a).m.fOut = c.m.fOut := by
  unfold cLoad
  split
  · rfl
  · exact cPush_out
theorem cStore_out {c : CS} {a : Int} : (cStore c a).m.fOut = c.m.fOut := by
  unfold cStore
  split
  · exact cPop_out'
  · exact cPop_out'
theorem cPerf_out {es : List Int} {c : CS} {x : TOp} : (cPerf es c x).m.fOut.length ≤ c.m.fOut.length + 1 := by
  have key : ∀ l : List Int, l = c.m.fOut → l.length ≤ c.m.fOut.length + 1 := fun l h => by rw [h]; omega
  unfold cPerf
  refine ite_q (fun d => d.m.fOut.length ≤ c.m.fOut.length + 1) (by
    exact key _ cPush_out) ?_
  refine ite_q (fun d => d.m.fOut.length ≤ c.m.fOut.length + 1) (by
    exact key _ cLoad_out) ?_
  refine ite_q (fun d => d.m.fOut.length ≤ c.m.fOut.length + 1) (by
    exact key _ cLoad_out) ?_
  refine ite_q (fun d => d.m.fOut.length ≤ c.m.fOut.length + 1) (by
    exact key _ cStore_out) ?_
  refine ite_q (fun d => d.m.fOut.length ≤ c.m.fOut.length + 1) (by
    exact key _ cStore_out) ?_
  refine ite_q (fun d => d.m.fOut.length ≤ c.m.fOut.length + 1) (by
    exact key _ (by rw [cArith, cPush_out, cPop_out', cPop_out'])) ?_
  refine ite_q (fun d => d.m.fOut.length ≤ c.m.fOut.length + 1) (by
    exact key _ rfl) ?_
  refine ite_q (fun d => d.m.fOut.length ≤ c.m.fOut.length + 1) (by
    refine key _ ?_; unfold cZero; split
    · exact cPop_out'
    · exact cPop_out') ?_
  refine ite_q (fun d => d.m.fOut.length ≤ c.m.fOut.length + 1) (by
    refine key _ ?_; unfold cGoto; split
    · exact cPush_out
    · exact cPush_out) ?_
  refine ite_q (fun d => d.m.fOut.length ≤ c.m.fOut.length + 1) (by
    refine key _ ?_; rw [cEnter, cZeros_out]; exact cPush_out) ?_
  refine ite_q (fun d => d.m.fOut.length ≤ c.m.fOut.length + 1) (by
    exact key _ cZeros_out) ?_
  refine ite_q (fun d => d.m.fOut.length ≤ c.m.fOut.length + 1) (by
    refine key _ ?_
    rw [cLeave, cPush_out, cDrop_out]
    exact cPop_out'.trans (cPop_out'.trans cPop_out')) ?_
  refine ite_q (fun d => d.m.fOut.length ≤ c.m.fOut.length + 1) (by
    refine key _ ?_
    rw [cReturn, cPush_out, cDrop_out]
    exact cPop_out'.trans (cDrop_out.trans cPop_out')) ?_
  refine ite_q (fun d => d.m.fOut.length ≤ c.m.fOut.length + 1) (by
    show ((cPop c).m.fOut ++ [cTop c]).length ≤ _
    rw [List.length_append, cPop_out']
    simp) ?_
  omega
def fetchP (s : TSpace) (a : Int) : Option (TOp × Nat) := if (locS s a).1 < 0 then none else match s.fImages[(locS s a).1.toNat]? with
  | some im => decodeOp im.fCode (locS s a).2
  | none => none
def endM (c : CS) : Option TMachine := if c.bad = true then none else if c.m.fPc = 0 then (if inStk c.m.fSp = true then some { c.m with fState := 1, fValue := wordAt c.m c.m.fSp } else none) else some c.m
def stepP (s : TSpace) (m : TMachine) : Option TMachine := match fetchP s m.fPc with
  | none => none
  | some x => endM (cPerf s.fEntries (adv ⟨m, false⟩ x.2) x.1)
def stepQ (s : TSpace) (m : TMachine) : Option TMachine := match fetchP s m.fPc with
  | none => none
  | some x => endM (qPerf s.fEntries (adv ⟨m, false⟩ x.2) x.1)
theorem fetchP_arg {s : TSpace} {a : Int} {x : TOp × Nat} (h : fetchP s a = some x) : ∃ (t : List UInt8) (p : Int), decodeOp t p = some x := by
  unfold fetchP at h
  split at h
  · cases h
  · split at h
    · exact ⟨_, _, h⟩
    · cases h
theorem endM_rel {c d : CS} (h : Rel c d) : endM c = endM d := by
  obtain ⟨h1, h2⟩ := h
  cases hb : c.bad with
  | true => rw [endM, endM, if_pos hb, if_pos (h1 ▸ hb)]
  | false =>
    obtain ⟨h3, _⟩ := h2 hb
    obtain ⟨m, b⟩ := c
    obtain ⟨m', b'⟩ := d
    dsimp only at *
    subst h3; subst h1
    rfl
theorem step_eq {s : TSpace} {m : TMachine} (hsp : 0 ≤ m.fSp ∧ m.fSp ≤ 1200) (hfp : inI m.fFp) : stepP s m = stepQ s m := by
  unfold stepP stepQ
  cases h : fetchP s m.fPc with
  | none => rfl
  | some x =>
    obtain ⟨t, p, hd⟩ := fetchP_arg h
    obtain ⟨x, z⟩ := x
    obtain ⟨c0, c1, c2, _⟩ := decodeOp_arg hd
    exact endM_rel (rel_perf s.fEntries { m with fPc := wr (m.fPc + z) } x hsp hfp c0 c1 c2)
def badM (m : TMachine) : TMachine := { m with fState := 2 }
def mV (m : TMachine) (st out : Sim.Id) : AV := .r (.agg [.t (.int .i64 m.fPc), .t (.int .i64 m.fSp), .t (.int .i64 m.fFp), .own st, .own out, .t (.int .i64 m.fState), .t (.int .i64 m.fValue)])
theorem get2_imgs {i0 i1 : TImage} {i : Nat} (hi : i < 2) (h0 : i0.fCode.length ≤ 1000000) (h1 : i1.fCode.length ≤ 1000000) : ∃ im : TImage, [i0, i1][i]? = some im ∧ ([i0.tr, i1.tr] : List (List Tr))[i]? = some im.tr ∧ im.fCode.length ≤ 1000000 := by
  match i, hi with
  | 0, _ => exact ⟨i0, rfl, rfl, h0⟩
  | 1, _ => exact ⟨i1, rfl, rfl, h1⟩
theorem loc2_off {i0 i1 : TImage} {b0 b1 a : Int} (h0 : i0.fCode.length ≤ 1000000) (h1 : i1.fCode.length ≤ 1000000) : (loc2 i0 i1 b0 b1 a).2 ≤ 1000000 := by
  unfold loc2
  split
  · dsimp only; omega
  · split <;> dsimp only <;> omega
end Go.Proofs.Ytehniaekfijmiaa
