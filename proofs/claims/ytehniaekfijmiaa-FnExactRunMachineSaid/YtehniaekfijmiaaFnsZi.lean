/- The machine of the reference, and that both machines do the same. -/
import Derived.Test.YtehniaekfijmiaaFnsZh
namespace Go.Proofs.Ytehniaekfijmiaa
open Go.Sim
set_option maxRecDepth 100000
set_option maxHeartbeats 4000000
def qPush (c : CS) (v : Int) : CS := if c.m.fSp < 1 ∨ 1200 < c.m.fSp then ⟨c.m, true⟩ else ⟨{ setAt c.m (c.m.fSp - 1) v with fSp := c.m.fSp - 1 }, c.bad⟩
def qVal (c : CS) (a : Int) : Int := if inStk a = true then wordAt c.m a else 0
def qTop (c : CS) : Int := qVal c c.m.fSp
def qPut (c : CS) (a v : Int) : CS := if inStk a = true then ⟨setAt c.m a v, c.bad⟩ else ⟨c.m, true⟩
def qZeros : Nat → CS → CS
  | 0, c => c
  | n + 1, c => qZeros n (qPush c 0)
def qNear (a n : Int) : Int := if within a (-100000) 100000 = true then wr (a + n) else -1
def qLoad (c : CS) (a : Int) : CS := qPush (cAt c a) (qVal c a)
def qStore (c : CS) (a : Int) : CS := qPut (cPop c) a (qTop c)
def qArith (c : CS) (k : Int) : CS := qPush (cPop (cPop c)) (applyP k (qTop (cPop c)) (qTop c))
def qZero (c : CS) (a : Int) : CS := if qTop c = 0 then cJump (cPop c) a else cPop c
def qGoto (c : CS) (es : List Int) (a : Int) : CS := match es[a.toNat]? with
  | some e => ⟨{ (qPush c c.m.fPc).m with fPc := e }, (qPush c c.m.fPc).bad⟩
  | none => ⟨c.m, true⟩
def qEnter (c : CS) (n : Nat) : CS := qZeros n ⟨{ (qPush c c.m.fFp).m with fFp := (qPush c c.m.fFp).m.fSp }, (qPush c c.m.fFp).bad⟩
def qFp (c : CS) : CS := ⟨{ (cPop c).m with fFp := qTop c }, (cPop c).bad⟩
def qPc (c : CS) : CS := ⟨{ (cPop c).m with fPc := qTop c }, (cPop c).bad⟩
def qLeave (c : CS) (n : Nat) : CS := if within (cPop c).m.fFp 0 1200 = true then qPush (cDrop n (qPc (qFp (cCut (cPop c))))) (qTop c) else ⟨(cPop c).m, true⟩
def qReturn (c : CS) (n : Nat) : CS := qPush (cDrop (n % 16) (qPc (cDrop (n / 16) (cPop c)))) (qTop c)
def qOut (c : CS) : CS := ⟨{ (cPop c).m with fOut := (cPop c).m.fOut ++ [qTop c] }, (cPop c).bad⟩
def qPerf (es : List Int) (c : CS) (x : TOp) : CS :=
  if x.fCode = 0 then qPush c x.fArg
  else if x.fCode = 1 then qLoad c (qNear c.m.fFp x.fArg)
  else if x.fCode = 3 then qLoad c (wr (c.m.fSp + x.fArg))
  else if x.fCode = 2 then qStore c (qNear c.m.fFp x.fArg)
  else if x.fCode = 4 then qStore c (wr (c.m.fSp + x.fArg))
  else if x.fCode = 10 then cJump c x.fArg
  else if x.fCode = 11 then qZero c x.fArg
  else if x.fCode = 12 then qGoto c es x.fArg
  else if x.fCode = 13 then qEnter c x.fArg.toNat
  else if x.fCode = 15 then qZeros x.fArg.toNat c
  else if x.fCode = 14 then qLeave c x.fArg.toNat
  else if x.fCode = 16 then qReturn c x.fArg.toNat
  else if x.fCode = 17 then qOut c
  else qArith c (x.fCode - 3)
def Rel (c d : CS) : Prop := c.bad = d.bad ∧ (c.bad = false → c.m = d.m ∧ 0 ≤ c.m.fSp ∧ c.m.fSp ≤ 1200)
theorem Rel.bad {m m' : TMachine} : Rel ⟨m, true⟩ ⟨m', true⟩ := ⟨rfl, fun h => by cases h⟩
theorem cPush_bad {c : CS} {v : Int} (h : c.bad = true) : (cPush c v).bad = true := by simp [cPush, h]
theorem qPush_bad {c : CS} {v : Int} (h : c.bad = true) : (qPush c v).bad = true := by unfold qPush; split <;> simp [h]
theorem cPop_bad {c : CS} (h : c.bad = true) : (cPop c).bad = true := by simp [cPop, h]
theorem cPop_out {c : CS} (h : inStk c.m.fSp = false) : (cPop c).bad = true := by simp [cPop, h]
theorem cDrop_bad : ∀ {n : Nat} {c : CS}, c.bad = true → (cDrop n c).bad = true
  | 0, _, h => h
  | n + 1, _, h => cDrop_bad (n := n) (cPop_bad h)
theorem Rel.of_bad {c d : CS} (h1 : c.bad = true) (h2 : d.bad = true) : Rel c d := ⟨h1.trans h2.symm, fun h => by rw [h1] at h; cases h⟩
theorem rel_push {c d : CS} {v v' : Int} (h : Rel c d) (hv : c.bad = false → v = v') : Rel (cPush c v) (qPush d v') := by
  obtain ⟨h1, h2⟩ := h
  cases hb : c.bad with
  | true => exact .of_bad (cPush_bad hb) (qPush_bad (h1 ▸ hb))
  | false =>
    obtain ⟨h3, h4, h5⟩ := h2 hb
    obtain ⟨m, b⟩ := c
    obtain ⟨m', b'⟩ := d
    dsimp only at *
    subst h3; subst h1; subst hb
    rw [hv rfl]
    unfold cPush qPush
    dsimp only
    have hw : wr (m.fSp - 1) = m.fSp - 1 := IntWalk.i64_in _ (by omega)
    rw [hw]
    by_cases hs : m.fSp < 1 ∨ 1200 < m.fSp
    · have hn : inStk (m.fSp - 1) = false := by
        cases hi : inStk (m.fSp - 1) with
        | false => rfl
        | true => have := inStk_iff.1 hi; omega
      rw [if_pos hs, if_pos (by simp [hn])]
      exact .bad
    · have hn : inStk (m.fSp - 1) = true := inStk_iff.2 (by omega)
      rw [if_neg hs, if_neg (by simp [hn])]
      exact ⟨rfl, fun _ => ⟨rfl, by dsimp only; omega, by dsimp only; omega⟩⟩
theorem rel_pop {c d : CS} (h : Rel c d) : Rel (cPop c) (cPop d) := by
  obtain ⟨h1, h2⟩ := h
  cases hb : c.bad with
  | true => exact .of_bad (cPop_bad hb) (cPop_bad (h1 ▸ hb))
  | false =>
    obtain ⟨h3, h4, h5⟩ := h2 hb
    obtain ⟨m, b⟩ := c
    obtain ⟨m', b'⟩ := d
    dsimp only at *
    subst h3; subst h1; subst hb
    refine ⟨rfl, fun hn => ⟨rfl, ?_⟩⟩
    unfold cPop at hn ⊢
    dsimp only at hn ⊢
    split at hn
    · cases hn
    · rename_i hi
      rw [if_neg hi]
      have : inStk m.fSp = true := by simpa using hi
      have := inStk_iff.1 this
      dsimp only
      omega
theorem rel_top {c d : CS} (h : Rel c d) (hb : (cPop c).bad = false) : cTop c = qTop d := by
  obtain ⟨h1, h2⟩ := h
  unfold cPop at hb
  split at hb
  · cases hb
  · rename_i hi
    have hi' : c.bad = false ∧ inStk c.m.fSp = true := by simpa using hi
    obtain ⟨h3, _⟩ := h2 hi'.1
    unfold cTop qTop qVal
    rw [if_neg hi, ← h3, if_pos hi'.2]
theorem rel_drop : ∀ {n : Nat} {c d : CS}, Rel c d → Rel (cDrop n c) (cDrop n d)
  | 0, _, _, h => h
  | n + 1, _, _, h => rel_drop (n := n) (rel_pop h)
theorem drop_good : ∀ {n : Nat} {c : CS}, (cDrop n c).bad = false → c.bad = false
  | n, c, h => by cases hb : c.bad with
    | false => rfl
    | true => rw [cDrop_bad hb] at h; cases h
theorem pop_good {c : CS} (h : (cPop c).bad = false) : c.bad = false := by cases hb : c.bad with
    | false => rfl
    | true => rw [cPop_bad hb] at h; cases h
theorem rel_zeros : ∀ {n : Nat} {c d : CS}, Rel c d → Rel (cZeros n c) (qZeros n d)
  | 0, _, _, h => h
  | n + 1, _, _, h => rel_zeros (n := n) (rel_push h fun _ => rfl)
theorem rel_load {c d : CS} {a a' : Int} (h : Rel c d) (hi : inStk a = inStk a') (ha : inStk a = true → a = a') : Rel (cLoad c a) (qLoad d a') := by
  obtain ⟨h1, h2⟩ := h
  unfold cLoad qLoad cAt
  rw [← hi]
  cases hb : c.bad with
  | true => exact .of_bad (by simp) (qPush_bad (by simp [← h1, hb]))
  | false =>
    obtain ⟨h3, h4, h5⟩ := h2 hb
    cases hn : inStk a with
    | false => exact .of_bad (by simp) (qPush_bad (by simp))
    | true =>
      have e := ha hn
      subst e
      rw [if_neg (by simp)]
      refine rel_push ⟨?_, fun _ => ⟨h3, h4, h5⟩⟩ fun _ => ?_
      · simp [← h1, hb]
      · rw [qVal, if_pos hn, h3]
theorem rel_store {c d : CS} {a a' : Int} (h : Rel c d) (hi : inStk a = inStk a') (ha : inStk a = true → a = a') : Rel (cStore c a) (qStore d a') := by
  have hp := rel_pop h
  have ht := rel_top h
  unfold cStore qStore qPut
  rw [← hi]
  cases hb : (cPop c).bad with
  | true =>
    rw [if_pos (by simp)]
    refine .of_bad rfl ?_
    split
    · rw [← hp.1]; exact hb
    · rfl
  | false =>
    obtain ⟨h3, h4, h5⟩ := hp.2 hb
    cases hn : inStk a with
    | false => rw [if_pos (by simp), if_neg (by simp)]; exact .bad
    | true =>
      have e := ha hn
      subst e
      rw [if_neg (by simp), if_pos rfl, ht hb, ← h3]
      exact ⟨by rw [← hp.1, hb], fun _ => ⟨rfl, h4, h5⟩⟩
theorem near_in {f n : Int} (hf : inI f) (hn : -65536 ≤ n ∧ n ≤ 65536) : inStk (wr (f + n)) = inStk (qNear f n) ∧ (inStk (wr (f + n)) = true → wr (f + n) = qNear f n) := by
  unfold qNear
  by_cases hw : within f (-100000) 100000 = true
  · rw [if_pos hw]; exact ⟨rfl, fun _ => rfl⟩
  · rw [if_neg hw]
    have h0 : ¬ (-100000 ≤ f ∧ f ≤ 100000) := fun h => hw (within_iff.2 h)
    have : inStk (wr (f + n)) = false := by
      cases hi : inStk (wr (f + n)) with
      | false => rfl
      | true =>
        exfalso
        have h1 := inStk_iff.1 hi
        unfold inI at hf
        have e : wr (f + n) = if (f + n) % 18446744073709551616 ≥ 9223372036854775808 then (f + n) % 18446744073709551616 - 18446744073709551616 else (f + n) % 18446744073709551616 := by simp [wr, IntKind.wrap, IntKind.bits, IntKind.signed]
        rw [e] at h1
        split at h1 <;> omega
    rw [this]
    exact ⟨by decide, fun h => by cases h⟩
theorem rel_perf (es : List Int) (m : TMachine) (x : TOp) (hsp : 0 ≤ m.fSp ∧ m.fSp ≤ 1200) (hfp : inI m.fFp) (hc : 0 ≤ x.fCode ∧ x.fCode ≤ 17) (h1 : 12 ≤ x.fCode → x.fCode ≤ 16 → 0 ≤ x.fArg ∧ x.fArg ≤ 65536) (h2 : 1 ≤ x.fCode → x.fCode ≤ 11 → -65536 ≤ x.fArg ∧ x.fArg ≤ 65536) :
    Rel (cPerf es ⟨m, false⟩ x) (qPerf es ⟨m, false⟩ x) := by
  have h0 : Rel ⟨m, false⟩ ⟨m, false⟩ := ⟨rfl, fun _ => ⟨rfl, hsp⟩⟩
  obtain ⟨k, a⟩ := x
  dsimp only at hc h1 h2
  generalize hd : (⟨m, false⟩ : CS) = d at *
  have hdf : d.m.fFp = m.fFp := by rw [← hd]
  unfold cPerf qPerf
  dsimp only
  by_cases e0 : k = 0
  · rw [if_pos e0, if_pos e0]; exact rel_push h0 fun _ => rfl
  rw [if_neg e0, if_neg e0]
  by_cases e1 : k = 1
  · rw [if_pos e1, if_pos e1]
    have := near_in (n := a) hfp (h2 (by omega) (by omega))
    rw [hdf]
    exact rel_load h0 this.1 this.2
  rw [if_neg e1, if_neg e1]
  by_cases e3 : k = 3
  · rw [if_pos e3, if_pos e3]; exact rel_load h0 rfl fun _ => rfl
  rw [if_neg e3, if_neg e3]
  by_cases e2 : k = 2
  · rw [if_pos e2, if_pos e2]
    have := near_in (n := a) hfp (h2 (by omega) (by omega))
    rw [hdf]
    exact rel_store h0 this.1 this.2
  rw [if_neg e2, if_neg e2]
  by_cases e4 : k = 4
  · rw [if_pos e4, if_pos e4]; exact rel_store h0 rfl fun _ => rfl
  rw [if_neg e4, if_neg e4]
  by_cases e59 : 5 ≤ k ∧ k ≤ 9
  · rw [if_pos e59, if_neg (by omega), if_neg (by omega), if_neg (by omega), if_neg (by omega), if_neg (by omega), if_neg (by omega), if_neg (by omega), if_neg (by omega)]
    unfold cArith qArith
    refine rel_push (rel_pop (rel_pop h0)) fun hb => ?_
    rw [rel_top h0 (pop_good hb), rel_top (rel_pop h0) hb]
  rw [if_neg e59]
  by_cases e10 : k = 10
  · rw [if_pos e10, if_pos e10]
    unfold cJump
    exact ⟨rfl, fun hb => ⟨rfl, (h0.2 hb).2⟩⟩
  rw [if_neg e10, if_neg e10]
  by_cases e11 : k = 11
  · rw [if_pos e11, if_pos e11]
    unfold cZero qZero
    have hp := rel_pop h0
    cases hb : (cPop d).bad with
    | true => refine .of_bad ?_ ?_ <;> split <;> simp [cJump, hb]
    | false =>
      rw [rel_top h0 hb]
      split
      · unfold cJump; exact ⟨rfl, fun hb => ⟨rfl, (hp.2 hb).2⟩⟩
      · exact hp
  rw [if_neg e11, if_neg e11]
  by_cases e12 : k = 12
  · rw [if_pos e12, if_pos e12]
    have hp := rel_push (v := d.m.fPc) (v' := d.m.fPc) h0 fun _ => rfl
    unfold cGoto qGoto
    cases he : es[a.toNat]? with
    | some e => exact ⟨hp.1, fun hb => by obtain ⟨g1, g2, g3⟩ := hp.2 hb; exact ⟨by dsimp only; rw [g1], g2, g3⟩⟩
    | none => exact .bad
  rw [if_neg e12, if_neg e12]
  by_cases e13 : k = 13
  · rw [if_pos e13, if_pos e13]
    have hp := rel_push (v := d.m.fFp) (v' := d.m.fFp) h0 fun _ => rfl
    unfold cEnter qEnter
    refine rel_zeros ⟨hp.1, fun hb => ?_⟩
    obtain ⟨g1, g2, g3⟩ := hp.2 hb
    exact ⟨by dsimp only; rw [g1], g2, g3⟩
  rw [if_neg e13, if_neg e13]
  by_cases e15 : k = 15
  · rw [if_pos e15, if_pos e15]; exact rel_zeros h0
  rw [if_neg e15, if_neg e15]
  by_cases e14 : k = 14
  · rw [if_pos e14, if_pos e14]
    unfold cLeave qLeave
    have hp := rel_pop h0
    by_cases hw : within (cPop d).m.fFp 0 1200 = true
    · rw [if_pos hw]
      have hw' := within_iff.1 hw
      have hcut : Rel (cCut (cPop d)) (cCut (cPop d)) := ⟨rfl, fun _ => ⟨rfl, hw'.1, hw'.2⟩⟩
      have p2 := rel_pop hcut
      have r3 : Rel (cFp (cCut (cPop d))) (qFp (cCut (cPop d))) := ⟨p2.1, fun hb => by
        unfold cFp qFp
        rw [rel_top hcut hb]
        exact ⟨rfl, (p2.2 hb).2⟩⟩
      have p3 := rel_pop r3
      have r4 : Rel (cPc (cFp (cCut (cPop d)))) (qPc (qFp (cCut (cPop d)))) := ⟨p3.1, fun hb => by
        obtain ⟨g1, g2, g3⟩ := p3.2 hb
        unfold cPc qPc
        rw [rel_top r3 hb]
        exact ⟨by dsimp only; rw [g1], g2, g3⟩⟩
      refine rel_push (rel_drop r4) fun hb => rel_top h0 ?_
      have b0 : (cPc (cFp (cCut (cPop d)))).bad = false := drop_good hb
      have b1 : (cPop (cFp (cCut (cPop d)))).bad = false := b0
      have b1' : (cFp (cCut (cPop d))).bad = false := pop_good b1
      have b2 : (cPop (cCut (cPop d))).bad = false := b1'
      have b2' : (cCut (cPop d)).bad = false := pop_good b2
      exact b2'
    · rw [if_neg hw]
      refine .of_bad ?_ rfl
      refine cPush_bad (cDrop_bad ?_)
      show (cPop (cFp (cCut (cPop d)))).bad = true
      refine cPop_bad ?_
      show (cPop (cCut (cPop d))).bad = true
      have hn : inStk (cPop d).m.fFp = false := by
        cases hi : inStk (cPop d).m.fFp with
        | false => rfl
        | true => exact absurd (within_iff.2 (by have := inStk_iff.1 hi; omega)) hw
      exact cPop_out (c := cCut (cPop d)) hn
  rw [if_neg e14, if_neg e14]
  by_cases e16 : k = 16
  · rw [if_pos e16, if_pos e16]
    unfold cReturn qReturn
    have hp := rel_pop h0
    have r2 := rel_drop (n := a.toNat / 16) hp
    have p3 := rel_pop r2
    have r4 : Rel (cPc (cDrop (a.toNat / 16) (cPop d))) (qPc (cDrop (a.toNat / 16) (cPop d))) := ⟨p3.1, fun hb => by
      obtain ⟨g1, g2, g3⟩ := p3.2 hb
      unfold cPc qPc
      rw [rel_top r2 hb]
      exact ⟨rfl, g2, g3⟩⟩
    refine rel_push (rel_drop r4) fun hb => rel_top h0 ?_
    have b0 : (cPc (cDrop (a.toNat / 16) (cPop d))).bad = false := drop_good hb
    have b1 : (cPop (cDrop (a.toNat / 16) (cPop d))).bad = false := b0
    have b2 : (cDrop (a.toNat / 16) (cPop d)).bad = false := pop_good b1
    exact drop_good b2
  rw [if_neg e16, if_neg e16]
  have e17 : k = 17 := by omega
  rw [if_pos e17, if_pos e17]
  have hp := rel_pop h0
  unfold cOut qOut
  refine ⟨rfl, fun hb => ?_⟩
  rw [rel_top h0 hb]
  exact ⟨rfl, (hp.2 hb).2⟩
end Go.Proofs.Ytehniaekfijmiaa
