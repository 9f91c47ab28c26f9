/- A region that draws its order, in which one look at memory may come ahead of a write or behind it, and sees the same. -/
import Derived.Test.YtehniaekfijmiaaSimK
namespace Go.Sim
open Go.RowKit
def clashR (ops : List Oper) (a b : Oper) (ra rb : List Id × List Id) : Bool :=
  dstIn a (looksAt ops b) || dstIn b (looksAt ops a) || sameDst a b || ra.2.any (fun k => memI k rb.1 || memI k rb.2)
def clX (ops : List Oper) (xi xj i j : Nat) (a b : Oper) (ra rb : List Id × List Id) : Bool :=
  bif Nat.beq i xi && Nat.beq j xj then clashR ops a b ra rb else bif Nat.beq j xi && Nat.beq i xj then clashR ops b a rb ra else clash ops a b ra rb || clash ops b a rb ra
def pairsOkX (ops : List Oper) (xi xj : Nat) (m : Nat → Nat) (i : Nat) (o : Oper) (r : List Id × List Id) : Nat → List Oper → Log → Bool
  | j, o' :: l, r' :: log => (!clX ops xi xj i j o o' r r' || Nat.testBit (m j) i) && pairsOkX ops xi xj m i o r (j + 1) l log
  | _, _, _ => true
def regOkMX (ops : List Oper) (xi xj : Nat) (m : Nat → Nat) : Nat → List Oper → Log → Bool
  | i, o :: l, r :: log => (afters o).all (fun j => Nat.blt j i) && pairsOkX ops xi xj m i o r (i + 1) l log && regOkMX ops xi xj m (i + 1) l log
  | _, [], [] => true
  | _, _, _ => false
def regOkX (ops : List Oper) (xi xj : Nat) (log : Log) : Bool := Nat.blt xi xj && regOkMX ops xi xj (fun j => (masks [] ops).getD j 0) 0 ops log
def w1T (P : Program) (Γ : Env) (N : Nat) (o : Oper) (st : St) (K : St → Eff → Prop) : Prop :=
  match o.dst with
  | some d => (match Nat.blt d N with
     | true => sem P Γ d o (evL (look st.fr)) (hget st.h) fun e =>
        (match e.new with
         | some n => (match used st.u n with
            | false => st.put (some d) e fun st' _ => K st' e
            | true => False)
         | none => st.put (some d) e fun st' _ => K st' e)
     | false => False)
  | none => sem P Γ (100000 + st.u.length) o (evL (look st.fr)) (hget st.h) fun e =>
     (match e.new with
      | some n => (match used st.u n with
         | false => st.put none e fun st' _ => K st' e
         | true => False)
      | none => st.put none e fun st' _ => K st' e)
abbrev wOpsT (P : Program) (Γ : Env) (N : Nat) : List Oper → St → List (St × Eff) → (St → List (St × Eff) → Prop) → Prop
  | [], st, tr, K => K st tr
  | o :: rest, st, tr, K =>
    match o.guard with
    | none => w1T P Γ N o st fun st' e => wOpsT P Γ N rest st' ((st, e) :: tr) K
    | some _ => False
def logT : List (St × Eff) → Log
  | [] => []
  | p :: l => (p.2.R, p.2.us.map (·.1)) :: logT l
def condX (P : Program) (Γ : Env) (ops : List Oper) (xi xj : Nat) (tr : List (St × Eff)) : Prop :=
  match ops[xi]?, tr[xi]?, tr[xj]? with
  | some o, some (sti, ei), some (_, ej) => sem P Γ (nameOf o sti.u) o (evL (look sti.fr)) (hget (hpush ej.us sti.h)) fun e => e = ei
  | _, _, _ => False
def wRegX (P : Program) (Γ : Env) (N : Nat) (ops : List Oper) (xi xj : Nat) (st : St) (K : St → Prop) : Prop :=
  wOpsT P Γ N ops st [] fun st' tr => regOkX ops xi xj (logT tr.reverse) = true ∧ condX P Γ ops xi xj tr.reverse ∧ K st'
section
variable {P : Program} {Γ : Env} {N : Nat} {ops : List Oper} {m : Nat → Nat} {xi xj : Nat}
theorem clash_symm {a b : Oper} {ra rb : List Id × List Id} (h : clash ops a b ra rb = true) : clash ops b a rb ra = true := by
  simp only [clash, Bool.or_eq_true, List.any_eq_true] at h ⊢
  rcases h with (((h | h) | h) | ⟨k, h1, h2 | h2⟩) | ⟨k, h1, h2⟩
  · exact .inl (.inl (.inl (.inr h)))
  · exact .inl (.inl (.inl (.inl h)))
  · refine .inl (.inl (.inr ?_))
    unfold sameDst at h ⊢
    split at h
    · rename_i d d' e1 e2; rw [e1, e2]; simp at h ⊢; exact h.symm
    · cases h
  · exact .inr ⟨k, h1, h2⟩
  · exact .inl (.inr ⟨k, memI_iff.1 h2, .inr (memI_iff.2 h1)⟩)
  · exact .inl (.inr ⟨k, h1, .inl h2⟩)
theorem clX_cases (ops : List Oper) (xi xj i j : Nat) (a b : Oper) (ra rb : List Id × List Id) :
    (i = xi ∧ j = xj ∧ clX ops xi xj i j a b ra rb = clashR ops a b ra rb) ∨ (j = xi ∧ i = xj ∧ (i ≠ xi ∨ j ≠ xj) ∧ clX ops xi xj i j a b ra rb = clashR ops b a rb ra) ∨
    (¬ (i = xi ∧ j = xj) ∧ ¬ (j = xi ∧ i = xj) ∧ clX ops xi xj i j a b ra rb = (clash ops a b ra rb || clash ops b a rb ra)) := by
  have hb : ∀ p q p' q' : Nat, (Nat.beq p q && Nat.beq p' q') = true ↔ p = q ∧ p' = q' := fun p q p' q' => by
    rw [Bool.and_eq_true]
    exact ⟨fun h => ⟨Nat.eq_of_beq_eq_true h.1, Nat.eq_of_beq_eq_true h.2⟩, fun h => by obtain ⟨rfl, rfl⟩ := h; simp⟩
  unfold clX
  cases h1 : (Nat.beq i xi && Nat.beq j xj) with
  | true => exact .inl ⟨((hb _ _ _ _).1 h1).1, ((hb _ _ _ _).1 h1).2, rfl⟩
  | false =>
    have n1 : ¬ (i = xi ∧ j = xj) := fun h => by rw [(hb _ _ _ _).2 h] at h1; cases h1
    cases h2 : (Nat.beq j xi && Nat.beq i xj) with
    | true =>
      refine .inr (.inl ⟨((hb _ _ _ _).1 h2).1, ((hb _ _ _ _).1 h2).2, ?_, rfl⟩)
      by_cases e : i = xi
      · exact .inr fun e2 => n1 ⟨e, e2⟩
      · exact .inl e
    | false => exact .inr (.inr ⟨n1, (fun h => by rw [(hb _ _ _ _).2 h] at h2; cases h2), rfl⟩)
theorem clX_symm {i j : Nat} {a b : Oper} {ra rb : List Id × List Id} (hx : xi < xj) (h : clX ops xi xj i j a b ra rb = true) : clX ops xi xj j i b a rb ra = true := by
  rcases clX_cases ops xi xj i j a b ra rb with ⟨e1, e2, e⟩ | ⟨e1, e2, _, e⟩ | ⟨n1, n2, e⟩ <;> rw [e] at h
  · rcases clX_cases ops xi xj j i b a rb ra with ⟨g1, g2, g⟩ | ⟨g1, g2, _, g⟩ | ⟨g1, g2, g⟩ <;> rw [g]
    · omega
    · exact h
    · exact absurd ⟨e1, e2⟩ g2
  · rcases clX_cases ops xi xj j i b a rb ra with ⟨g1, g2, g⟩ | ⟨g1, g2, _, g⟩ | ⟨g1, g2, g⟩ <;> rw [g]
    · exact h
    · omega
    · exact absurd ⟨e1, e2⟩ g1
  · rcases clX_cases ops xi xj j i b a rb ra with ⟨g1, g2, g⟩ | ⟨g1, g2, _, g⟩ | ⟨g1, g2, g⟩ <;> rw [g]
    · exact absurd ⟨g1, g2⟩ n2
    · exact absurd ⟨g1, g2⟩ n1
    · rw [Bool.or_comm]; exact h
theorem clX_look {i j : Nat} {o o' : Oper} {r r' : List Id × List Id} (h : dstIn o' (looksAt ops o) = true) : clX ops xi xj i j o o' r r' = true := by
  rcases clX_cases ops xi xj i j o o' r r' with ⟨e1, e2, e⟩ | ⟨e1, e2, _, e⟩ | ⟨n1, n2, e⟩ <;> rw [e] <;> simp [clashR, clash, h]
theorem clX_reads {i j : Nat} {o o' : Oper} {r r' : List Id × List Id} (hx : ¬ (i = xi ∧ j = xj)) (h : r'.2.any (fun k => memI k r.1) = true) : clX ops xi xj i j o o' r r' = true := by
  have h2 : r'.2.any (fun k => memI k r.1 || memI k r.2) = true := by
    rw [List.any_eq_true] at h ⊢
    obtain ⟨q, h1, h2⟩ := h
    exact ⟨q, h1, by rw [h2]; rfl⟩
  rcases clX_cases ops xi xj i j o o' r r' with ⟨e1, e2, e⟩ | ⟨e1, e2, _, e⟩ | ⟨n1, n2, e⟩ <;> rw [e]
  · exact absurd ⟨e1, e2⟩ hx
  · simp only [clashR, h2, Bool.or_true]
  · simp only [clash, h, Bool.or_true, Bool.true_or]
theorem clX_apart {i j : Nat} {o o' : Oper} {r r' : List Id × List Id} (hx : xi < xj) (hij : i < j) (h : clX ops xi xj i j o o' r r' = false) : sameDst o o' = false ∧ ∀ q ∈ r.2, ¬ memI q r'.2 = true := by
  have key : clashR ops o o' r r' = false → sameDst o o' = false ∧ ∀ q ∈ r.2, ¬ memI q r'.2 = true := by
    intro h
    simp only [clashR, Bool.or_eq_false_iff, List.any_eq_false, Bool.or_eq_true, not_or] at h
    exact ⟨h.1.2, fun q hq => (h.2 q hq).2⟩
  rcases clX_cases ops xi xj i j o o' r r' with ⟨e1, e2, e⟩ | ⟨e1, e2, _, e⟩ | ⟨n1, n2, e⟩ <;> rw [e] at h
  · exact key h
  · omega
  · simp only [Bool.or_eq_false_iff] at h
    refine key ?_
    have := h.1
    simp only [clash, Bool.or_eq_false_iff] at this
    simp only [clashR, Bool.or_eq_false_iff]
    exact this.1
theorem regOkX_edges' : ∀ (l : List Oper) (log : Log) (k : Nat), regOkMX ops xi xj m k l log = true → ∀ i o, l[i]? = some o → ∀ j ∈ afters o, j < k + i
  | [], _, _, _, i, o, h => by simp at h
  | o0 :: l, [], k, h, _, _, _ => by simp [regOkMX] at h
  | o0 :: l, r :: log, k, h, i, o, ho => by
    simp only [regOkMX, Bool.and_eq_true, List.all_eq_true] at h
    cases i with
    | zero => simp at ho; subst ho; intro j hj; simpa using h.1.1 j hj
    | succ i =>
      intro j hj
      have := regOkX_edges' l log (k + 1) h.2 i o (by simpa using ho) j hj
      omega
theorem pairsOkX_get : ∀ (l : List Oper) (log : Log) (i : Nat) (o : Oper) (r : List Id × List Id) (k : Nat), pairsOkX ops xi xj m i o r k l log = true → ∀ j o' r', l[j]? = some o' → log[j]? = some r' → clX ops xi xj i (k + j) o o' r r' = false ∨ (m (k + j)).testBit i = true
  | [], _, _, _, _, _, _, j, o', r', h, _ => by simp at h
  | _ :: _, [], _, _, _, _, _, j, o', r', _, h => by simp at h
  | o0 :: l, r0 :: log, i, o, r, k, h, j, o', r', ho, hr => by
    simp only [pairsOkX, Bool.and_eq_true, Bool.or_eq_true, Bool.not_eq_true'] at h
    cases j with
    | zero =>
      simp at ho hr; subst ho; subst hr
      exact h.1
    | succ j =>
      have := pairsOkX_get l log i o r (k + 1) h.2 j o' r' (by simpa using ho) (by simpa using hr)
      rwa [show k + 1 + j = k + (j + 1) by omega] at this
theorem regOkX_pairs' : ∀ (l : List Oper) (log : Log) (k : Nat), regOkMX ops xi xj m k l log = true → ∀ i j o o' r r', i < j → l[i]? = some o → l[j]? = some o' → log[i]? = some r → log[j]? = some r' → clX ops xi xj (k + i) (k + j) o o' r r' = false ∨ (m (k + j)).testBit (k + i) = true
  | [], _, _, _, i, j, o, o', r, r', _, h, _, _, _ => by simp at h
  | _ :: _, [], _, _, i, j, o, o', r, r', _, _, _, h, _ => by simp at h
  | o0 :: l, r0 :: log, k, h, i, j, o, o', r, r', hij, h1, h2, h3, h4 => by
    simp only [regOkMX, Bool.and_eq_true] at h
    obtain ⟨j, rfl⟩ : ∃ j', j = j' + 1 := ⟨j - 1, by omega⟩
    cases i with
    | zero =>
      simp at h1 h3; subst h1; subst h3
      have := pairsOkX_get l log k o0 r0 (k + 1) h.1.2 j o' r' (by simpa using h2) (by simpa using h4)
      rwa [show k + 1 + j = k + (j + 1) by omega] at this
    | succ i =>
      have := regOkX_pairs' l log (k + 1) h.2 i j o o' r r' (by omega) (by simpa using h1) (by simpa using h2) (by simpa using h3) (by simpa using h4)
      rwa [show k + 1 + i = k + (i + 1) by omega, show k + 1 + j = k + (j + 1) by omega] at this
theorem regOkX_edges {log : Log} (h : regOkX ops xi xj log = true) : ∀ i o, ops[i]? = some o → ∀ j ∈ afters o, j < i := fun i o ho j hj => by
  have := regOkX_edges' ops log 0 (by unfold regOkX at h; rw [Bool.and_eq_true] at h; exact h.2) i o ho j hj
  omega
theorem regOkX_pairs {log : Log} (h : regOkX ops xi xj log = true) (i j : Nat) (o o' : Oper) (r r' : List Id × List Id) (hij : i < j) (h1 : ops[i]? = some o) (h2 : ops[j]? = some o') (h3 : log[i]? = some r) (h4 : log[j]? = some r') : clX ops xi xj i j o o' r r' = false ∨ ∃ f, i ∈ anc ops f j := by
  rcases regOkX_pairs' ops log 0 (by unfold regOkX at h; rw [Bool.and_eq_true] at h; exact h.2) i j o o' r r' hij h1 h2 h3 h4 with h | h
  · simp only [Nat.zero_add] at h; exact .inl h
  · simp only [Nat.zero_add] at h
    exact .inr (masks_ok ops [] [] rfl rfl (fun j i hb => by simp at hb) j i h)
theorem sel_H_at : ∀ (l : List Oper) (es : List (Bool × Eff)) (s : F_) (S : Nat → Bool) (k j : Nat) (o : Oper) (b : Bool) (e : Eff) (q : Id), l[j]? = some o → es[j]? = some (b, e) → S (k + j) = true → q ∈ e.us.map (·.1) →
    (∀ j' o' b' e', j < j' → l[j']? = some o' → es[j']? = some (b', e') → q ∈ e'.us.map (·.1) → S (k + j') = false) → ∀ H : Id → Option AO, (sel s l es S k).H q = updH H e.us q
  | [], _, _, _, _, j, _, _, _, _, h, _, _, _, _ => by simp at h
  | _ :: _, [], _, _, _, j, _, _, _, _, _, h, _, _, _ => by simp at h
  | o0 :: l, (b0, e0) :: es, s, S, k, 0, o, b, e, q, ho, he, hS, hq, hno => by
    intro H
    simp only [List.getElem?_cons_zero, Option.some.injEq, Prod.mk.injEq, Nat.add_zero] at ho he hS
    obtain ⟨rfl, rfl⟩ := he
    subst ho
    rw [sel, if_pos hS]
    have h1 := sel_H l es (s.app o0.dst e0) (s.app o0.dst e0) S (fun _ => false) (k + 1) q rfl fun j o' b' e' h1 h2 h3 => by
      have := hno (j + 1) o' b' e' (by omega) (by simpa using h1) (by simpa using h2) h3
      rwa [show k + (j + 1) = k + 1 + j by omega] at this
    rw [h1, sel_none l es _ _ _ fun _ _ _ => rfl]
    exact updH_key e0.us _ _ q hq
  | o0 :: l, (b0, e0) :: es, s, S, k, j + 1, o, b, e, q, ho, he, hS, hq, hno => by
    intro H
    rw [sel]
    refine sel_H_at l es _ S (k + 1) j o b e q (by simpa using ho) (by simpa using he) (by rw [show k + 1 + j = k + (j + 1) by omega]; exact hS) hq (fun j' o' b' e' h0 h1 h2 h3 => ?_) H
    have := hno (j' + 1) o' b' e' (by omega) (by simpa using h1) (by simpa using h2) h3
    rwa [show k + (j' + 1) = k + 1 + j' by omega] at this
theorem w1T_ok {o : Oper} {st : St} {K : St → Eff → Prop} (hΓ : Γ.chk P = true) (h : w1T P Γ N o st K) :
    ∃ e, K (st.app o.dst e) e ∧ (∀ d, o.dst = some d → d < N) ∧ Good P o (evL st.fs.L) st.fs.H e ∧ (∀ n, e.new = some n → ¬ st.fs.U n) := by
  have fin : ∀ (d : Option Nat) (e : Eff), (match e.new with
         | some n => (match used st.u n with
            | false => st.put d e fun st' _ => K st' e
            | true => False)
         | none => st.put d e fun st' _ => K st' e) → K (st.app d e) e ∧ ∀ n, e.new = some n → ¬ st.fs.U n := by
    intro d e h1
    split at h1
    · rename_i n hn
      split at h1
      · rename_i hu
        rw [St.put_eq] at h1
        exact ⟨h1, fun n' hn' => by rw [hn] at hn'; injection hn' with hn'; subst hn'; show ¬ used st.u n = true; rw [hu]; simp⟩
      · exact h1.elim
    · rename_i hn
      rw [St.put_eq] at h1
      exact ⟨h1, fun n' hn' => by rw [hn] at hn'; cases hn'⟩
  unfold w1T at h
  split at h
  · rename_i d hd
    split at h
    · rename_i hlt
      obtain ⟨e, h1, h2⟩ := sem_ok hΓ h
      obtain ⟨h3, h4⟩ := fin _ e h1
      exact ⟨e, by rw [hd]; exact h3, fun d' hd' => by rw [hd] at hd'; injection hd' with hd'; subst hd'; simpa using hlt, h2, h4⟩
    · exact h.elim
  · rename_i hd
    obtain ⟨e, h1, h2⟩ := sem_ok hΓ h
    obtain ⟨h3, h4⟩ := fin _ e h1
    exact ⟨e, by rw [hd]; exact h3, fun d' hd' => (by rw [hd] at hd'; cases hd'), h2, h4⟩
theorem logT_eq : ∀ (T : List (St × Eff)), logT T = (T.map fun p => (true, p.2)).map fun p => (p.2.R, p.2.us.map (·.1))
  | [] => rfl
  | p :: T => by rw [logT, logT_eq T]; rfl
theorem wOpsT_ok (hΓ : Γ.chk P = true) : ∀ (l : List Oper) (st : St) (tr : List (St × Eff)) (K : St → List (St × Eff) → Prop), wOpsT P Γ N l st tr K →
    ∃ (T : List (St × Eff)) (st' : St), T.length = l.length ∧ ChainOK P N ops st.fs l (T.map fun p => (true, p.2)) ∧ (∀ k i p, T[i]? = some p → p.1.fs = sel st.fs l (T.map fun p => (true, p.2)) (fun n => decide (n < k + i)) k) ∧ st'.fs = appAll st.fs l (T.map fun p => (true, p.2)) ∧ K st' (T.reverse ++ tr)
  | [], st, tr, K, h => ⟨[], st, rfl, trivial, fun _ _ _ h => by simp at h, rfl, h⟩
  | o :: rest, st, tr, K, h => by
    rw [wOpsT] at h
    split at h
    · rename_i hgd
      obtain ⟨e, h1, h2, h3, h4⟩ := w1T_ok hΓ h
      obtain ⟨T, st', g1, g2, g3, g4, g5⟩ := wOpsT_ok hΓ rest _ _ _ h1
      rw [app_fs] at g2 g4
      refine ⟨(st, e) :: T, st', by simp [g1], ⟨⟨h2, by unfold guardIs; rw [hgd], fun _ => ⟨h3, h4⟩, fun h => by cases h⟩, g2⟩, fun k i p hp => ?_, g4, by simpa using g5⟩
      cases i with
      | zero =>
        simp only [List.getElem?_cons_zero, Option.some.injEq] at hp
        subst hp
        rw [sel_none _ _ _ _ _ fun i h1 _ => by simp; omega]
      | succ i =>
        have := g3 (k + 1) i p (by simpa using hp)
        rw [app_fs] at this
        rw [this, List.map_cons, sel]
        have hd : decide (k < k + (i + 1)) = true := by simp
        simp only [hd, if_true]
        rw [show k + (i + 1) = k + 1 + i by omega]
    · exact h.elim
  termination_by l => l.length
theorem chain_anyX {xi xj : Nat} {B : Nat} {M : Nat → Prop} {w0 : Start} {Q : Exit → Act → World → Prop} (s : F_) (es : List (Bool × Eff)) (hlen : es.length = ops.length) (hch : ChainOK P N ops s ops es) (hxij : xi < xj) (hreg : regOkX ops xi xj (es.map fun p => (p.2.R, p.2.us.map (·.1))) = true)
    {oi oj : Oper} {bj : Bool} {ei ej : Eff} (hoi : ops[xi]? = some oi) (hei : es[xi]? = some (true, ei)) (hoj : ops[xj]? = some oj) (hej : es[xj]? = some (bj, ej)) (hX : Good P oi (evL (sel s ops es (fun n => decide (n < xi)) 0).L) (updH (sel s ops es (fun n => decide (n < xi)) 0).H ej.us) ei)
    (hQ : ∀ ρ a w, Conc N B M w0 ρ (appAll s ops es) a w → Q .normal a w) :
    ∀ (fuel : Nat) (listed : Array Bool) (ρ : Rho) (a : Act) (w : World), listed.size = ops.length → (ops.length ≤ fuel + ((List.range ops.length).filter fun i => listed.getD i true).length) →
      (∀ i o, ops[i]? = some o → listed.getD i true = true → ∀ j ∈ afters o, listed.getD j true = true) →
      Conc N B M w0 ρ (sel s ops es (fun i => listed.getD i true) 0) a w → wpAny P .any ops.toArray Q fuel listed a w := by
  have hedge := regOkX_edges (ops := ops) hreg
  have hall : ∀ listed : Array Bool, listed.size = ops.length → Region.ready .any ops.toArray listed = [] → ∀ i, i < ops.length → listed.getD i true = true := by
    intro listed hsz hr i
    induction i using Nat.strongRecOn with
    | _ i ih =>
      intro hi
      cases hl : listed.getD i true with
      | true => rfl
      | false =>
        have hm : i ∈ Region.ready .any ops.toArray listed := by
          simp only [Region.ready, List.mem_filter, List.mem_range, List.size_toArray, hi, true_and, hl, Bool.not_false, Bool.true_and]
          have ho : ops.toArray[i]? = some ops[i] := by simp [hi]
          rw [ho]
          simp only [Option.map_some, Option.getD_some, Array.all_eq_true']
          intro e he
          cases hb : Region.binds .any e with
          | false => rfl
          | true =>
            have hj : e.on ∈ afters ops[i] := List.mem_map.2 ⟨e, List.mem_filter.2 ⟨by simpa using he, hb⟩, rfl⟩
            have hlt := hedge i ops[i] (List.getElem?_eq_getElem hi) e.on hj
            have := ih e.on (by omega) (by omega)
            have hs : e.on < listed.size := by omega
            simp only [Array.getD_eq_getD_getElem?, Array.getElem?_eq_getElem hs, Option.getD_some] at this ⊢
            simp [this]
        rw [hr] at hm
        cases hm
  have hfin : ∀ (listed : Array Bool) (ρ : Rho) (a : Act) (w : World), listed.size = ops.length → Conc N B M w0 ρ (sel s ops es (fun i => listed.getD i true) 0) a w → Region.ready .any ops.toArray listed = [] → Q .normal a w := by
    intro listed ρ a w hsz hc hr
    rw [sel_all ops es s _ 0 fun i _ hi => hall listed hsz hr i (by omega)] at hc
    exact hQ ρ a w hc
  intro fuel
  induction fuel with
  | zero =>
    intro listed ρ a w hsz hcount hdown hc
    have hfull : ∀ i, i < ops.length → listed.getD i true = true := by
      have hle : ((List.range ops.length).filter fun i => listed.getD i true).length ≥ (List.range ops.length).length := by simpa using hcount
      have heq := List.length_filter_eq_length_iff.1 (Nat.le_antisymm (List.length_filter_le _ _) hle)
      intro i hi
      exact heq i (List.mem_range.2 hi)
    have hr : Region.ready .any ops.toArray listed = [] := by
      rw [Region.ready, List.filter_eq_nil_iff]
      intro i hi
      have := hfull i (by simpa using hi)
      simp [this]
    exact ⟨hr, hfin listed ρ a w hsz hc hr⟩
  | succ fuel ih =>
    intro listed ρ a w hsz hcount hdown hc
    refine ⟨hfin listed ρ a w hsz hc, fun i hi => ?_⟩
    obtain ⟨hnot, o, ho, hafter⟩ : listed.getD i true = false ∧ ∃ o, ops[i]? = some o ∧ ∀ j ∈ afters o, listed.getD j true = true := by
      simp only [Region.ready, List.mem_filter, List.mem_range, List.size_toArray, Bool.and_eq_true, Bool.not_eq_true'] at hi
      obtain ⟨h1, h2, h3⟩ := hi
      have ho : ops[i]? = some ops[i] := List.getElem?_eq_getElem h1
      refine ⟨h2, ops[i], ho, fun j hj => ?_⟩
      have ho' : ops.toArray[i]? = some ops[i] := by simp [h1]
      rw [ho'] at h3
      simp only [Option.map_some, Option.getD_some, Array.all_eq_true'] at h3
      obtain ⟨e, he, rfl⟩ := List.mem_map.1 hj
      obtain ⟨he1, he2⟩ := List.mem_filter.1 he
      have h4 := h3 e (by simpa using he1)
      simp only [he2, Bool.not_true, Bool.false_or] at h4
      have hlt := hedge i ops[i] ho e.on hj
      have hs : e.on < listed.size := by omega
      simp only [Array.getD_eq_getD_getElem?, Array.getElem?_eq_getElem hs, Option.getD_some] at h4 ⊢
      exact h4
    have hil : i < ops.length := by
      rcases Nat.lt_or_ge i ops.length with h' | h'
      · exact h'
      · rw [List.getElem?_eq_none h'] at ho; cases ho
    obtain ⟨b, e, he⟩ : ∃ b e, es[i]? = some (b, e) := ⟨_, _, List.getElem?_eq_getElem (by omega)⟩
    have hstep := chain_at ops es s 0 hch i o b e ho he
    simp only [Nat.zero_add] at hstep
    let S : Nat → Bool := fun i => listed.getD i true
    have hcl : ∀ j o' b' e', ops[j]? = some o' → es[j]? = some (b', e') → j ≠ i → clX ops xi xj i j o o' (e.R, e.us.map (·.1)) (e'.R, e'.us.map (·.1)) = true → S j = decide (j < i) := by
      intro j o' b' e' ho' he' hne hcl
      have g1 : (es.map fun p => (p.2.R, p.2.us.map (·.1)))[i]? = some (e.R, e.us.map (·.1)) := by simp [he]
      have g2 : (es.map fun p => (p.2.R, p.2.us.map (·.1)))[j]? = some (e'.R, e'.us.map (·.1)) := by simp [he']
      rcases Nat.lt_or_gt_of_ne hne with hlt | hgt
      · have hd : decide (j < i) = true := by simpa using hlt
        rw [hd]
        have hc1 : clX ops xi xj j i o' o (e'.R, e'.us.map (·.1)) (e.R, e.us.map (·.1)) = true := clX_symm hxij hcl
        rcases regOkX_pairs hreg j i o' o _ _ hlt ho' ho g2 g1 with h | ⟨f, h⟩
        · rw [hc1] at h; cases h
        · exact anc_ready hdown ho hafter _ j h
      · have hd : decide (j < i) = false := by simp; omega
        rw [hd]
        rcases regOkX_pairs hreg i j o o' _ _ hgt ho ho' g1 g2 with h | ⟨f, h⟩
        · rw [hcl] at h; cases h
        · cases hj : S j with
          | false => rfl
          | true =>
            have := anc_closed hdown _ j hj i h
            rw [hnot] at this
            cases this
    have hSi : S i = false := hnot
    have hLook : ∀ t, t ∈ looksAt ops o → (sel s ops es S 0).L t = (sel s ops es (fun n => decide (n < i)) 0).L t := by
      intro t ht
      refine sel_L ops es s s S _ 0 t rfl fun j o' h1 h2 => ?_
      simp only [Nat.zero_add]
      by_cases hji : j = i
      · subst hji; rw [hSi]; simp
      · have hjl : j < es.length := by
          rw [hlen]
          rcases Nat.lt_or_ge j ops.length with h' | h'
          · exact h'
          · rw [List.getElem?_eq_none h'] at h1; cases h1
        refine hcl j o' _ _ h1 (List.getElem?_eq_getElem hjl) hji (clX_look ?_)
        simp only [dstIn, h2]
        exact memN_iff.2 ht
    have hHeap0 : ∀ q ∈ e.R, (∀ j o' b' e', ops[j]? = some o' → es[j]? = some (b', e') → q ∈ e'.us.map (·.1) → i = xi → j = xj → S j = false) → (sel s ops es S 0).H q = (sel s ops es (fun n => decide (n < i)) 0).H q := by
      intro q hq hno
      refine sel_H ops es s s S _ 0 q rfl fun j o' b' e' h1 h2 h3 => ?_
      simp only [Nat.zero_add]
      by_cases hji : j = i
      · subst hji; rw [hSi]; simp
      · by_cases hx : i = xi ∧ j = xj
        · rw [hno j o' b' e' h1 h2 h3 hx.1 hx.2]
          symm; rw [decide_eq_false_iff_not]; omega
        · refine hcl j o' b' e' h1 h2 hji ?_
          exact clX_reads hx (List.any_eq_true.2 ⟨q, h3, memI_iff.2 hq⟩)
    have hGood : Good P o (evL (sel s ops es S 0).L) (sel s ops es S 0).H e ∨ b = false := by
      cases b with
      | false => exact .inr rfl
      | true =>
        left
        obtain ⟨k1, _⟩ := hstep.yes rfl
        by_cases hx : i = xi ∧ S xj = true
        · obtain ⟨hxi, hSj⟩ := hx
          subst hxi
          have eo : oi = o := by rw [ho] at hoi; injection hoi with h; exact h.symm
          have ee : ei = e := by rw [he] at hei; injection hei with h; injection h with _ h; exact h.symm
          subst eo; subst ee
          have hg := hX
          refine hg.mono (evL_congr hLook) fun q hq => ?_
          by_cases hk : q ∈ ej.us.map (·.1)
          · have h1 := sel_H_at ops es s S 0 xj oj bj ej q hoj hej (by simpa using hSj) hk (fun j o' b' e' hj h1 h2 h3 => by
              simp only [Nat.zero_add]
              have hji : j ≠ i := by omega
              have hx : ¬ (i = i ∧ j = xj) := fun h => by omega
              have := hcl j o' b' e' h1 h2 hji (clX_reads hx (List.any_eq_true.2 ⟨q, h3, memI_iff.2 hq⟩))
              rw [this, decide_eq_false_iff_not]; omega) (sel s ops es (fun n => decide (n < i)) 0).H
            exact h1
          · rw [updH_other ej.us _ q hk]
            refine hHeap0 q hq fun j o' b' e' h1 h2 h3 _ hjx => ?_
            subst hjx
            rw [hej] at h2
            injection h2 with h2; injection h2 with _ h2
            subst h2
            exact absurd h3 hk
        · refine k1.mono (evL_congr hLook) fun q hq => hHeap0 q hq fun j o' b' e' h1 h2 h3 hxi hjx => ?_
          subst hjx
          cases hS : S j with
          | false => rfl
          | true => exact absurd ⟨hxi, hS⟩ hx
    have hap : ∀ j o' b' e', i < j → S (0 + j) = true → ops[j]? = some o' → es[j]? = some (b', e') → Apart o.dst o'.dst e e' := by
      intro j o' b' e' hij hSj h1 h2
      simp only [Nat.zero_add] at hSj
      have hncl : clX ops xi xj i j o o' (e.R, e.us.map (·.1)) (e'.R, e'.us.map (·.1)) = false := by
        cases hc' : clX ops xi xj i j o o' (e.R, e.us.map (·.1)) (e'.R, e'.us.map (·.1)) with
        | false => rfl
        | true =>
          have := hcl j o' b' e' h1 h2 (by omega) hc'
          rw [hSj] at this
          simp at this
          omega
      obtain ⟨h5, h6⟩ := clX_apart hxij hij hncl
      refine ⟨fun t ht ht' => ?_, fun q hq hq' => ?_⟩
      · simp [sameDst, ht, ht'] at h5
      · exact h6 q hq (memI_iff.2 hq')
    have hnew : (sel s ops es (fun n => if n = i then true else S n) 0) = (sel s ops es S 0).app o.dst e := by
      have := sel_add ops es s S 0 i o b e ho he (by simpa using hSi) hap
      simpa using this
    have hset : ∀ n, (listed.setIfInBounds i true).getD n true = (if n = i then true else S n) := by
      intro n
      simp only [Array.getD_eq_getD_getElem?, Array.getElem?_setIfInBounds, S]
      by_cases hn : i = n
      · subst hn
        have : i < listed.size := by omega
        simp [this]
      · rw [if_neg hn, if_neg (fun e => hn e.symm)]
    have hcnt : ops.length ≤ fuel + ((List.range ops.length).filter fun n => (listed.setIfInBounds i true).getD n true).length := by
      have key : ∀ (l : List Nat), l.Nodup → i ∈ l → (l.filter fun n => if n = i then true else S n).length = (l.filter fun n => S n).length + 1 := by
        intro l
        induction l with
        | nil => intro _ h; cases h
        | cons x l ih =>
          intro hnd hm
          have hnd' := List.nodup_cons.1 hnd
          by_cases hx : x = i
          · subst hx
            have e1 : (l.filter fun n => if n = x then true else S n) = l.filter fun n => S n := by
              apply List.filter_congr
              intro n hn
              have : n ≠ x := fun e => hnd'.1 (e ▸ hn)
              simp [this]
            simp only [List.filter_cons, if_true, hSi, Bool.false_eq_true, if_false, List.length_cons]
            rw [e1]
          · have := ih hnd'.2 (by rcases List.mem_cons.1 hm with h | h; · exact absurd h.symm hx
                                  · exact h)
            simp only [List.filter_cons, if_neg hx]
            cases S x
            · simp only [Bool.false_eq_true, if_false]; exact this
            · simp only [if_true, List.length_cons]; rw [this]
      have h1 : ((List.range ops.length).filter fun n => (listed.setIfInBounds i true).getD n true) = (List.range ops.length).filter fun n => if n = i then true else S n := List.filter_congr fun n _ => hset n
      rw [h1, key _ List.nodup_range (List.mem_range.2 hil)]
      have e : ((List.range ops.length).filter fun n => S n).length = ((List.range ops.length).filter fun i => listed.getD i true).length := rfl
      omega
    have hdown' : ∀ k o1, ops[k]? = some o1 → (listed.setIfInBounds i true).getD k true = true → ∀ j ∈ afters o1, (listed.setIfInBounds i true).getD j true = true := by
      intro k o1 hk hk' j hj
      rw [hset] at hk' ⊢
      by_cases hji : j = i
      · rw [if_pos hji]
      · rw [if_neg hji]
        by_cases hki : k = i
        · subst hki
          rw [ho] at hk
          injection hk with hk
          subst hk
          exact hafter j hj
        · rw [if_neg hki] at hk'
          exact hdown k o1 hk hk' j hj
    have next : ∀ (v : Value) (w' : World) (ρ' : Rho), Conc N B M w0 ρ' ((sel s ops es S 0).app o.dst e) (a.put o.dst v) w' → wpAny P .any ops.toArray Q fuel (listed.setIfInBounds i true) (a.put o.dst v) w' := by
      intro v w' ρ' hc'
      rw [← hnew] at hc'
      refine ih (listed.setIfInBounds i true) ρ' _ w' (by simpa using hsz) hcnt hdown' ?_
      rw [sel_congr ops es s (fun n => (listed.setIfInBounds i true).getD n true) (fun n => if n = i then true else S n) 0 fun n _ => hset n]
      exact hc'
    have hgi : guardIs ops (sel s ops es S 0) o b := by
      have hg := hstep.guard
      unfold guardIs at hg ⊢
      split at hg
      · exact hg
      · rename_i j want hgd
        rcases hg with ⟨dj, b1, k1, k2, k3⟩ | ⟨dj, k1, k2, k3⟩
        · refine .inl ⟨dj, b1, k1, ?_, k3⟩
          rw [hLook dj (by simp only [looksAt, hgd, List.mem_append]; right; rw [k1]; simp)]
          exact k2
        · refine .inr ⟨dj, k1, ?_, k3⟩
          rw [hLook dj (by simp only [looksAt, hgd, List.mem_append]; right; rw [k1]; simp)]
          exact k2
    have hw := wanted_of (ops := ops) hc hgi
    unfold wpOp
    have ho' : ops.toArray[i]? = some o := by simpa using ho
    rw [ho']
    show if Region.wanted o (yielded ops.toArray a.tmps) = true then _ else _
    cases b with
    | true =>
      rw [if_pos hw]
      obtain ⟨g1, g2⟩ := hstep.yes rfl
      have g1' : Good P o (evL (sel s ops es S 0).L) (sel s ops es S 0).H e := hGood.resolve_right (by simp)
      refine .inl (g1' N B M w0 ρ (sel s ops es S 0) a w Q _ hc (fun _ _ => rfl) (fun _ _ => rfl) (fun d hd hU => ?_) hstep.dst next)
      rcases sel_U ops es s S 0 d hU with h | ⟨j, o', b', e', h1, h2, h3, h4⟩
      · exact g2 d hd (sel_keepU ops es s _ 0 d h)
      · simp only [Nat.zero_add] at h1
        have hji : j ≠ i := fun e => by subst e; rw [hSi] at h1; cases h1
        rcases Nat.lt_or_gt_of_ne hji with hlt | hgt
        · exact chain_new hch hlt h2 ho h3 he h4 hd
        · exact chain_new hch hgt ho h2 he h3 hd h4
    | false =>
      rw [if_neg (by rw [hw]; simp)]
      have hse := hstep.no rfl
      subst hse
      exact next undef w ρ (hc.put hstep.dst (av := .tup []) ⟨#[], rfl, trivial⟩ (by simp [AV.ids]) [])
theorem wRegX_ok (hΓ : Γ.chk P = true) {st : St} {K : St → Prop} (h : wRegX P Γ N ops xi xj st K) : ∃ es st', es.length = ops.length ∧ ChainOK P N ops st.fs ops es ∧ xi < xj ∧ regOkX ops xi xj (es.map fun p => (p.2.R, p.2.us.map (·.1))) = true ∧
    (∃ oi oj bj ei ej, ops[xi]? = some oi ∧ es[xi]? = some (true, ei) ∧ ops[xj]? = some oj ∧ es[xj]? = some (bj, ej) ∧ Good P oi (evL (sel st.fs ops es (fun n => decide (n < xi)) 0).L) (updH (sel st.fs ops es (fun n => decide (n < xi)) 0).H ej.us) ei) ∧ st'.fs = appAll st.fs ops es ∧ K st' := by
  obtain ⟨T, st', h1, h2, h3, h4, h5, h6, h7⟩ := wOpsT_ok (ops := ops) hΓ ops st [] _ h
  simp only [List.append_nil, List.reverse_reverse] at h5 h6
  refine ⟨T.map fun p => (true, p.2), st', by simp [h1], h2, ?_, by rw [← logT_eq]; exact h5, ?_, h4, h7⟩
  · unfold regOkX at h5
    rw [Bool.and_eq_true] at h5
    simpa using h5.1
  · unfold condX at h6
    split at h6
    · rename_i oi sti ei _ ej g1 g2 g3
      obtain ⟨e, g4, g5⟩ := sem_ok hΓ h6
      subst g4
      have hl : xj < ops.length := by
        rw [← h1]
        rcases Nat.lt_or_ge xj T.length with h' | h'
        · exact h'
        · rw [List.getElem?_eq_none h'] at g3; cases g3
      have hs := h3 0 xi _ g2
      simp only [Nat.zero_add] at hs
      refine ⟨oi, ops[xj], true, e, ej, g1, by simp [g2], List.getElem?_eq_getElem hl, by simp [g3], ?_⟩
      rw [← hs]
      have e2 : updH sti.fs.H ej.us = hget (hpush ej.us sti.h) := by funext o; exact (hget_push ej.us sti.h o).symm
      show Good P oi (evL sti.fs.L) (updH sti.fs.H ej.us) e
      rw [e2]
      exact g5
    · exact h6.elim
end
end Go.Sim
