/- What makes a program right: the two orders of looking come to the same. Plain facts. -/
import Derived.Test.YtehniaekfijmiaaFnsPb
import Derived.Test.YtehniaekfijmiaaPlA
namespace Go.Proofs.Ytehniaekfijmiaa
open Go.Sim
set_option maxRecDepth 100000
set_option maxHeartbeats 4000000
def anyE (l : List TLine) (i : Nat) : Nat → Nat → Bool
  | 0, _ => false
  | n + 1, j => (elseAt l j == some i) || anyE l i n (j + 1)
theorem anyE_iff {l : List TLine} {i : Nat} : ∀ {n j : Nat}, anyE l i n j = true ↔ ∃ k, j ≤ k ∧ k < j + n ∧ elseAt l k = some i
  | 0, j => by
    rw [anyE]
    exact ⟨fun h => (by cases h), fun ⟨k, h1, h2, _⟩ => (by omega)⟩
  | n + 1, j => by
    rw [anyE, Bool.or_eq_true, anyE_iff, beq_iff_eq]
    constructor
    · rintro (h | ⟨k, h1, h2, h3⟩)
      · exact ⟨j, by omega, by omega, h⟩
      · exact ⟨k, by omega, by omega, h3⟩
    · rintro ⟨k, h1, h2, h3⟩
      by_cases hk : k = j
      · subst hk; exact .inl h3
      · exact .inr ⟨k, by omega, by omega, h3⟩
def elsesIn (l : List TLine) (k e : Nat) : Nat → Nat → Bool
  | 0, _ => true
  | n + 1, i => if i < e then (match l[i]? with
    | some x => (if x.fKind = 4 then anyE l i (i - k) k else true) && elsesIn l k e n (i + 1)
    | none => true) else true
theorem elsesIn_iff {l : List TLine} {k e : Nat} : ∀ {n i : Nat}, e - i ≤ n → (elsesIn l k e n i = true ↔ ∀ j x, i ≤ j → j < e → l[j]? = some x → x.fKind = 4 → anyE l j (j - k) k = true)
  | 0, i, h => ⟨fun _ j x h1 h2 => by omega, fun _ => rfl⟩
  | n + 1, i, h => by
    rw [elsesIn]
    by_cases hi : i < e
    · rw [if_pos hi]
      cases hx : l[i]? with
      | none =>
        refine ⟨fun _ j x h1 h2 hj => ?_, fun _ => rfl⟩
        have : l.length ≤ i := List.getElem?_eq_none_iff.1 hx
        rw [List.getElem?_eq_none (by omega)] at hj
        cases hj
      | some x =>
        dsimp only
        rw [Bool.and_eq_true, elsesIn_iff (by omega)]
        constructor
        · rintro ⟨h1, h2⟩ j y hj1 hj2 hy hk
          by_cases he : j = i
          · subst he
            rw [hx] at hy
            injection hy with hy
            subst hy
            rw [if_pos hk] at h1
            exact h1
          · exact h2 j y (by omega) hj2 hy hk
        · intro H
          refine ⟨?_, fun j y hj1 hj2 hy hk => H j y (by omega) hj2 hy hk⟩
          split
          · exact H i x (Nat.le_refl _) hi hx (by assumption)
          · rfl
    · rw [if_neg hi]
      exact ⟨fun _ j x h1 h2 => by omega, fun _ => rfl⟩
def bodyS (l : List TLine) (locals : List (List UInt8)) (k e : Nat) : Nat → Nat → Nat → Bool
  | 0, _, _ => true
  | n + 1, i, d => if i < e then (match l[i]? with
    | some x => if x.fKind = 0 then false else if x.fKind = 4 ∧ anyE l i (i - k) k = false then false else
      if dep x d ≤ 4 ∧ exprKnown l locals x.fExpr = true then bodyS l locals k e n (i + 1) (dep x d) else false
    | none => false) else true
theorem bodyS_step {l : List TLine} {locals : List (List UInt8)} {k e i d : Nat} {x : TLine} (hi : i < e) (hx : l[i]? = some x) : bodyS l locals k e (e - i) i d = if x.fKind = 0 then false else if x.fKind = 4 ∧ anyE l i (i - k) k = false then false else if dep x d ≤ 4 ∧ exprKnown l locals x.fExpr = true then bodyS l locals k e (e - (i + 1)) (i + 1) (dep x d) else false := by
  rw [show e - i = (e - (i + 1)) + 1 by omega, bodyS, if_pos hi, hx]
theorem bodyS_end {l : List TLine} {locals : List (List UInt8)} {k e i d n : Nat} (hi : e ≤ i) : bodyS l locals k e n i d = true := by
  cases n with
  | zero => rfl
  | succ n => rw [bodyS, if_neg (by omega)]
theorem bodyS_eq {l : List TLine} {locals : List (List UInt8)} {k e : Nat} : ∀ {n i d : Nat}, bodyS l locals k e n i d = (bodyN l locals e n i d && elsesIn l k e n i)
  | 0, i, d => rfl
  | n + 1, i, d => by
    rw [bodyS, bodyN, elsesIn]
    by_cases hi : i < e
    · rw [if_pos hi, if_pos hi, if_pos hi]
      cases hx : l[i]? with
      | none => rfl
      | some x =>
        dsimp only
        by_cases h0 : x.fKind = 0
        · rw [if_pos h0, if_pos h0]; rfl
        · rw [if_neg h0, if_neg h0]
          rw [bodyS_eq]
          by_cases h4 : x.fKind = 4
          · rw [if_pos h4]
            cases ha : anyE l i (i - k) k with
            | false => rw [if_pos ⟨h4, rfl⟩]; simp
            | true =>
              rw [if_neg (by simp)]
              split <;> simp_all
          · rw [if_neg (by simp [h4]), if_neg h4]
            split <;> simp_all
    · rw [if_neg hi, if_neg hi, if_neg hi]; rfl
def fnOk (l : List TLine) (k e : Nat) : Bool := decide ((localsOf l (k : Int)).length ≤ 8) && bodyN l (localsOf l (k : Int)) e (e - (k + 1)) (k + 1) 0
def fnOkS (l : List TLine) (k e : Nat) : Bool := decide ((localsOf l (k : Int)).length ≤ 8) && bodyS l (localsOf l (k : Int)) k e (e - (k + 1)) (k + 1) 0
theorem fnOkS_eq {l : List TLine} {k e : Nat} : fnOkS l k e = (fnOk l k e && elsesIn l k e (e - (k + 1)) (k + 1)) := by
  rw [fnOkS, fnOk, bodyS_eq, Bool.and_assoc]
theorem fnOk_nofun {l : List TLine} {k e : Nat} (h : fnOk l k e = true) (he : e ≤ l.length) : ∀ i x, k < i → i < e → l[i]? = some x → x.fKind ≠ 0 := by
  rw [fnOk, Bool.and_eq_true] at h
  have key : ∀ (n i d : Nat), e - i ≤ n → bodyN l (localsOf l (k : Int)) e n i d = true → ∀ j x, i ≤ j → j < e → l[j]? = some x → x.fKind ≠ 0 := by
    intro n
    induction n with
    | zero => intro i d hn _ j x h1 h2; omega
    | succ n ih =>
      intro i d hn hb j x h1 h2 hx
      rw [bodyN, if_pos (by omega)] at hb
      obtain ⟨y, hy⟩ := get_of_lt (l := l) (k := i) (by omega)
      rw [hy] at hb
      dsimp only at hb
      split at hb
      · cases hb
      · rename_i h0
        split at hb
        · by_cases hj : j = i
          · subst hj
            rw [hy] at hx
            injection hx with hx
            subst hx
            exact h0
          · exact ih (i + 1) _ (by omega) hb j x (by omega) h2 hx
        · cases hb
  exact fun i x h1 h2 hx => key _ _ _ (Nat.le_refl _) h.2 i x (by omega) h2 hx
def chainN (F : Nat → Nat → Bool) (l : List TLine) : Nat → Nat → Bool
  | 0, k => decide (l.length ≤ k)
  | n + 1, k => if k < l.length then (match l[k]?, endAt l k with
    | some x, some e => if x.fKind = 0 ∧ F k e = true then chainN F l n (e + 1) else false
    | _, _ => false) else true
theorem chainN_step {F : Nat → Nat → Bool} {l : List TLine} {k n : Nat} {x : TLine} (hx : l[k]? = some x) (hn : l.length - k ≤ n) : chainN F l n k = match endAt l k with | some e => if x.fKind = 0 ∧ F k e = true then chainN F l (l.length - (e + 1)) (e + 1) else false | none => false := by
  have more : ∀ (n m k : Nat), l.length - k ≤ n → l.length - k ≤ m → chainN F l n k = chainN F l m k := by
    intro n
    induction n with
    | zero =>
      intro m k h1 h2
      rw [chainN, decide_eq_true (by omega)]
      cases m with
      | zero => rw [chainN, decide_eq_true (by omega)]
      | succ m => rw [chainN, if_neg (by omega)]
    | succ n ih =>
      intro m k h1 h2
      cases m with
      | zero => rw [chainN, chainN, if_neg (by omega), decide_eq_true (by omega)]
      | succ m =>
        rw [chainN, chainN]
        split
        · split
          · rename_i x e hx he
            obtain ⟨_, _, _, _, h3, _⟩ := endAt_some he
            split
            · exact ih m (e + 1) (by omega) (by omega)
            · rfl
          · rfl
        · rfl
  have hk : k < l.length := by
    rcases Nat.lt_or_ge k l.length with h | h
    · exact h
    · rw [List.getElem?_eq_none h] at hx; cases hx
  obtain ⟨m, rfl⟩ : ∃ m, n = m + 1 := ⟨n - 1, by omega⟩
  rw [chainN, if_pos hk, hx]
  cases he : endAt l k with
  | none => rfl
  | some e =>
    obtain ⟨_, _, _, _, h3, _⟩ := endAt_some he
    dsimp only
    split
    · exact more _ _ _ (by omega) (by omega)
    · rfl
theorem chainN_end {F : Nat → Nat → Bool} {l : List TLine} {k n : Nat} (hk : l.length ≤ k) : chainN F l n k = true := by
  cases n with
  | zero => rw [chainN, decide_eq_true hk]
  | succ n => rw [chainN, if_neg (by omega)]
def elsesOk (l : List TLine) : Bool := elsesIn l 0 l.length l.length 0
def nameFirst (l : List TLine) (k : Nat) : Bool := match l[k]? with | some x => findN l 0 x.fName == some k | none => false
def chainI (l : List TLine) : List Nat → Nat → Bool
  | [], next => elsesOk l && (next == l.length)
  | k :: fs, next => match endAt l k with
    | some e => if k = next ∧ nameFirst l k = true ∧ fnOk l k e = true then chainI l fs (e + 1) else false
    | none => false
theorem funsF_skip {l : List TLine} {i e : Nat} : ∀ (n : Nat), e - i ≤ n → i ≤ e → e ≤ l.length → (∀ j x, i ≤ j → j < e → l[j]? = some x → x.fKind ≠ 0) → funsF (l.drop i) i = funsF (l.drop e) e
  | n, hn, hi, he, h => by
    by_cases hx : i = e
    · subst hx; rfl
    obtain ⟨x, hxi⟩ := get_of_lt (l := l) (k := i) (by omega)
    cases n with
    | zero => omega
    | succ n =>
      rw [funsF_at hxi, if_neg (h i x (Nat.le_refl _) (by omega) hxi), List.nil_append]
      exact funsF_skip n (by omega) (by omega) he fun j y h1 h2 => h j y (by omega) h2
theorem chainI_eq {l : List TLine} : ∀ (n i : Nat), l.length - i ≤ n → i ≤ l.length → chainI l (funsF (l.drop i) i) i = ((funsF (l.drop i) i).all (nameFirst l) && chainN (fnOk l) l (l.length - i) i && elsesOk l)
  | n, i, hn, hi => by
    by_cases hlt : i < l.length
    · obtain ⟨x, hx⟩ := get_of_lt hlt
      rw [chainN_step hx (Nat.le_refl _)]
      by_cases h0 : x.fKind = 0
      · rw [funsF_at hx, if_pos h0, List.cons_append, List.nil_append, chainI, List.all_cons]
        cases he : endAt l i with
        | none => simp
        | some e =>
          dsimp only
          obtain ⟨_, _, _, _, h3, h4⟩ := endAt_some he
          cases hf : fnOk l i e with
          | false => simp
          | true =>
            have hnf := fnOk_nofun hf (by omega)
            have hsk : funsF (l.drop (i + 1)) (i + 1) = funsF (l.drop (e + 1)) (e + 1) := by
              refine funsF_skip _ (Nat.le_refl _) (by omega) (by omega) fun j y h5 h6 hy => ?_
              by_cases hje : j = e
              · subst hje
                obtain ⟨z, hz, hz7⟩ := endAt_kind he
                rw [hy] at hz
                injection hz with hz
                subst hz
                omega
              · exact hnf j y (by omega) (by omega) hy
            cases n with
            | zero => omega
            | succ n =>
              have ih := chainI_eq (l := l) n (e + 1) (by omega) (by omega)
              rw [hsk]
              cases hnm : nameFirst l i with
              | false => simp
              | true =>
                rw [if_pos ⟨rfl, rfl, rfl⟩, if_pos ⟨h0, rfl⟩, ih]
                simp
      · have hc : (match endAt l i with | some e => if x.fKind = 0 ∧ fnOk l i e = true then chainN (fnOk l) l (l.length - (e + 1)) (e + 1) else false | none => false) = false := by
          cases endAt l i with
          | none => rfl
          | some e => dsimp only; rw [if_neg (by simp [h0])]
        rw [hc, Bool.and_false, Bool.false_and]
        rw [funsF_at hx, if_neg h0, List.nil_append]
        cases hfs : funsF (l.drop (i + 1)) (i + 1) with
        | nil =>
          rw [chainI]
          have : (i == l.length) = false := by rw [beq_eq_false_iff_ne]; omega
          rw [this, Bool.and_false]
        | cons k fs =>
          have hk : k ∈ funsF (l.drop (i + 1)) (i + 1) := by rw [hfs]; simp
          have := (funsF_lt hk).1
          rw [chainI]
          cases endAt l k with
          | none => rfl
          | some e => dsimp only; rw [if_neg (by omega)]
    · have : i = l.length := by omega
      subst this
      rw [List.drop_eq_nil_of_le (Nat.le_refl _), funsF, chainI, chainN_end (Nat.le_refl _)]
      simp
theorem chainS_eq {l : List TLine} : ∀ (n k : Nat), l.length - k ≤ n → k ≤ l.length → (∀ j m, j < k → endAt l j = some m → m < k) →
    (chainN (fnOkS l) l (l.length - k) k = (chainN (fnOk l) l (l.length - k) k && elsesIn l 0 l.length (l.length - k) k))
  | n, k, hn, hk, hP => by
    by_cases hlt : k < l.length
    · obtain ⟨x, hx⟩ := get_of_lt hlt
      rw [chainN_step hx (Nat.le_refl _), chainN_step hx (Nat.le_refl _)]
      cases he : endAt l k with
      | none => simp
      | some e =>
        dsimp only
        obtain ⟨_, hx', ho, _, h3, h4⟩ := endAt_some he
        obtain ⟨z, hz, hz7⟩ := endAt_kind he
        by_cases h0 : x.fKind = 0
        · have hP' : ∀ j m, j < e + 1 → endAt l j = some m → m < e + 1 := by
            intro j m hj hm
            rcases Nat.lt_trichotomy j k with hjk | hjk | hjk
            · have := hP j m hjk hm; omega
            · subst hjk
              rw [he] at hm
              injection hm with hm
              omega
            · obtain ⟨y, hy, hyo, _⟩ := endAt_some hm
              by_cases hje : j = e
              · subst hje
                rw [hz] at hy
                injection hy with hy
                subst hy
                rw [opensK_iff] at hyo
                omega
              · obtain ⟨m', hm', _, h5⟩ := endAt_in he hjk (by omega) hy hyo
                rw [hm] at hm'
                injection hm' with hm'
                omega
          cases n with
          | zero => omega
          | succ n =>
            have ih := chainS_eq (l := l) n (e + 1) (by omega) (by omega) hP'
            have hels : elsesIn l 0 l.length (l.length - k) k = (elsesIn l k e (e - (k + 1)) (k + 1) && elsesIn l 0 l.length (l.length - (e + 1)) (e + 1)) := by
              rw [Bool.eq_iff_iff, Bool.and_eq_true, elsesIn_iff (Nat.le_refl _), elsesIn_iff (Nat.le_refl _), elsesIn_iff (Nat.le_refl _)]
              constructor
              · intro H
                refine ⟨fun j y h5 h6 hy h7 => ?_, fun j y h5 h6 hy h7 => H j y (by omega) h6 hy h7⟩
                have := H j y (by omega) (by omega) hy h7
                rw [anyE_iff] at this ⊢
                obtain ⟨i, h8, h9, h10⟩ := this
                refine ⟨i, ?_, by omega, h10⟩
                rcases Nat.lt_or_ge i k with h11 | h11
                · obtain ⟨_, m, _, _, h12, _, h13, _⟩ := elseAt_some h10
                  have := hP i m h11 h12
                  omega
                · exact h11
              · rintro ⟨H1, H2⟩ j y h5 h6 hy h7
                rcases Nat.lt_or_ge e j with h8 | h8
                · exact H2 j y h8 h6 hy h7
                · have hje : j ≠ e := fun h => by
                    subst h
                    rw [hz] at hy
                    injection hy with hy
                    subst hy
                    omega
                  have hjk : j ≠ k := fun h => by
                    subst h
                    rw [hx] at hy
                    injection hy with hy
                    subst hy
                    omega
                  have := H1 j y (by omega) (by omega) hy h7
                  rw [anyE_iff] at this ⊢
                  obtain ⟨i, h9, h10, h11⟩ := this
                  exact ⟨i, by omega, by omega, h11⟩
            rw [hels, ih, fnOkS_eq]
            cases fnOk l k e <;> cases elsesIn l k e (e - (k + 1)) (k + 1) <;> simp [h0]
        · rw [if_neg (by simp [h0]), if_neg (by simp [h0])]; rfl
    · have : k = l.length := by omega
      subst this
      rw [chainN_end (Nat.le_refl _), chainN_end (Nat.le_refl _)]
      rw [Nat.sub_self]
      rfl
def mainName : List UInt8 := [109, 97, 105, 110]
def headOk (l : List TLine) : Bool := match l with
  | [] => false
  | x :: _ => x.fKind == 0 && (x.fName == mainName && x.fArgs.length == 0)
def programOk (l : List TLine) : Bool := decide (l.length ≤ 60) && (decide (1 ≤ (funs l).length ∧ (funs l).length ≤ 6) && (l.all lineOk && (headOk l && ((funs l).all (nameFirst l) && (chainN (fnOk l) l l.length 0 && elsesOk l)))))
theorem chainI_all (l : List TLine) : chainI l (funs l) 0 = ((funs l).all (nameFirst l) && (chainN (fnOk l) l l.length 0 && elsesOk l)) := by
  have := chainI_eq (l := l) _ 0 (Nat.le_refl _) (by omega)
  rw [List.drop_zero] at this
  rw [funs, this, Nat.sub_zero, Bool.and_assoc]
theorem chainS_all (l : List TLine) : chainN (fnOkS l) l l.length 0 = (chainN (fnOk l) l l.length 0 && elsesOk l) := by
  have := chainS_eq (l := l) _ 0 (Nat.le_refl _) (by omega) (fun j m h => by omega)
  rw [Nat.sub_zero] at this
  exact this
def StkOk (l : List TLine) (e : Nat) : Nat → List Nat → Prop
  | i, [] => endN (l.drop i) i 1 = some e
  | i, m :: es => i ≤ m ∧ endN (l.drop i) i 1 = some m ∧ StkOk l e (m + 1) es
theorem StkOk.push {l : List TLine} {e i : Nat} {es : List Nat} {x : TLine} (h : StkOk l e i es) (hx : l[i]? = some x) (ho : opensK x.fKind = true) : ∃ m, endAt l i = some m ∧ i < m ∧ StkOk l e (i + 1) (m :: es) := by
  have key : ∀ m', endN (l.drop i) i 1 = some m' → ∃ m, endAt l i = some m ∧ i < m ∧ endN (l.drop (i + 1)) (i + 1) 1 = some m ∧ endN (l.drop (m + 1)) (m + 1) 1 = some m' := by
    intro m' hm
    rw [endN_at hx, if_pos ho, endN_add _ (Nat.le_refl _) (Nat.le_refl 1) (Nat.le_refl 1)] at hm
    cases h1 : endN (l.drop (i + 1)) (i + 1) 1 with
    | none => rw [h1] at hm; cases hm
    | some m =>
      rw [h1] at hm
      have := endN_lt h1
      exact ⟨m, by rw [endAt_of hx ho]; exact h1, by omega, rfl, hm⟩
  cases es with
  | nil =>
    obtain ⟨m, h1, h2, h3, h4⟩ := key e h
    exact ⟨m, h1, h2, by omega, h3, h4⟩
  | cons m' es =>
    obtain ⟨g1, g2, g3⟩ := h
    obtain ⟨m, h1, h2, h3, h4⟩ := key m' g2
    have := endN_lt h4
    exact ⟨m, h1, h2, by omega, h3, by omega, h4, g3⟩
theorem StkOk.other {l : List TLine} {e i : Nat} {es : List Nat} {x : TLine} (h : StkOk l e i es) (hx : l[i]? = some x) (ho : opensK x.fKind = false) (h7 : x.fKind ≠ 7) : StkOk l e (i + 1) es := by
  have key : ∀ m', endN (l.drop i) i 1 = some m' → endN (l.drop (i + 1)) (i + 1) 1 = some m' := by
    intro m' hm
    rw [endN_at hx, if_neg (by simp [ho]), if_neg h7] at hm
    exact hm
  cases es with
  | nil => exact key e h
  | cons m' es =>
    obtain ⟨g1, g2, g3⟩ := h
    have := endN_lt (key m' g2)
    exact ⟨by omega, key m' g2, g3⟩
theorem StkOk.pop {l : List TLine} {e i : Nat} {es : List Nat} {x : TLine} (h : StkOk l e i es) (hx : l[i]? = some x) (h7 : x.fKind = 7) : (es = [] ∧ i = e) ∨ ∃ es', es = i :: es' ∧ StkOk l e (i + 1) es' := by
  have ho : ¬ opensK x.fKind = true := by rw [opensK_iff]; omega
  cases es with
  | nil =>
    unfold StkOk at h
    rw [endN_at hx, if_neg ho, if_pos h7, if_pos rfl] at h
    injection h with h
    exact .inl ⟨rfl, h⟩
  | cons m' es =>
    obtain ⟨g1, g2, g3⟩ := h
    rw [endN_at hx, if_neg ho, if_pos h7, if_pos rfl] at g2
    injection g2 with g2
    subst g2
    exact .inr ⟨es, rfl, g3⟩
end Go.Proofs.Ytehniaekfijmiaa
