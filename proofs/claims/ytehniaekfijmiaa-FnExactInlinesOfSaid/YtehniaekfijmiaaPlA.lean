/- Lines of programs in plain facts: ends, elses, functions, locals, and what makes a program right. No program in sight. -/
import Derived.Test.YtehniaekfijmiaaFnsPa
namespace Go.Proofs.Ytehniaekfijmiaa
open Go.Sim
set_option maxRecDepth 100000
set_option maxHeartbeats 4000000
def opensK (k : Int) : Bool := k == 0 || (k == 3 || k == 5)
theorem opensK_iff {k : Int} : opensK k = true ↔ k = 0 ∨ k = 3 ∨ k = 5 := by simp [opensK]
def endN : List TLine → Nat → Nat → Option Nat
  | [], _, _ => none
  | x :: l, i, o => if opensK x.fKind = true then endN l (i + 1) (o + 1) else if x.fKind = 7 then (if o = 1 then some i else endN l (i + 1) (o - 1)) else endN l (i + 1) o
def endAt (l : List TLine) (k : Nat) : Option Nat := match l[k]? with
  | some x => if opensK x.fKind = true then endN (l.drop (k + 1)) (k + 1) 1 else none
  | none => none
def endOf (l : List TLine) (k : Int) : Int := if 0 ≤ k then endI (endAt l k.toNat) else -1
theorem endN_at {l : List TLine} {i o : Nat} {x : TLine} (h : l[i]? = some x) : endN (l.drop i) i o = if opensK x.fKind = true then endN (l.drop (i + 1)) (i + 1) (o + 1) else if x.fKind = 7 then (if o = 1 then some i else endN (l.drop (i + 1)) (i + 1) (o - 1)) else endN (l.drop (i + 1)) (i + 1) o := by
  rw [drop_at h, endN]
theorem endN_no {l : List TLine} {i o : Nat} (h : l.length ≤ i) : endN (l.drop i) i o = none := by
  rw [List.drop_eq_nil_of_le h, endN]
theorem endN_ge : ∀ {l : List TLine} {i o e : Nat}, endN l i o = some e → i ≤ e ∧ e < i + l.length
  | [], _, _, _, h => by rw [endN] at h; cases h
  | x :: l, i, o, e, h => by
    rw [endN] at h
    simp only [List.length_cons]
    split at h
    · have := endN_ge h; omega
    · split at h
      · split at h
        · injection h with h; omega
        · have := endN_ge h; omega
      · have := endN_ge h; omega
theorem endN_lt {l : List TLine} {i o e : Nat} (h : endN (l.drop i) i o = some e) : i ≤ e ∧ e < l.length := by
  have := endN_ge h
  rw [List.length_drop] at this
  omega
theorem endN_add : ∀ {l : List TLine} {i : Nat} (n : Nat) {a b : Nat}, l.length - i ≤ n → 1 ≤ a → 1 ≤ b → endN (l.drop i) i (a + b) = (endN (l.drop i) i b).bind fun m => endN (l.drop (m + 1)) (m + 1) a
  | l, i, 0, a, b, hn, _, _ => by rw [endN_no (by omega), endN_no (by omega)]; rfl
  | l, i, n + 1, a, b, hn, ha, hb => by
    by_cases hi : i < l.length
    · obtain ⟨x, hx⟩ := get_of_lt hi
      rw [endN_at hx, endN_at hx]
      split
      · rw [show a + b + 1 = a + (b + 1) by omega]
        exact endN_add n (by omega) ha (by omega)
      · split
        · rw [if_neg (by omega)]
          by_cases h1 : b = 1
          · subst h1
            rw [if_pos rfl]
            rfl
          · rw [if_neg h1, show a + b - 1 = a + (b - 1) by omega]
            exact endN_add n (by omega) ha (by omega)
        · exact endN_add n (by omega) ha hb
    · rw [endN_no (by omega), endN_no (by omega)]; rfl
theorem endN_kind : ∀ {l : List TLine} {i : Nat} (n : Nat) {o e : Nat}, l.length - i ≤ n → endN (l.drop i) i o = some e → ∃ x, l[e]? = some x ∧ x.fKind = 7
  | l, i, 0, o, e, hn, h => by rw [endN_no (by omega)] at h; cases h
  | l, i, n + 1, o, e, hn, h => by
    by_cases hi : i < l.length
    · obtain ⟨x, hx⟩ := get_of_lt hi
      rw [endN_at hx] at h
      split at h
      · exact endN_kind n (by omega) h
      · split at h
        · split at h
          · injection h with h
            subst h
            exact ⟨x, hx, by assumption⟩
          · exact endN_kind n (by omega) h
        · exact endN_kind n (by omega) h
    · rw [endN_no (by omega)] at h; cases h
theorem endAt_some {l : List TLine} {k e : Nat} (h : endAt l k = some e) : ∃ x, l[k]? = some x ∧ opensK x.fKind = true ∧ endN (l.drop (k + 1)) (k + 1) 1 = some e ∧ k < e ∧ e < l.length := by
  unfold endAt at h
  split at h
  · rename_i x hx
    split at h
    · rename_i ho
      have := endN_lt h
      exact ⟨x, hx, ho, h, by omega, by omega⟩
    · cases h
  · cases h
theorem endAt_of {l : List TLine} {k : Nat} {x : TLine} (hx : l[k]? = some x) (ho : opensK x.fKind = true) : endAt l k = endN (l.drop (k + 1)) (k + 1) 1 := by
  unfold endAt
  rw [hx]
  dsimp only
  rw [if_pos ho]
theorem endAt_kind {l : List TLine} {k e : Nat} (h : endAt l k = some e) : ∃ x, l[e]? = some x ∧ x.fKind = 7 := by
  obtain ⟨_, _, _, h, _⟩ := endAt_some h
  exact endN_kind _ (Nat.le_refl _) h
theorem endN_lev : ∀ {l : List TLine} (n : Nat) {s o e i : Nat}, i - s ≤ n → 1 ≤ o → endN (l.drop s) s o = some e → s ≤ i → i ≤ e → ∃ o', 1 ≤ o' ∧ endN (l.drop i) i o' = some e
  | l, 0, s, o, e, i, hn, ho, h, h1, h2 => by
    have : s = i := by omega
    subst this
    exact ⟨o, ho, h⟩
  | l, n + 1, s, o, e, i, hn, ho, h, h1, h2 => by
    by_cases hs : s = i
    · subst hs; exact ⟨o, ho, h⟩
    have hl := endN_lt h
    obtain ⟨x, hx⟩ := get_of_lt (l := l) (k := s) (by omega)
    rw [endN_at hx] at h
    split at h
    · exact endN_lev n (by omega) (by omega) h (by omega) h2
    · split at h
      · split at h
        · injection h with h; omega
        · exact endN_lev n (by omega) (by omega) h (by omega) h2
      · exact endN_lev n (by omega) ho h (by omega) h2
theorem endAt_in {l : List TLine} {k e i : Nat} {x : TLine} (h : endAt l k = some e) (h1 : k < i) (h2 : i < e) (hx : l[i]? = some x) (ho : opensK x.fKind = true) : ∃ m, endAt l i = some m ∧ i < m ∧ m < e := by
  obtain ⟨_, _, _, he, _, hlt⟩ := endAt_some h
  obtain ⟨o, ho1, hlev⟩ := endN_lev _ (Nat.le_refl _) (Nat.le_refl 1) he (by omega : k + 1 ≤ i) (by omega)
  rw [endN_at hx, if_pos ho, endN_add _ (Nat.le_refl _) ho1 (Nat.le_refl 1)] at hlev
  cases hm : endN (l.drop (i + 1)) (i + 1) 1 with
  | none => rw [hm] at hlev; cases hlev
  | some m =>
    rw [hm] at hlev
    have h3 := endN_lt hm
    have h4 := endN_lt (show endN (l.drop (m + 1)) (m + 1) o = some e from hlev)
    exact ⟨m, by rw [endAt_of hx ho]; exact hm, by omega, by omega⟩
theorem endOf_at {l : List TLine} {k : Nat} : endOf l (k : Int) = endI (endAt l k) := by
  rw [endOf, if_pos (by omega), Int.toNat_natCast]
theorem endI_some {o : Option Nat} {n : Nat} (h : o = some n) : endI o = (n : Int) := by rw [h]; rfl
theorem endI_none {o : Option Nat} (h : o = none) : endI o = -1 := by rw [h]; rfl
def elseN (l : List TLine) (e : Nat) : Nat → Nat → Option Nat
  | 0, _ => none
  | n + 1, i => if i < e then (match l[i]? with
    | some x => if x.fKind = 4 then some i else if x.fKind = 3 ∨ x.fKind = 5 then (match endAt l i with
      | some m => elseN l e n (m + 1)
      | none => elseN l e n (i + 1)) else elseN l e n (i + 1)
    | none => none) else none
def elseAt (l : List TLine) (k : Nat) : Option Nat := match l[k]?, endAt l k with
  | some x, some e => if x.fKind = 3 then elseN l e (e - (k + 1)) (k + 1) else none
  | _, _ => none
def elseOf (l : List TLine) (k : Int) : Int := if 0 ≤ k then endI (elseAt l k.toNat) else -1
theorem elseN_more {l : List TLine} {e : Nat} : ∀ {n m i : Nat}, e - i ≤ n → e - i ≤ m → elseN l e n i = elseN l e m i
  | 0, 0, _, _, _ => rfl
  | 0, m + 1, i, h1, h2 => by rw [elseN, elseN, if_neg (by omega)]
  | n + 1, 0, i, h1, h2 => by rw [elseN, elseN, if_neg (by omega)]
  | n + 1, m + 1, i, h1, h2 => by
    rw [elseN, elseN]
    by_cases hi : i < e
    · rw [if_pos hi, if_pos hi]
      cases hx : l[i]? with
      | none => rfl
      | some x =>
        dsimp only
        split
        · rfl
        · split
          · cases hm : endAt l i with
            | none => exact elseN_more (by omega) (by omega)
            | some m' =>
              have := endAt_some hm
              obtain ⟨_, _, _, _, h3, _⟩ := this
              exact elseN_more (by omega) (by omega)
          · exact elseN_more (by omega) (by omega)
    · rw [if_neg hi, if_neg hi]
theorem elseN_step {l : List TLine} {e i : Nat} {x : TLine} (hi : i < e) (hx : l[i]? = some x) : elseN l e (e - i) i = if x.fKind = 4 then some i else if x.fKind = 3 ∨ x.fKind = 5 then (match endAt l i with
      | some m => elseN l e (e - (m + 1)) (m + 1)
      | none => elseN l e (e - (i + 1)) (i + 1)) else elseN l e (e - (i + 1)) (i + 1) := by
  obtain ⟨n, hn⟩ : ∃ n, e - i = n + 1 := ⟨e - i - 1, by omega⟩
  rw [hn, elseN, if_pos hi, hx]
  dsimp only
  split
  · rfl
  · split
    · cases hm : endAt l i with
      | none => exact elseN_more (by omega) (by omega)
      | some m =>
        obtain ⟨_, _, _, _, h3, _⟩ := endAt_some hm
        exact elseN_more (by omega) (by omega)
    · exact elseN_more (by omega) (by omega)
theorem elseN_end {l : List TLine} {e i n : Nat} (hi : e ≤ i) : elseN l e n i = none := by
  cases n with
  | zero => rfl
  | succ n => rw [elseN, if_neg (by omega)]
theorem elseN_in {l : List TLine} {e : Nat} : ∀ {n i j : Nat}, elseN l e n i = some j → i ≤ j ∧ j < e ∧ ∃ x, l[j]? = some x ∧ x.fKind = 4
  | 0, _, _, h => by rw [elseN] at h; cases h
  | n + 1, i, j, h => by
    rw [elseN] at h
    split at h
    · rename_i hi
      split at h
      · rename_i x hx
        split at h
        · injection h with h; subst h; exact ⟨by omega, hi, x, hx, by assumption⟩
        · split at h
          · split at h
            · rename_i m hm
              obtain ⟨_, _, _, _, h3, _⟩ := endAt_some hm
              have := elseN_in h
              exact ⟨by omega, this.2⟩
            · have := elseN_in h
              exact ⟨by omega, this.2⟩
          · have := elseN_in h
            exact ⟨by omega, this.2⟩
      · cases h
    · cases h
theorem elseAt_some {l : List TLine} {k j : Nat} (h : elseAt l k = some j) : ∃ x e, l[k]? = some x ∧ x.fKind = 3 ∧ endAt l k = some e ∧ k < j ∧ j < e ∧ ∃ y, l[j]? = some y ∧ y.fKind = 4 := by
  unfold elseAt at h
  split at h
  · rename_i x e hx he
    split at h
    · rename_i h3
      have := elseN_in h
      exact ⟨x, e, hx, h3, he, by omega, this.2⟩
    · cases h
  · cases h
def funsF : List TLine → Nat → List Nat
  | [], _ => []
  | x :: l, i => (if x.fKind = 0 then [i] else []) ++ funsF l (i + 1)
def funs (l : List TLine) : List Nat := funsF l 0
theorem funsF_at {l : List TLine} {i : Nat} {x : TLine} (hx : l[i]? = some x) : funsF (l.drop i) i = (if x.fKind = 0 then [i] else []) ++ funsF (l.drop (i + 1)) (i + 1) := by
  rw [drop_at hx, funsF]
theorem funsF_len : ∀ (l : List TLine) (i : Nat), (funsF l i).length ≤ l.length
  | [], _ => by simp [funsF]
  | x :: l, i => by
    have := funsF_len l (i + 1)
    rw [funsF, List.length_append, List.length_cons]
    split <;> simp <;> omega
theorem funsF_lt : ∀ {l : List TLine} {i k : Nat}, k ∈ funsF l i → i ≤ k ∧ k < i + l.length ∧ ∃ x, l[k - i]? = some x ∧ x.fKind = 0
  | [], _, _, h => by simp [funsF] at h
  | x :: l, i, k, h => by
    rw [funsF, List.mem_append] at h
    rcases h with h | h
    · split at h
      · simp only [List.mem_cons, List.not_mem_nil, or_false] at h
        subst h
        exact ⟨by omega, by simp, x, by simp, by assumption⟩
      · cases h
    · obtain ⟨h1, h2, y, hy, hk⟩ := funsF_lt h
      refine ⟨by omega, by simp only [List.length_cons]; omega, y, ?_, hk⟩
      rw [show k - i = (k - (i + 1)) + 1 by omega, List.getElem?_cons_succ]
      exact hy
theorem funs_lt {l : List TLine} {k : Nat} (h : k ∈ funs l) : k < l.length ∧ ∃ x, l[k]? = some x ∧ x.fKind = 0 := by
  have := funsF_lt h
  simpa using this.2
def findN : List TLine → Nat → List UInt8 → Option Nat
  | [], _, _ => none
  | x :: l, i, s => if x.fKind = 0 ∧ x.fName = s then some i else findN l (i + 1) s
def findF (l : List TLine) (s : List UInt8) : Int := endI (findN l 0 s)
theorem findN_at {l : List TLine} {i : Nat} {x : TLine} {s : List UInt8} (hx : l[i]? = some x) : findN (l.drop i) i s = if x.fKind = 0 ∧ x.fName = s then some i else findN (l.drop (i + 1)) (i + 1) s := by
  rw [drop_at hx, findN]
theorem findN_some : ∀ {l : List TLine} {i k : Nat} {s : List UInt8}, findN l i s = some k → i ≤ k ∧ k < i + l.length ∧ ∃ x, l[k - i]? = some x ∧ x.fKind = 0 ∧ x.fName = s
  | [], _, _, _, h => by rw [findN] at h; cases h
  | x :: l, i, k, s, h => by
    rw [findN] at h
    split at h
    · injection h with h; subst h
      exact ⟨by omega, by simp, x, by simp, by assumption⟩
    · obtain ⟨h1, h2, y, hy, hk⟩ := findN_some h
      refine ⟨by omega, by simp only [List.length_cons]; omega, y, ?_, hk⟩
      rw [show k - i = (k - (i + 1)) + 1 by omega, List.getElem?_cons_succ]
      exact hy
theorem find_some {l : List TLine} {k : Nat} {s : List UInt8} (h : findN l 0 s = some k) : k < l.length ∧ ∃ x, l[k]? = some x ∧ x.fKind = 0 ∧ x.fName = s := by
  have := findN_some h
  simpa using this.2
def addName (acc : List (List UInt8)) (s : List UInt8) : List (List UInt8) := if acc.contains s = true then acc else acc ++ [s]
def locN (l : List TLine) (e : Nat) : Nat → Nat → List (List UInt8) → List (List UInt8)
  | 0, _, acc => acc
  | n + 1, i, acc => if i < e then (match l[i]? with
    | some x => locN l e n (i + 1) (if x.fKind = 1 then addName acc x.fName else acc)
    | none => acc) else acc
def localsOf (l : List TLine) (k : Int) : List (List UInt8) := if 0 ≤ k then (match l[k.toNat]?, endAt l k.toNat with
  | some x, some e => if x.fKind = 0 then locN l e (e - k.toNat) k.toNat x.fArgs else []
  | _, _ => []) else []
theorem locN_step {l : List TLine} {e i : Nat} {x : TLine} {acc : List (List UInt8)} (hi : i < e) (hx : l[i]? = some x) : locN l e (e - i) i acc = locN l e (e - (i + 1)) (i + 1) (if x.fKind = 1 then addName acc x.fName else acc) := by
  rw [show e - i = (e - (i + 1)) + 1 by omega, locN, if_pos hi, hx]
theorem locN_end {l : List TLine} {e i n : Nat} {acc : List (List UInt8)} (hi : e ≤ i) : locN l e n i acc = acc := by
  cases n with
  | zero => rfl
  | succ n => rw [locN, if_neg (by omega)]
theorem addName_len (acc : List (List UInt8)) (s : List UInt8) : (addName acc s).length ≤ acc.length + 1 := by
  unfold addName
  split <;> simp
theorem locN_len {l : List TLine} {e : Nat} : ∀ (n i : Nat) (acc : List (List UInt8)), (locN l e n i acc).length ≤ acc.length + n
  | 0, _, _ => by simp [locN]
  | n + 1, i, acc => by
    rw [locN]
    split
    · split
      · refine Nat.le_trans (locN_len n _ _) ?_
        split
        · have := addName_len acc (by assumption : TLine).fName; omega
        · omega
      · omega
    · omega
def tokKnown (l : List TLine) (locals : List (List UInt8)) (t : TTok) : Bool :=
  if t.fKind = 1 then locals.contains t.fName
  else if t.fKind = 7 then (match findN l 0 t.fName with
    | some f => (match l[f]? with | some x => (x.fArgs.length : Int) == t.fNum | none => false)
    | none => false)
  else true
def exprKnown (l : List TLine) (locals : List (List UInt8)) (ts : List TTok) : Bool := ts.all (tokKnown l locals)
def dep (x : TLine) (d : Nat) : Nat := if x.fKind = 3 ∨ x.fKind = 5 then d + 1 else if x.fKind = 7 then d - 1 else d
def bodyN (l : List TLine) (locals : List (List UInt8)) (e : Nat) : Nat → Nat → Nat → Bool
  | 0, _, _ => true
  | n + 1, i, d => if i < e then (match l[i]? with
    | some x => if x.fKind = 0 then false else
      if dep x d ≤ 4 ∧ exprKnown l locals x.fExpr = true then bodyN l locals e n (i + 1) (dep x d) else false
    | none => false) else true
theorem bodyN_step {l : List TLine} {locals : List (List UInt8)} {e i d : Nat} {x : TLine} (hi : i < e) (hx : l[i]? = some x) : bodyN l locals e (e - i) i d = if x.fKind = 0 then false else if dep x d ≤ 4 ∧ exprKnown l locals x.fExpr = true then bodyN l locals e (e - (i + 1)) (i + 1) (dep x d) else false := by
  rw [show e - i = (e - (i + 1)) + 1 by omega, bodyN, if_pos hi, hx]
theorem bodyN_end {l : List TLine} {locals : List (List UInt8)} {e i d n : Nat} (hi : e ≤ i) : bodyN l locals e n i d = true := by
  cases n with
  | zero => rfl
  | succ n => rw [bodyN, if_neg (by omega)]
end Go.Proofs.Ytehniaekfijmiaa
