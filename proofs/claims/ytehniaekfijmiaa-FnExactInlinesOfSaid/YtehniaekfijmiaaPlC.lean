/- The records of replaced calls of a list of places. Plain facts. -/
import Derived.Test.YtehniaekfijmiaaFnsPg
import Derived.Test.YtehniaekfijmiaaFnsR
import Derived.Test.YtehniaekfijmiaaFnsL
import Derived.Test.YtehniaekfijmiaaFnsN
namespace Go.Proofs.Ytehniaekfijmiaa
open Go.Sim
set_option maxRecDepth 100000
set_option maxHeartbeats 4000000
def nameAtI (p : List TLine) (x : TItem) (lv : Nat) : List UInt8 := match x.fChain[lv + 1]? with | some c => functionOfLine p c | none => functionOfLine p x.fLine
def joinsI (p : List TLine) (ch : List Int) (lv : Nat) (nm : List UInt8) (y : TPlace) : Bool := decide (lv < y.fItem.fChain.length) && ((y.fItem.fChain.take (lv + 1) == ch.take (lv + 1)) && (nameAtI p y.fItem lv == nm))
def runN (p : List TLine) (ch : List Int) (lv : Nat) (nm : List UInt8) : List TPlace → Nat → Nat
  | [], k => k
  | y :: r, k => if joinsI p ch lv nm y = true then runN p ch lv nm r (k + 1) else k
theorem runN_at {p : List TLine} {ch : List Int} {lv : Nat} {nm : List UInt8} {l : List TPlace} {k : Nat} {y : TPlace} (hy : l[k]? = some y) : runN p ch lv nm (l.drop k) k = if joinsI p ch lv nm y = true then runN p ch lv nm (l.drop (k + 1)) (k + 1) else k := by
  rw [drop_at hy, runN]
theorem runN_end {p : List TLine} {ch : List Int} {lv : Nat} {nm : List UInt8} {l : List TPlace} {k : Nat} (h : l.length ≤ k) : runN p ch lv nm (l.drop k) k = k := by
  rw [List.drop_eq_nil_of_le h, runN]
theorem runN_le {p : List TLine} {ch : List Int} {lv : Nat} {nm : List UInt8} : ∀ {l : List TPlace} {k : Nat}, k ≤ runN p ch lv nm l k ∧ runN p ch lv nm l k ≤ k + l.length
  | [], k => by rw [runN]; exact ⟨Nat.le_refl _, by omega⟩
  | y :: r, k => by
    rw [runN]
    split
    · have := runN_le (p := p) (ch := ch) (lv := lv) (nm := nm) (l := r) (k := k + 1)
      simp only [List.length_cons]
      omega
    · simp only [List.length_cons]; omega
def endPl (x : TPlace) : Int := x.fOffset + opSize x.fItem.fOp.fCode
def inlRec (p : List TLine) (lv : Nat) (x : TPlace) (c : Int) (last : TPlace) : TInline := ⟨x.fOffset, endPl last, lv, c, nameAtI p x.fItem lv⟩
def lvN (p : List TLine) (l : List TPlace) (lv : Nat) : Nat → Nat → List TInline
  | 0, _ => []
  | n + 1, i => match l[i]? with
    | none => []
    | some x => match x.fItem.fChain[lv]? with
      | none => lvN p l lv n (i + 1)
      | some c => match l[runN p x.fItem.fChain lv (nameAtI p x.fItem lv) (l.drop (i + 1)) (i + 1) - 1]? with
        | none => []
        | some y => inlRec p lv x c y :: lvN p l lv n (runN p x.fItem.fChain lv (nameAtI p x.fItem lv) (l.drop (i + 1)) (i + 1))
theorem lvN_more {p : List TLine} {l : List TPlace} {lv : Nat} : ∀ {n m i : Nat}, l.length - i ≤ n → l.length - i ≤ m → lvN p l lv n i = lvN p l lv m i
  | 0, 0, _, _, _ => rfl
  | 0, m + 1, i, h, _ => by rw [lvN, lvN, List.getElem?_eq_none (by omega)]
  | n + 1, 0, i, _, h => by rw [lvN, lvN, List.getElem?_eq_none (by omega)]
  | n + 1, m + 1, i, h1, h2 => by
    rw [lvN, lvN]
    cases l[i]? with
    | none => rfl
    | some x =>
      dsimp only
      cases x.fItem.fChain[lv]? with
      | none => exact lvN_more (by omega) (by omega)
      | some c =>
        dsimp only
        have hr := runN_le (p := p) (ch := x.fItem.fChain) (lv := lv) (nm := nameAtI p x.fItem lv) (l := l.drop (i + 1)) (k := i + 1)
        generalize runN p x.fItem.fChain lv (nameAtI p x.fItem lv) (l.drop (i + 1)) (i + 1) = k at *
        cases l[k - 1]? with
        | none => rfl
        | some y =>
          dsimp only
          rw [lvN_more (n := n) (m := m) (by omega) (by omega)]
theorem lvN_step {p : List TLine} {l : List TPlace} {lv i : Nat} {x : TPlace} (hx : l[i]? = some x) : lvN p l lv (l.length - i) i = match x.fItem.fChain[lv]? with
      | none => lvN p l lv (l.length - (i + 1)) (i + 1)
      | some c => match l[runN p x.fItem.fChain lv (nameAtI p x.fItem lv) (l.drop (i + 1)) (i + 1) - 1]? with
        | none => []
        | some y => inlRec p lv x c y :: lvN p l lv (l.length - runN p x.fItem.fChain lv (nameAtI p x.fItem lv) (l.drop (i + 1)) (i + 1)) (runN p x.fItem.fChain lv (nameAtI p x.fItem lv) (l.drop (i + 1)) (i + 1)) := by
  have hk : i < l.length := by
    rcases Nat.lt_or_ge i l.length with h | h
    · exact h
    · rw [List.getElem?_eq_none h] at hx; cases hx
  rw [show l.length - i = (l.length - (i + 1)) + 1 by omega, lvN, hx]
  dsimp only
  cases x.fItem.fChain[lv]? with
  | none => rfl
  | some c =>
    dsimp only
    have hr := runN_le (p := p) (ch := x.fItem.fChain) (lv := lv) (nm := nameAtI p x.fItem lv) (l := l.drop (i + 1)) (k := i + 1)
    generalize runN p x.fItem.fChain lv (nameAtI p x.fItem lv) (l.drop (i + 1)) (i + 1) = k at *
    cases l[k - 1]? with
    | none => rfl
    | some y =>
      dsimp only
      rw [lvN_more (n := l.length - (i + 1)) (m := l.length - k) (by omega) (by omega)]
def atLv (lv : Nat) (l : List TPlace) : Nat := (l.filter fun x => decide (lv < x.fItem.fChain.length)).length
theorem atLv_drop {lv : Nat} {l : List TPlace} {i : Nat} {x : TPlace} (hx : l[i]? = some x) : atLv lv (l.drop i) = (if lv < x.fItem.fChain.length then 1 else 0) + atLv lv (l.drop (i + 1)) := by
  rw [drop_at hx, atLv, List.filter_cons]
  by_cases h : lv < x.fItem.fChain.length
  · rw [if_pos (by simpa using h), if_pos h, List.length_cons, Nat.add_comm]; rfl
  · rw [if_neg (by simpa using h), if_neg h, Nat.zero_add]; rfl
theorem atLv_le {lv : Nat} {l : List TPlace} : ∀ {i k : Nat}, i ≤ k → atLv lv (l.drop k) ≤ atLv lv (l.drop i) := by
  intro i k h
  have : l.drop k = (l.drop i).drop (k - i) := by rw [List.drop_drop]; congr 1; omega
  rw [this, atLv, atLv]
  exact ((List.drop_sublist _ _).filter _).length_le
theorem lvN_len {p : List TLine} {l : List TPlace} {lv : Nat} : ∀ {n i : Nat}, (lvN p l lv n i).length ≤ atLv lv (l.drop i)
  | 0, _ => by simp [lvN]
  | n + 1, i => by
    rw [lvN]
    cases hx : l[i]? with
    | none => simp
    | some x =>
      dsimp only
      rw [atLv_drop hx]
      cases hc : x.fItem.fChain[lv]? with
      | none => have := lvN_len (p := p) (l := l) (lv := lv) (n := n) (i := i + 1); dsimp only; omega
      | some c =>
        dsimp only
        have hlt : lv < x.fItem.fChain.length := by
          rcases Nat.lt_or_ge lv x.fItem.fChain.length with h | h
          · exact h
          · rw [List.getElem?_eq_none h] at hc; cases hc
        rw [if_pos hlt]
        have hr := runN_le (p := p) (ch := x.fItem.fChain) (lv := lv) (nm := nameAtI p x.fItem lv) (l := l.drop (i + 1)) (k := i + 1)
        generalize runN p x.fItem.fChain lv (nameAtI p x.fItem lv) (l.drop (i + 1)) (i + 1) = k at *
        cases l[k - 1]? with
        | none => simp
        | some y =>
          have h1 := lvN_len (p := p) (l := l) (lv := lv) (n := n) (i := k)
          have h2 := atLv_le (lv := lv) (l := l) hr.1
          rw [List.length_cons]
          omega
def deepF : List TPlace → Nat → Nat
  | [], d => d
  | x :: r, d => deepF r (max d x.fItem.fChain.length)
theorem deepF_at {l : List TPlace} {k d : Nat} {x : TPlace} (hx : l[k]? = some x) : deepF (l.drop k) d = deepF (l.drop (k + 1)) (max d x.fItem.fChain.length) := by
  rw [drop_at hx, deepF]
def lvls (p : List TLine) (l : List TPlace) : Nat → Nat → List TInline
  | 0, _ => []
  | n + 1, lv => lvN p l lv l.length 0 ++ lvls p l n (lv + 1)
def inlinesOf (p : List TLine) (l : List TPlace) : List TInline := if programOk p = true ∧ near l = true then lvls p l (deepF l 0) 0 else []
def chains : List TPlace → Nat
  | [] => 0
  | x :: r => x.fItem.fChain.length + chains r
def chainsFrom (lv : Nat) : List TPlace → Nat
  | [] => 0
  | x :: r => (x.fItem.fChain.length - lv) + chainsFrom lv r
theorem chainsFrom_zero : ∀ l : List TPlace, chainsFrom 0 l = chains l
  | [] => rfl
  | x :: r => by rw [chainsFrom, chains, chainsFrom_zero, Nat.sub_zero]
theorem chainsFrom_at (lv : Nat) : ∀ l : List TPlace, chainsFrom lv l = atLv lv l + chainsFrom (lv + 1) l
  | [] => rfl
  | x :: r => by
    have h0 := atLv_drop (lv := lv) (l := x :: r) (i := 0) (x := x) rfl
    rw [List.drop_zero] at h0
    have h1 : List.drop (0 + 1) (x :: r) = r := rfl
    rw [h1] at h0
    rw [chainsFrom, chainsFrom, chainsFrom_at lv r, h0]
    split <;> omega
theorem lvls_len {p : List TLine} {l : List TPlace} : ∀ {n lv : Nat}, (lvls p l n lv).length ≤ chainsFrom lv l
  | 0, _ => by simp [lvls]
  | n + 1, lv => by
    have h1 := lvls_len (p := p) (l := l) (n := n) (lv := lv + 1)
    have h2 := lvN_len (p := p) (l := l) (lv := lv) (n := l.length) (i := 0)
    rw [List.drop_zero] at h2
    rw [lvls, List.length_append, chainsFrom_at]
    omega
theorem szRs_ints : ∀ (ns : List Int) (l : Int), 0 ≤ l → szRs (ns.map intRow) l = l
  | [], l, _ => by rw [List.map_nil, szRs]
  | n :: ns, l, h => by
    have e : szR (intRow n) l = l := by rw [intRow, szR_int h, szR_nil]
    rw [List.map_cons, szRs, e, if_neg (by omega)]
    exact szRs_ints ns l h
theorem chains_le : ∀ (l : List TPlace) (z : Int), 0 ≤ z → 0 ≤ szRs (l.map TPlace.tr) z → (chains l : Int) ≤ z - szRs (l.map TPlace.tr) z
  | [], z, hz, h => by simp [szRs, chains]
  | x :: r, z, hz, h => by
    have hx : szR x.tr z = if z - x.fItem.fChain.length < 0 then -1 else z - x.fItem.fChain.length := by
      unfold TPlace.tr
      show szR ([_, _, _, _, _, .lst 1 (x.fItem.fChain.map intRow), _, _]) z = _
      rw [szR_int hz, szR_int hz, szR_int hz, szR_int hz, szR_bool hz]
      by_cases h1 : z - x.fItem.fChain.length < 0
      · rw [if_pos h1, szR_neg]
        rw [szT, List.length_map, if_pos h1]
        omega
      · have e : szT (.lst 1 (x.fItem.fChain.map intRow)) z = z - x.fItem.fChain.length := by
          rw [szT, List.length_map, if_neg h1, szRs_ints _ _ (by omega)]
        rw [if_neg h1, szR_pos (by rw [e]; omega), e, szR_int (by omega), szR_bool (by omega), szR_nil]
    rw [List.map_cons, szRs, hx] at h ⊢
    by_cases h1 : z - x.fItem.fChain.length < 0
    · rw [if_pos h1, if_pos (by omega)] at h; omega
    · rw [if_neg h1, if_neg h1] at h ⊢
      have := chains_le r (z - x.fItem.fChain.length) (by omega) h
      rw [chains]
      omega
end Go.Proofs.Ytehniaekfijmiaa
