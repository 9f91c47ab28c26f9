/- Slices of whole numbers: the copy, the comparison; PackInts in both texts. -/
import Derived.Test.YtnadkeiidbgmjaaFnsB
import Derived.Test.YtnadkeiidbgmjaaTyA
namespace Go.Proofs.Ytnadkeiidbgmjaa
open Go.Sim
set_option maxRecDepth 100000
abbrev tvL (sz : Nat) (rows : List (List Tr)) : TV := .c (.lst sz rows)
abbrev rL (sz : Nat) (rows : List (List Tr)) : Res := .r (.c (.arr sz rows))
def filled {α : Type} (l : List α) (z : α) (k : Nat) : List α := l.take k ++ List.replicate (l.length - k) z
theorem filled_zero {α : Type} (l : List α) (z : α) : List.replicate l.length z = filled l z 0 := by simp [filled]
theorem filled_all {α : Type} {l : List α} {z : α} {k : Nat} (h : l.length ≤ k) : filled l z k = l := by
  simp [filled, List.take_of_length_le h, Nat.sub_eq_zero_of_le h]
theorem filled_len {α : Type} {l : List α} {z : α} {k : Nat} (h : k ≤ l.length) : (filled l z k).length = l.length := by
  simp [filled]; omega
theorem filled_get {α : Type} {l : List α} {z : α} {k : Nat} (h : k < l.length) : (filled l z k)[k]? = some z := by
  rw [filled, List.getElem?_append_right (by simp; omega), List.getElem?_replicate, if_pos (by simp; omega)]
theorem filled_set {α : Type} {l : List α} {z x : α} {k : Nat} (h : l[k]? = some x) : (filled l z k).set k x = filled l z (k + 1) := by
  have hk : k < l.length := by
    rcases Nat.lt_or_ge k l.length with h' | h'
    · exact h'
    · rw [List.getElem?_eq_none h'] at h; cases h
  have hx : l[k] = x := by rw [List.getElem?_eq_getElem hk] at h; injection h
  obtain ⟨m, hm⟩ : ∃ m, l.length - k = m + 1 := ⟨l.length - k - 1, by omega⟩
  rw [filled, filled, List.set_append_right _ _ (by simp; omega), hm, List.replicate_succ, List.take_succ_eq_append_getElem hk, hx, show l.length - (k + 1) = m by omega]
  simp [Nat.min_eq_left (Nat.le_of_lt hk)]
theorem map_get {α β : Type} {f : α → β} {l : List α} {k : Nat} {x : α} (h : l[k]? = some x) : (l.map f)[k]? = some (f x) := by simp [h]
theorem get_of_lt {α : Type} {l : List α} {k : Nat} (h : k < l.length) : ∃ x, l[k]? = some x := ⟨_, List.getElem?_eq_getElem h⟩
theorem drop_at {α : Type} {l : List α} {k : Nat} {x : α} (h : l[k]? = some x) : l.drop k = x :: l.drop (k + 1) := by
  have hk : k < l.length := by
    rcases Nat.lt_or_ge k l.length with h' | h'
    · exact h'
    · rw [List.getElem?_eq_none h'] at h; cases h
  rw [List.getElem?_eq_getElem hk] at h
  injection h with h
  rw [← h]
  exact List.drop_eq_getElem_cons hk
end Go.Proofs.Ytnadkeiidbgmjaa
