/- The size that the laws count in their arguments, on trees; what it bounds. -/
import Derived.Test.YtehniaekfijmiaaSimN
namespace Go.Sim
mutual
def szT : Tr → Int → Int
  | .str s, l => if l - s.length < 0 then -1 else l - s.length
  | .lst _ rows, l => if l - rows.length < 0 then -1 else szRs rows (l - rows.length)
  | .int _ _, l => l
  | .bool _, l => l
def szR : List Tr → Int → Int
  | [], l => l
  | c :: cs, l => if szT c l < 0 then -1 else szR cs (szT c l)
def szRs : List (List Tr) → Int → Int
  | [], l => l
  | r :: rs, l => if szR r l < 0 then -1 else szRs rs (szR r l)
end
mutual
def smallT (L : Int) : Tr → Prop
  | .str s => (s.length : Int) ≤ L
  | .lst _ rows => (rows.length : Int) ≤ L ∧ smallRs L rows
  | .int _ _ => True
  | .bool _ => True
def smallR (L : Int) : List Tr → Prop
  | [] => True
  | c :: cs => smallT L c ∧ smallR L cs
def smallRs (L : Int) : List (List Tr) → Prop
  | [] => True
  | r :: rs => smallR L r ∧ smallRs L rs
end
mutual
theorem szT_small {L : Int} : ∀ (t : Tr) (l : Int), 0 ≤ szT t l → l ≤ L → smallT L t ∧ szT t l ≤ l
  | .str s, l, h, hl => by
    rw [szT] at h ⊢
    rw [smallT]
    split at h
    · omega
    · rename_i h'; rw [if_neg h']; omega
  | .lst sz rows, l, h, hl => by
    rw [szT] at h ⊢
    rw [smallT]
    split at h
    · omega
    · rename_i h'
      rw [if_neg h']
      have := szRs_small rows _ h (by omega : l - rows.length ≤ L)
      exact ⟨⟨by omega, this.1⟩, by omega⟩
  | .int k n, l, h, hl => by rw [szT, smallT]; exact ⟨trivial, by omega⟩
  | .bool b, l, h, hl => by rw [szT, smallT]; exact ⟨trivial, by omega⟩
theorem szR_small {L : Int} : ∀ (cs : List Tr) (l : Int), 0 ≤ szR cs l → l ≤ L → smallR L cs ∧ szR cs l ≤ l
  | [], l, h, hl => by rw [szR, smallR]; exact ⟨trivial, by omega⟩
  | c :: cs, l, h, hl => by
    rw [szR] at h ⊢
    rw [smallR]
    split at h
    · omega
    · rename_i h'
      rw [if_neg h']
      have h1 := szT_small (L := L) c l (by omega) hl
      have h2 := szR_small (L := L) cs _ h (by omega)
      exact ⟨⟨h1.1, h2.1⟩, by omega⟩
theorem szRs_small {L : Int} : ∀ (rs : List (List Tr)) (l : Int), 0 ≤ szRs rs l → l ≤ L → smallRs L rs ∧ szRs rs l ≤ l
  | [], l, h, hl => by rw [szRs, smallRs]; exact ⟨trivial, by omega⟩
  | r :: rs, l, h, hl => by
    rw [szRs] at h ⊢
    rw [smallRs]
    split at h
    · omega
    · rename_i h'
      rw [if_neg h']
      have h1 := szR_small (L := L) r l (by omega) hl
      have h2 := szRs_small (L := L) rs _ h (by omega)
      exact ⟨⟨h1.1, h2.1⟩, by omega⟩
end
theorem smallRs_mem {L : Int} : ∀ {rows : List (List Tr)}, smallRs L rows → ∀ r ∈ rows, smallR L r
  | [], _, r, h => by cases h
  | r0 :: rs, h, r, hr => by
    rw [smallRs] at h
    rcases List.mem_cons.1 hr with rfl | hr
    · exact h.1
    · exact smallRs_mem h.2 r hr
def plainT : Tr → Prop
  | .int _ _ => True
  | .bool _ => True
  | _ => False
theorem szR_plain : ∀ (cs : List Tr) (l : Int), (∀ c ∈ cs, plainT c) → 0 ≤ l → szR cs l = l
  | [], l, _, _ => by rw [szR]
  | c :: cs, l, h, hl => by
    have hc : szT c l = l := by
      have := h c (by simp)
      cases c <;> simp only [plainT] at this <;> rw [szT]
    rw [szR, hc, if_neg (by omega)]
    exact szR_plain cs l (fun c hc => h c (by simp [hc])) hl
theorem szRs_plain : ∀ (rs : List (List Tr)) (l : Int), (∀ r ∈ rs, ∀ c ∈ r, plainT c) → 0 ≤ l → szRs rs l = l
  | [], l, _, _ => by rw [szRs]
  | r :: rs, l, h, hl => by
    rw [szRs, szR_plain r l (h r (by simp)) hl, if_neg (by omega)]
    exact szRs_plain rs l (fun r hr => h r (by simp [hr])) hl
theorem typedFs_mono {T T' : TypeId → List Tr → Prop} (h : ∀ t ts, T t ts → T' t ts) : ∀ {fs : List (Nat × Nat × TypeId)} {ts : List Tr}, typedFs T fs ts → typedFs T' fs ts
  | [], _, e => e
  | (_, _, _) :: _, _, ⟨xs, rest, e, h1, h2⟩ => ⟨xs, rest, e, h _ _ h1, typedFs_mono h h2⟩
theorem typed_succ {Γ : Env} : ∀ (n : Nat) (t : TypeId) (ts : List Tr), typed Γ n t ts → typed Γ (n + 1) t ts := by
  intro n
  induction n with
  | zero => intro t ts h; exact h.elim
  | succ n ih =>
    intro t ts h
    rw [typed] at h ⊢
    split at h
    · exact h
    · split at h
      · exact h
      · exact h
      · exact h
      · obtain ⟨rows, e, hl, hr⟩ := h
        exact ⟨rows, e, hl, fun r hr' => ih _ _ (hr r hr')⟩
      · exact typedFs_mono ih h
theorem typed_le {Γ : Env} {n m : Nat} (hnm : n ≤ m) {t : TypeId} {ts : List Tr} (h : typed Γ n t ts) : typed Γ m t ts := by
  induction hnm with
  | refl => exact h
  | step _ ih => exact typed_succ _ _ _ ih
def resC : Tr → RC'
  | .lst sz rows => .arr sz rows
  | .int k n => .t (.int k n)
  | .bool b => .t (.bool b)
  | .str s => .t (.str s)
theorem szR_nil (l : Int) : szR [] l = l := by rw [szR]
theorem szR_int {k : IntKind} {n l : Int} {cs : List Tr} (h : 0 ≤ l) : szR (.int k n :: cs) l = szR cs l := by rw [szR, szT, if_neg (by omega)]
theorem szR_bool {b : Bool} {l : Int} {cs : List Tr} (h : 0 ≤ l) : szR (.bool b :: cs) l = szR cs l := by rw [szR, szT, if_neg (by omega)]
theorem szR_str_neg {s : List UInt8} {l : Int} {cs : List Tr} (h : l - s.length < 0) : szR (.str s :: cs) l = -1 := by rw [szR, szT, if_pos h, if_pos (by omega)]
theorem szR_str {s : List UInt8} {l : Int} {cs : List Tr} (h : ¬ l - s.length < 0) : szR (.str s :: cs) l = szR cs (l - s.length) := by rw [szR, szT, if_neg h, if_neg h]
theorem szR_neg {c : Tr} {l : Int} {cs : List Tr} (h : szT c l < 0) : szR (c :: cs) l = -1 := by rw [szR, if_pos h]
theorem szR_pos {c : Tr} {l : Int} {cs : List Tr} (h : ¬ szT c l < 0) : szR (c :: cs) l = szR cs (szT c l) := by rw [szR, if_neg h]
end Go.Sim
