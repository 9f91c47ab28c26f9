/- Marks: what the laws' helpers write into slices, cell by cell, counting. No program in sight. -/
import Derived.Test.YtehniaekfijmiaaTyA
namespace Go.Proofs.Ytehniaekfijmiaa
open Go.Sim
set_option maxRecDepth 100000
def digs (n : Nat) (acc : List UInt8) : List UInt8 := if n = 0 then acc else digs (n / 10) (UInt8.ofNat (48 + n % 10) :: acc)
  termination_by n
  decreasing_by omega
def mText (k : Int) : List UInt8 := if k ≤ 0 then [109, 48] else 109 :: digs k.toNat []
mutual
def cnT : Tr → Nat
  | .lst _ rows => cnRs rows
  | _ => 1
def cnR : List Tr → Nat
  | [] => 0
  | c :: cs => cnT c + cnR cs
def cnRs : List (List Tr) → Nat
  | [] => 0
  | r :: rs => cnR r + cnRs rs
end
mutual
def mkT : Tr → Int → Tr
  | .int kd _, k => .int kd k
  | .bool _, k => .bool (k.tmod 3 == 0)
  | .str _, k => .str (mText k)
  | .lst sz rows, k => .lst sz (mkRs rows k)
def mkR : List Tr → Int → List Tr
  | [], _ => []
  | c :: cs, k => mkT c k :: mkR cs (k + (cnT c : Nat))
def mkRs : List (List Tr) → Int → List (List Tr)
  | [], _ => []
  | r :: rs, k => mkR r k :: mkRs rs (k + (cnR r : Nat))
end
theorem cnRs_append : ∀ (a b : List (List Tr)), cnRs (a ++ b) = cnRs a + cnRs b
  | [], b => by rw [List.nil_append, cnRs]; omega
  | r :: a, b => by rw [List.cons_append, cnRs, cnRs, cnRs_append a b]; omega
theorem mkRs_append : ∀ (a b : List (List Tr)) (k : Int), mkRs (a ++ b) k = mkRs a k ++ mkRs b (k + (cnRs a : Nat))
  | [], b, k => by rw [List.nil_append, cnRs, mkRs, List.nil_append]; simp
  | r :: a, b, k => by
    rw [List.cons_append, mkRs, mkRs, mkRs_append a b, cnRs, List.cons_append]
    congr 2
    congr 1
    omega
theorem mkRs_length : ∀ (a : List (List Tr)) (k : Int), (mkRs a k).length = a.length
  | [], _ => by rw [mkRs]
  | r :: a, k => by rw [mkRs, List.length_cons, List.length_cons, mkRs_length a]
theorem cnRs_le {rows : List (List Tr)} {M : Nat} (h : ∀ r ∈ rows, cnR r ≤ M) : cnRs rows ≤ rows.length * M := by
  induction rows with
  | nil => rw [cnRs]; omega
  | cons r rs ih =>
    rw [cnRs, List.length_cons, Nat.succ_mul]
    have h1 := h r (by simp)
    have h2 := ih fun r hr => h r (by simp [hr])
    omega
theorem cnRs_map_le {α : Type} {g : α → List Tr} {l : List α} {M : Nat} (h : ∀ x ∈ l, cnR (g x) ≤ M) : cnRs (l.map g) ≤ l.length * M := by
  have := cnRs_le (rows := l.map g) (M := M) fun r hr => by obtain ⟨x, hx, rfl⟩ := List.mem_map.1 hr; exact h x hx
  rwa [List.length_map] at this
theorem cnRs_snoc {α : Type} (g : α → List Tr) (a : List α) (x : α) : cnRs ((a ++ [x]).map g) = cnRs (a.map g) + cnR (g x) := by
  rw [List.map_append, cnRs_append, List.map_cons, List.map_nil, cnRs, cnRs]; omega
theorem mkRs_snoc {α : Type} (g : α → List Tr) (a : List α) (x : α) (k : Int) : mkRs ((a ++ [x]).map g) k = mkRs (a.map g) k ++ [mkR (g x) (k + (cnRs (a.map g) : Nat))] := by
  rw [List.map_append, mkRs_append, List.map_cons, List.map_nil, mkRs, mkRs]
theorem mid_get {α : Type} {D t : List α} {r : α} {n : Nat} (h : D.length = n) : (D ++ r :: t)[n]? = some r := by
  subst h; simp
theorem mid_set {α : Type} {D t : List α} {r r' : α} {n : Nat} (h : D.length = n) : (D ++ r :: t).set n r' = D ++ r' :: t := by
  subst h; simp
theorem set_get {α : Type} {l : List α} {r : α} {n : Nat} (h : n < l.length) : (l.set n r)[n]? = some r := by simp [h]
theorem set_set {α : Type} (l : List α) (r r' : α) (n : Nat) : (l.set n r).set n r' = l.set n r' := List.set_set ..
theorem deepRows_append (a b : List (List Tr)) : deepRows (a ++ b) = deepRows a ++ deepRows b := by simp [deepRows]
theorem deepRows_length (a : List (List Tr)) : (deepRows a).length = a.length := by simp [deepRows]
theorem deepRows_cons (r : List Tr) (b : List (List Tr)) : deepRows (r :: b) = r.map .d :: deepRows b := by simp [deepRows]
theorem undeep (a : List (List Tr)) : (deepRows a).map (·.map DC.tr) = a := by
  rw [deepRows, List.map_map]
  conv => rhs; rw [← List.map_id a]
  apply List.map_congr_left
  intro r _
  simp only [Function.comp, List.map_map, id]
  conv => rhs; rw [← List.map_id r]
  apply List.map_congr_left
  intro x _
  rfl
theorem deep_eq (sz : Nat) (a : List (List Tr)) : Tr.lst sz a = Tr.lst sz ((deepRows a).map (·.map DC.tr)) := by rw [undeep]
theorem deepRows_get {l : List (List Tr)} {k : Nat} {r : List Tr} (h : l[k]? = some r) : (deepRows l)[k]? = some (r.map .d) := by simp [deepRows, h]
theorem deepRows_set (l : List (List Tr)) (k : Nat) (r : List Tr) : (deepRows l).set k (r.map .d) = deepRows (l.set k r) := by simp [deepRows, List.map_set]
theorem seq_inl {A : Prop} {Q : (ι : Type) → (ι → St) → Prop} (h : A) : A ∨ ∃ (ι : Type) (S : ι → St), Q ι S := Or.inl h
theorem flat_map {α : Type} {g : α → List Tr} (l : List α) (h : ∀ x, ∀ c ∈ g x, ∀ sz rs, c ≠ .lst sz rs) : flat (l.map g) := by
  intro row hr c hc sz rs
  obtain ⟨x, _, rfl⟩ := List.mem_map.1 hr
  exact h x c hc sz rs
theorem snoc_cons {α : Type} (a b : List α) (x : α) : a ++ [x] ++ b = a ++ x :: b := by simp
end Go.Proofs.Ytehniaekfijmiaa
